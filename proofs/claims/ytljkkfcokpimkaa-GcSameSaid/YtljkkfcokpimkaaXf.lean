/- Operations of one region in another order: the plain machine comes to the same. -/
import Derived.Test.YtljkkfcokpimkaaXa
set_option linter.unusedVariables false
set_option linter.unusedSimpArgs false
namespace Go.Proofs.Ytljkkfcokpimkaa.X
open Go

/-! ### What an operation looks at -/
def Opd.rd : Opd → List Nat
  | .t n => [n]
  | .c _ => []
def IOp.opds : IOp → List Opd
  | .mv x => [x]
  | .pick c a b => [c, a, b]
  | .al .. => []
  | .bx _ _ x => [x]
  | .build _ ps => ps.map (·.2.2)
  | .mksl _ _ _ _ ps => ps.map (·.2.2)
  | .ld _ x => [x]
  | .st _ x y => [x, y]
  | .nilc x => [x]
  | .bin _ _ x y => [x, y]
  | .un _ x => [x]
  | .cv _ _ x => [x]
  | .mkf _ f c => f ++ c
  | .mks _ _ _ _ l c => [l, c]
  | .sli _ x lo hi m => x :: (lo.toList ++ (hi.toList ++ m.toList))
  | .fa _ x => [x]
  | .fld _ _ x => [x]
  | .ia _ _ x i => [x, i]
  | .ix _ x i => [x, i]
  | .ext x _ => [x]
  | .call _ args => args
  | .callv x args => x :: args
  | .app _ _ _ _ x y => [x, y]
  | .grow _ _ _ _ x n => [x, n]
  | .clear _ x => [x]
  | .copy _ x y => [x, y]
  | .len _ x => [x]
  | .cap x => [x]
  | .mn xs => xs
  | .mx xs => xs
def rds (l : List Opd) : List Nat := l.flatMap Opd.rd

theorem eval_put {tm : List AV} {d : Option Nat} {v : AV} {x : Opd} (h : ∀ t, d = some t → t ∉ x.rd) : x.eval (put tm d v) = x.eval tm := by
  cases x with
  | c a => rfl
  | t n =>
    cases d with
    | none => rfl
    | some t =>
      have hne : t ≠ n := fun e => h t rfl (by simp [Opd.rd, e])
      simp only [Opd.eval, put, List.getD_eq_getElem?_getD, List.getElem?_set]
      rw [if_neg hne]
theorem fillParts_congr {tm tm' : List AV} : ∀ (ps : List (Nat × Nat × Opd)) (cs : List AV), (∀ x ∈ ps.map (·.2.2), x.eval tm = x.eval tm') → fillParts tm cs ps = fillParts tm' cs ps
  | [], _, _ => rfl
  | (off, n, x) :: ps, cs, h => by
    have hx := h x (by simp)
    simp only [fillParts, hx]
    split
    · exact fillParts_congr ps _ fun y hy => h y (by simp at hy ⊢; exact .inr hy)
    · rfl
theorem evOp_congr {call : CallF} {b : Nat} {tm tm' : List AV} {m : Mem} {op : IOp} (h : ∀ x ∈ op.opds, x.eval tm = x.eval tm') : evOp call b tm m op = evOp call b tm' m op := by
  have lst : ∀ l : List Opd, (∀ x ∈ l, x.eval tm = x.eval tm') → l.map (·.eval tm) = l.map (·.eval tm') := fun l hl => List.map_congr_left hl
  cases op
  case build tpl ps => simp only [evOp, fillParts_congr ps tpl (by simpa [IOp.opds] using h)]
  case mksl s e tpl len ps => simp only [evOp, fillParts_congr ps tpl (by simpa [IOp.opds] using h)]
  case mkf f x c =>
    simp only [IOp.opds, List.mem_append] at h
    simp only [evOp, lst x fun y hy => h y (.inl hy), lst c fun y hy => h y (.inr hy)]
  case call f args => simp only [evOp, lst args (by simpa [IOp.opds] using h)]
  case callv x args =>
    simp only [IOp.opds, List.mem_cons] at h
    simp only [evOp, h x (.inl rfl), lst args fun y hy => h y (.inr hy)]
  case mn xs => simp only [evOp, lst xs (by simpa [IOp.opds] using h)]
  case mx xs => simp only [evOp, lst xs (by simpa [IOp.opds] using h)]
  case sli k x lo hi mx =>
    have e1 := h x (by simp [IOp.opds])
    have e2 : lo.map (·.eval tm) = lo.map (·.eval tm') := by cases lo <;> simp [IOp.opds] at h ⊢; simp [h]
    have e3 : hi.map (·.eval tm) = hi.map (·.eval tm') := by cases hi <;> simp [IOp.opds] at h ⊢; simp [h]
    have e4 : mx.map (·.eval tm) = mx.map (·.eval tm') := by cases mx <;> simp [IOp.opds] at h ⊢; simp [h]
    simp only [evOp, e1, e2, e3, e4]
  case cv s c x =>
    have e1 := h x (by simp [IOp.opds])
    cases c <;> simp only [evOp, e1]
  case ld n x =>
    have e1 := h x (by simp [IOp.opds])
    cases n <;> simp only [evOp, e1]
  case len n x =>
    have e1 := h x (by simp [IOp.opds])
    cases n <;> simp only [evOp, e1]
  case ia a z x i =>
    have e1 := h x (by simp [IOp.opds])
    have e2 := h i (by simp [IOp.opds])
    cases a <;> simp only [evOp, e1, e2]
  case ix a x i =>
    have e1 := h x (by simp [IOp.opds])
    have e2 := h i (by simp [IOp.opds])
    cases a <;> simp only [evOp, e1, e2]
  all_goals
    simp only [IOp.opds, List.mem_cons, List.not_mem_nil, or_false, forall_eq_or_imp, forall_eq] at h
    simp only [evOp, h]
theorem evOp_put {call : CallF} {b : Nat} {tm : List AV} {d : Option Nat} {v : AV} {m : Mem} {op : IOp} (h : ∀ t, d = some t → t ∉ rds op.opds) : evOp call b (put tm d v) m op = evOp call b tm m op :=
  evOp_congr fun x hx => eval_put fun t ht hm => h t ht (List.mem_flatMap.2 ⟨x, hx, hm⟩)

/-! ### Kinds of operations -/
inductive Cl where
  | P   -- memory is not asked
  | R   -- memory is read
  | A   -- a new block of a number that was kept
  | H   -- anything
  deriving DecidableEq
def IOp.slotOf : IOp → Option Nat
  | .al s .. => s
  | .bx s .. => s
  | .mksl s .. => s
  | .mks s .. => s
  | .cv s (.s2b _) _ => s
  | _ => none
def clS : Option Nat → Cl
  | some _ => .A
  | none => .H
def IOp.cl : IOp → Cl
  | .al s .. => clS s
  | .bx s .. => clS s
  | .mksl s .. => clS s
  | .mks s .. => clS s
  | .cv s c _ => match c with
    | .toInt _ | .same => .P
    | .b2s | .keep => .R
    | .s2b _ => clS s
  | .ld .. => .R
  | .st .. | .call .. | .callv .. | .app .. | .grow .. | .clear .. | .copy .. => .H
  | .mv _ | .pick .. | .build .. | .nilc _ | .bin .. | .un .. | .mkf .. | .sli .. | .fa .. | .fld .. | .ia .. | .ix .. | .ext .. | .len .. | .cap _ | .mn _ | .mx _ => .P

theorem evOp_P {call : CallF} {b : Nat} {tm : List AV} {m m' : Mem} {op : IOp} {v : AV} (hc : op.cl = .P) (h : evOp call b tm m op = some (v, m')) : m' = m ∧ ∀ (call' : CallF) (m2 : Mem), evOp call' b tm m2 op = some (v, m2) := by
  have pureK : ∀ o : Option AV, pureOp o m = some (v, m') → m' = m ∧ ∀ m2, pureOp o m2 = some (v, m2) := fun o h => by
    obtain ⟨h1, h2⟩ := pureOp_some h
    exact ⟨h2, fun m2 => by rw [h1]; rfl⟩
  cases op <;> simp [IOp.cl] at hc
  case cv s c x =>
    cases c <;> simp at hc
    case s2b => cases s <;> simp [clS] at hc
    all_goals
      simp only [evOp] at h ⊢
      split at h
      · injection h with h; injection h with h1 h2; exact ⟨h2.symm, fun _ m2 => by rw [← h1]⟩
      · cases h
  case al s _ _ => cases s <;> simp [clS] at hc
  case bx s _ _ => cases s <;> simp [clS] at hc
  case mksl s _ _ _ _ => cases s <;> simp [clS] at hc
  case mks s _ _ _ _ _ => cases s <;> simp [clS] at hc
  case len n x =>
    cases n
    all_goals
      simp only [evOp] at h ⊢
      split at h <;> first
        | (injection h with h; injection h with h1 h2; exact ⟨h2.symm, fun _ m2 => by rw [← h1]⟩)
        | cases h
  case bin => simp only [evOp] at h ⊢; exact ⟨(pureK _ h).1, fun _ => (pureK _ h).2⟩
  case un => simp only [evOp] at h ⊢; exact ⟨(pureK _ h).1, fun _ => (pureK _ h).2⟩
  case build => simp only [evOp] at h ⊢; exact ⟨(pureK _ h).1, fun _ => (pureK _ h).2⟩
  case sli => simp only [evOp] at h ⊢; exact ⟨(pureK _ h).1, fun _ => (pureK _ h).2⟩
  case ia a z x i =>
    cases a
    all_goals
      simp only [evOp] at h ⊢
      split at h
      · split at h
        · rename_i hlt
          injection h with h; injection h with h1 h2
          exact ⟨h2.symm, fun _ m2 => by rw [if_pos hlt, ← h1]⟩
        · cases h
      · cases h
  case ix a x i =>
    cases a
    · simp only [evOp] at h ⊢
      split at h
      · split at h
        · rename_i hlt
          split at h
          · injection h with h; injection h with h1 h2
            exact ⟨h2.symm, fun _ m2 => by rw [if_pos hlt, ← h1]⟩
          · cases h
        · cases h
      · cases h
    · simp only [evOp] at h ⊢
      split at h
      · split at h
        · rename_i hlt
          exact ⟨(pureK _ h).1, fun _ m2 => by rw [if_pos hlt]; exact (pureK _ h).2 m2⟩
        · cases h
      · cases h
  all_goals
    simp only [evOp] at h ⊢
    first
      | (injection h with h; injection h with h1 h2; exact ⟨h2.symm, fun _ m2 => by rw [← h1]⟩)
      | (split at h <;> first
          | (injection h with h; injection h with h1 h2; exact ⟨h2.symm, fun _ m2 => by rw [← h1]⟩)
          | exact ⟨(pureK _ h).1, fun _ => (pureK _ h).2⟩
          | cases h)

/-! ### Memory with one block more -/
theorem Mem.get_ne {m : Mem} {b id : Nat} {o o' : Obj} (h : m.get b = some o) (hid : m.get id = none) : (m.set id o').get b = some o := by
  rw [Mem.get_set, if_neg (fun e => by rw [e, hid] at h; cases h)]; exact h
theorem read_ext {m m2 : Mem} {b off n : Nat} {cs : List AV} (h : m.read b off n = some cs) (hx : ∀ c, m.get c ≠ none → m2.get c = m.get c) : m2.read b off n = some cs := by
  unfold Mem.read at h ⊢
  cases hg : m.get b with
  | none => simp [hg] at h
  | some o => rw [hx b (by simp [hg]), hg]; simpa [hg] using h
theorem set_ext {m : Mem} {id : Nat} (o : Obj) (h : m.get id = none) : ∀ c, m.get c ≠ none → (m.set id o).get c = m.get c := fun c hc => by
  rw [Mem.get_set, if_neg (fun e => hc (by rw [e, h]))]

/-- What is asked of a way to change memory: numbers go on, blocks stay; a number that is kept stays so; and one block more makes no difference. -/
structure Ext (F : Mem → Option (AV × Mem)) (m : Mem) (v : AV) (m' : Mem) (fr : Nat → Prop) : Prop where
  next : m.next ≤ m'.next
  keep : ∀ c, m.get c ≠ none → m'.get c ≠ none
  free : ∀ id, m.get id = none → id < m.next → fr id → m'.get id = none
  more : ∀ id o, m.get id = none → id < m.next → fr id → F (m.set id o) = some (v, m'.set id o)
def CallExt (call : CallF) : Prop := ∀ f args m r m', call f args m = some (r, m') → Ext (call f args) m r m' fun _ => True

theorem Ext.same {F : Mem → Option (AV × Mem)} {m : Mem} {v : AV} {fr : Nat → Prop} (h : ∀ m2 : Mem, (∀ c, m.get c ≠ none → m2.get c = m.get c) → F m2 = some (v, m2)) : Ext F m v m fr :=
  ⟨Nat.le_refl _, fun _ h => h, fun _ h _ _ => h, fun id o hid _ _ => h _ (set_ext o hid)⟩

theorem evOp_R {call : CallF} {b : Nat} {tm : List AV} {m m' : Mem} {op : IOp} {v : AV} (hc : op.cl = .R) (h : evOp call b tm m op = some (v, m')) :
    m' = m ∧ ∀ (call' : CallF) (m2 : Mem), (∀ c, m.get c ≠ none → m2.get c = m.get c) → evOp call' b tm m2 op = some (v, m2) := by
  cases op <;> simp [IOp.cl] at hc
  case ld n x =>
    cases n
    all_goals
      simp only [evOp] at h ⊢
      split at h
      · rename_i c off hx
        split at h
        · rename_i hr
          injection h with h; injection h with h1 h2
          exact ⟨h2.symm, fun _ m2 hm => by simp only [read_ext hr hm]; rw [← h1]⟩
        · cases h
      · cases h
  case cv s c x =>
    cases c <;> simp at hc
    case s2b => cases s <;> simp [clS] at hc
    case keep =>
      simp only [evOp] at h ⊢
      split at h
      · split at h
        · rename_i hg
          split at h
          · injection h with h; injection h with h1 h2
            exact ⟨h2.symm, fun _ m2 hm => by rw [hm _ (by rw [hg]; simp), hg]; simp only; rw [if_pos (by assumption), h1]⟩
          · cases h
        · cases h
      · cases h
    case b2s =>
      simp only [evOp] at h ⊢
      split at h
      · injection h with h; injection h with h1 h2
        exact ⟨h2.symm, fun _ m2 hm => by rw [← h1]⟩
      · split at h
        · rename_i hr
          obtain ⟨h1, h2⟩ := pureOp_some h
          exact ⟨h2, fun _ m2 hm => by simp only [read_ext hr hm, h1]; rfl⟩
        · cases h
      · cases h
  case al s _ _ => cases s <;> simp [clS] at hc
  case bx s _ _ => cases s <;> simp [clS] at hc
  case mksl s _ _ _ _ => cases s <;> simp [clS] at hc
  case mks s _ _ _ _ _ => cases s <;> simp [clS] at hc

theorem new_A {m m' : Mem} {id c : Nat} {cs : List AV} {e : Nat} (h : m.new (some id) cs e = some (c, m')) :
    c = id ∧ m.get id = none ∧ id < m.next ∧ m' = m.set id (.live cs e true) ∧ ∀ m2 : Mem, m2.get id = none → id < m2.next → m2.new (some id) cs e = some (id, m2.set id (.live cs e true)) := by
  unfold Mem.new at h
  split at h
  · rename_i hl
    simp only at h
    split at h
    · rename_i hg
      split at h
      · rename_i hlt
        injection h with h; injection h with h1 h2
        refine ⟨h1.symm, hg, hlt, h2.symm, fun m2 hg2 hlt2 => ?_⟩
        simp only [Mem.new, hl, if_true, hg2, if_pos hlt2]
      · cases h
    · cases h
  · cases h
theorem newRow_A {m m' : Mem} {b k : Nat} {cs : List AV} {e : Nat} {mk : Nat → AV} {v : AV} (h : newRow m b (some k) cs e mk = some (v, m')) :
    m.get (b + k) = none ∧ b + k < m.next ∧ m' = m.set (b + k) (.live cs e true) ∧ ∀ m2 : Mem, m2.get (b + k) = none → b + k < m2.next → newRow m2 b (some k) cs e mk = some (v, m2.set (b + k) (.live cs e true)) := by
  unfold newRow at h
  split at h
  · rename_i c m1 hn
    injection h with h; injection h with h1 h2
    obtain ⟨e1, e2, e3, e4, e5⟩ := new_A (id := b + k) hn
    refine ⟨e2, e3, by rw [← h2, e4], fun m2 g1 g2 => ?_⟩
    unfold newRow
    have := e5 m2 g1 g2
    simp only [slot, this]
    rw [← h1, e1]
  · cases h
theorem evOp_A {call : CallF} {b : Nat} {tm : List AV} {m m' : Mem} {op : IOp} {v : AV} (hc : op.cl = .A) (h : evOp call b tm m op = some (v, m')) :
    ∃ k o, op.slotOf = some k ∧ m.get (b + k) = none ∧ b + k < m.next ∧ m' = m.set (b + k) o ∧ ∀ (call' : CallF) (m2 : Mem), m2.get (b + k) = none → b + k < m2.next → evOp call' b tm m2 op = some (v, m2.set (b + k) o) := by
  cases op <;> simp [IOp.cl] at hc
  case al s e z =>
    cases s <;> simp [clS] at hc
    obtain ⟨h1, h2, h3, h4⟩ := newRow_A h
    exact ⟨_, _, rfl, h1, h2, h3, fun _ m2 a b => h4 m2 a b⟩
  case bx s e x =>
    cases s <;> simp [clS] at hc
    obtain ⟨h1, h2, h3, h4⟩ := newRow_A h
    exact ⟨_, _, rfl, h1, h2, h3, fun _ m2 a b => h4 m2 a b⟩
  case mksl s e tpl len ps =>
    cases s <;> simp [clS] at hc
    simp only [evOp] at h ⊢
    split at h
    · obtain ⟨h1, h2, h3, h4⟩ := newRow_A h
      exact ⟨_, _, rfl, h1, h2, h3, fun _ m2 a b => h4 m2 a b⟩
    · cases h
  case mks s e z by_ l c =>
    cases s <;> simp [clS] at hc
    simp only [evOp] at h ⊢
    split at h
    · split at h
      · rename_i hle
        obtain ⟨h1, h2, h3, h4⟩ := newRow_A h
        exact ⟨_, _, rfl, h1, h2, h3, fun _ m2 a b => by rw [if_pos hle]; exact h4 m2 a b⟩
      · cases h
    · cases h
  case cv s c x =>
    cases c <;> simp at hc
    cases s <;> simp [clS] at hc
    simp only [evOp] at h ⊢
    split at h
    · obtain ⟨h1, h2, h3, h4⟩ := newRow_A h
      exact ⟨_, _, rfl, h1, h2, h3, fun _ m2 a b => h4 m2 a b⟩
    · cases h

theorem write_ext {m m' : Mem} {b off : Nat} {vs : List AV} (h : m.write b off vs = some m') : m'.next = m.next ∧ (∀ c, m'.get c = none ↔ m.get c = none) ∧ ∀ id o, m.get id = none → (m.set id o).write b off vs = some (m'.set id o) := by
  unfold Mem.write at h
  split at h
  · rename_i cs e hg
    split at h
    · rename_i hle
      injection h with h
      subst h
      refine ⟨rfl, fun c => ?_, fun id o hid => ?_⟩
      · rw [Mem.get_set]
        split
        · rename_i hcb; subst hcb; simp [hg]
        · rfl
      · have hne : b ≠ id := fun e => by rw [e, hid] at hg; cases hg
        unfold Mem.write
        rw [Mem.get_ne hg hid]
        simp only [if_pos hle]
        rw [Mem.set_comm _ _ _ _ _ hne]
    · cases h
  · cases h
theorem new_ext {m m' : Mem} {s : Option Nat} {c : Nat} {cs : List AV} {e : Nat} (h : m.new s cs e = some (c, m')) :
    m.next ≤ m'.next ∧ (∀ d, m.get d ≠ none → m'.get d ≠ none) ∧ (∀ id, m.get id = none → id < m.next → s ≠ some id → m'.get id = none) ∧ ∀ id o, m.get id = none → id < m.next → s ≠ some id → (m.set id o).new s cs e = some (c, m'.set id o) := by
  unfold Mem.new at h
  split at h
  · rename_i hl
    cases s with
    | none =>
      simp only at h
      injection h with h; injection h with h1 h2
      subst h1 h2
      refine ⟨Nat.le_succ _, fun d hd => ?_, fun id hid hlt _ => ?_, fun id o hid hlt _ => ?_⟩
      · show (m.t.set _ _).get d ≠ none
        rw [T.get_set]; split
        · simp
        · exact hd
      · show (m.t.set _ _).get id = none
        rw [T.get_set, if_neg (by omega)]; exact hid
      · simp only [Mem.new, hl, if_true, Mem.set]
        rw [T.set_comm _ _ _ _ _ (by omega)]
    | some k =>
      simp only at h
      split at h
      · rename_i hg
        split at h
        · rename_i hlt
          injection h with h; injection h with h1 h2
          subst h1 h2
          refine ⟨Nat.le_refl _, fun d hd => ?_, fun id hid hlt' hne => ?_, fun id o hid hlt' hne => ?_⟩
          · rw [Mem.get_set]; split
            · simp
            · exact hd
          · rw [Mem.get_set, if_neg (fun e => hne (by rw [e]))]; exact hid
          · have hne' : k ≠ id := fun e => hne (by rw [e])
            have hg2 : (m.set id o).get k = none := by rw [Mem.get_set, if_neg hne']; exact hg
            have hlt2 : k < (m.set id o).next := hlt
            simp only [Mem.new, hl, if_true, hg2, if_pos hlt2]
            rw [Mem.set_comm _ _ _ _ _ hne']
        · cases h
      · cases h
  · cases h
theorem newRow_ext {m m' : Mem} {b : Nat} {s : Option Nat} {cs : List AV} {e : Nat} {mk : Nat → AV} {v : AV} (h : newRow m b s cs e mk = some (v, m')) : Ext (fun m => newRow m b s cs e mk) m v m' fun id => ∀ k, s = some k → b + k ≠ id := by
  unfold newRow at h
  split at h
  · rename_i c m1 hn
    injection h with h; injection h with h1 h2
    subst h2
    obtain ⟨e1, e2, e3, e4⟩ := new_ext hn
    have hs : ∀ id, (∀ k, s = some k → b + k ≠ id) → slot b s ≠ some id := fun id hk => by
      cases s with
      | none => simp [slot]
      | some k => simpa [slot] using hk k rfl
    refine ⟨e1, e2, fun id a c d => e3 id a c (hs id d), fun id o a c d => ?_⟩
    simp only [newRow, e4 id o a c (hs id d)]
    rw [h1]
  · cases h
theorem srcCells_ext {m m2 : Mem} {esz : Nat} {x : AV} {r : Nat × List AV} (h : srcCells m esz x = some r) (hx : ∀ c, m.get c ≠ none → m2.get c = m.get c) : srcCells m2 esz x = some r := by
  unfold srcCells at h ⊢
  split at h
  · exact h
  · split at h
    · rename_i hr
      simp only [read_ext hr hx]; exact h
    · cases h
  · exact h
  · cases h
theorem write_Ext {m m' : Mem} {b off : Nat} {vs : List AV} {v : AV} {F : Mem → Option (AV × Mem)} {fr : Nat → Prop} (h : m.write b off vs = some m') (hF : ∀ id o, m.get id = none → ∀ m3, (m.set id o).write b off vs = some m3 → F (m.set id o) = some (v, m3)) : Ext F m v m' fr := by
  obtain ⟨h1, h2, h3⟩ := write_ext h
  exact ⟨Nat.le_of_eq h1.symm, fun c hc x => hc ((h2 c).1 x), fun id hid _ _ => (h2 id).2 hid, fun id o hid _ _ => hF id o hid _ (h3 id o hid)⟩
theorem new_Ext {m m' : Mem} {c : Nat} {cs : List AV} {e : Nat} {v : AV} {F : Mem → Option (AV × Mem)} {fr : Nat → Prop} (h : m.new none cs e = some (c, m')) (hF : ∀ id o, m.get id = none → ∀ m3, (m.set id o).new none cs e = some (c, m3) → F (m.set id o) = some (v, m3)) : Ext F m v m' fr := by
  obtain ⟨h1, h2, h3, h4⟩ := new_ext h
  exact ⟨h1, h2, fun id a b _ => h3 id a b (by simp), fun id o a b _ => hF id o a _ (h4 id o a b (by simp))⟩
theorem append_ext {m m' : Mem} {e esz by_ : Nat} {x y v : AV} {fr : Nat → Prop} (h : appendOp m e esz by_ x y = some (v, m')) : Ext (fun m => appendOp m e esz by_ x y) m v m' fr := by
  unfold appendOp at h
  split at h
  · cases h
  · rename_i n cs hs
    have hs2 : ∀ id o, m.get id = none → srcCells (m.set id o) esz y = some (n, cs) := fun id o hid => srcCells_ext hs (set_ext o hid)
    split at h
    · split at h
      · rename_i h0
        injection h with h; injection h with h1 h2
        subst h2
        refine ⟨Nat.le_refl _, fun _ h => h, fun _ h _ _ => h, fun id o hid _ _ => ?_⟩
        simp only [appendOp, hs2 id o hid, if_pos h0, h1]
      · rename_i h0
        split at h
        · rename_i hb
          split at h
          · rename_i c m1 hn
            injection h with h; injection h with h1 h2
            subst h2
            refine new_Ext hn fun id o hid m3 h3 => ?_
            simp only [appendOp, hs2 id o hid, if_neg h0, if_pos hb, h3, h1]
          · cases h
        · cases h
    · rename_i b off len cap
      split at h
      · rename_i h0
        injection h with h; injection h with h1 h2
        subst h2
        refine ⟨Nat.le_refl _, fun _ h => h, fun _ h _ _ => h, fun id o hid _ _ => ?_⟩
        simp only [appendOp, hs2 id o hid, if_pos h0, h1]
      · rename_i h0
        split at h
        · rename_i c
          split at h
          · rename_i hle
            split at h
            · rename_i m1 hw
              injection h with h; injection h with h1 h2
              subst h2
              refine write_Ext hw fun id o hid m3 h3 => ?_
              simp only [appendOp, hs2 id o hid, if_neg h0, if_pos hle, h3, h1]
            · cases h
          · rename_i hle
            split at h
            · rename_i hb
              split at h
              · rename_i old hr
                split at h
                · rename_i c1 m1 hn
                  injection h with h; injection h with h1 h2
                  subst h2
                  refine new_Ext hn fun id o hid m3 h3 => ?_
                  simp only [appendOp, hs2 id o hid, if_neg h0, if_neg hle, if_pos hb, read_ext hr (set_ext o hid), h3, h1]
                · cases h
              · cases h
            · cases h
        · rename_i z
          split at h
          · rename_i known e' hg
            split at h
            · rename_i hc
              split at h
              · rename_i hk
                split at h
                · rename_i m1 hw
                  injection h with h; injection h with h1 h2
                  subst h2
                  refine write_Ext hw fun id o hid m3 h3 => ?_
                  simp only [appendOp, hs2 id o hid, if_neg h0, Mem.get_ne hg hid, if_pos hc, if_pos hk, h3, h1]
                · cases h
              · rename_i hk
                split at h
                · rename_i c1 m1 hn
                  injection h with h; injection h with h1 h2
                  subst h2
                  obtain ⟨q1, q2, q3, q4⟩ := new_ext hn
                  have hne : ∀ id, m.get id = none → b ≠ id := fun id hid e => by rw [e, hid] at hg; cases hg
                  have hds : ∀ id, m.get id = none → (m.set b .dead).get id = none := fun id hid => by rw [Mem.get_set, if_neg (fun e => hne id hid e.symm)]; exact hid
                  refine ⟨q1, fun c hc' => q2 c ?_, fun id hid hlt _ => q3 id (hds id hid) hlt (by simp), fun id o hid hlt _ => ?_⟩
                  · rw [Mem.get_set]; split
                    · simp
                    · exact hc'
                  · have h3 := q4 id o (hds id hid) hlt (by simp)
                    rw [← Mem.set_comm _ _ _ _ _ (hne id hid)] at h3
                    simp only [appendOp, hs2 id o hid, if_neg h0, Mem.get_ne hg hid, if_pos hc, if_neg hk, h3, h1]
                · cases h
            · cases h
          · cases h
        · cases h
    · cases h
end Go.Proofs.Ytljkkfcokpimkaa.X
