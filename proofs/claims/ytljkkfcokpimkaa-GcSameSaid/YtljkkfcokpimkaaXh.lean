/- Operations of a region may change places where they do not touch one another: the plain machine ends in the same state. -/
import Derived.Test.YtljkkfcokpimkaaXg
set_option linter.unusedVariables false
set_option linter.unusedSimpArgs false
namespace Go.Proofs.Ytljkkfcokpimkaa.X
open Go

def rdG : Option (Nat × Bool) → List Nat
  | none => []
  | some (t, _) => [t]
def rdS (i : Step) : List Nat := rdG i.guard ++ rds i.op.opds
def rdK (c : Chk) : List Nat := c.dst :: (rdG c.guard ++ rds c.op.opds)
def optEq : Option Nat → Option Nat → Bool
  | none, none => true
  | some a, some b => decide (a = b)
  | _, _ => false
/-- The same reading. -/
def rdEq : IOp → IOp → Bool
  | .ld n (.t x), .ld n' (.t x') => optEq n n' && decide (x = x')
  | .cv none .b2s (.t x), .cv none .b2s (.t x') => decide (x = x')
  | _, _ => false
theorem optEq_eq {a b : Option Nat} (h : optEq a b = true) : a = b := by cases a <;> cases b <;> simp [optEq] at h <;> simp [h]
theorem rdEq_eq {a b : IOp} (h : rdEq a b = true) : a = b := by
  unfold rdEq at h
  split at h
  · simp only [Bool.and_eq_true, decide_eq_true_eq] at h
    rw [optEq_eq h.1, h.2]
  · simp only [decide_eq_true_eq] at h
    rw [h]
  · cases h
def gEq : Option (Nat × Bool) → Option (Nat × Bool) → Bool
  | none, none => true
  | some (a, b), some (c, d) => decide (a = c) && (b == d)
  | _, _ => false
theorem gEq_eq {a b : Option (Nat × Bool)} (h : gEq a b = true) : a = b := by
  cases a with
  | none => cases b with
    | none => rfl
    | some y => cases y; simp [gEq] at h
  | some x => cases b with
    | none => cases x; simp [gEq] at h
    | some y => cases x; cases y; simp [gEq] at h; simp [h]
def about (j : Step) (c : Chk) : Bool := gEq c.guard j.guard && rdEq c.op j.op && optEq j.dst (some c.dst)
def memOk (j i : Step) : Bool :=
  match j.op.cl, i.op.cl with
  | .P, _ | _, .P | .R, .R | .R, .A | .A, .A | .H, .A => true
  | .R, .H => i.chk.any (about j)
  | _, _ => false
/-- Asked of two operations, j first: may i come first as well? -/
def commutes (j i : Step) : Bool :=
  (match j.dst with | some d => !(rdS j).contains d && !(rdS i).contains d && !optEq i.dst (some d) && i.chk.all (fun c => decide (c.dst = d) || !(rdK c).contains d) | none => true) &&
  (match i.dst with | some d => !(rdS j).contains d && j.chk.all (fun c => !(rdK c).contains d) | none => true) &&
  (i.chk.isEmpty || decide (i.op.cl = .H)) && (j.chk.isEmpty || decide (j.op.cl = .H)) && j.chk.all (fun c => decide (c.op.cl = .R)) && memOk j i

def evStep1 (call : CallF) (b : Nat) (i : Step) (s : St) : Option St :=
  if wants s.tm i.guard then
    match evOp call b s.tm s.m i.op with
    | some (v, m') => if i.chk.all (chkOk b s.tm m') then some ⟨put s.tm i.dst v, m'⟩ else none
    | none => none
  else some ⟨put s.tm i.dst .undef, s.m⟩
theorem evSteps_cons (call : CallF) (b : Nat) (i : Step) (l : List Step) (s : St) : evSteps call b (i :: l) s = (evStep1 call b i s).bind (evSteps call b l) := by
  simp only [evSteps, evStep1]
  by_cases hw : wants s.tm i.guard = true
  · rw [if_pos hw, if_pos hw]
    cases evOp call b s.tm s.m i.op with
    | none => rfl
    | some x =>
      obtain ⟨v, m'⟩ := x
      by_cases hc : i.chk.all (chkOk b s.tm m') = true
      · simp only [hc, if_true, Option.bind_some]
      · simp only [hc, if_false, Option.bind_none]
        rfl
  · rw [if_neg hw, if_neg hw]; rfl
theorem evSteps_append (call : CallF) (b : Nat) : ∀ (l l' : List Step) (s : St), evSteps call b (l ++ l') s = (evSteps call b l s).bind (evSteps call b l')
  | [], _, _ => rfl
  | i :: l, l', s => by
    rw [List.cons_append, evSteps_cons, evSteps_cons]
    cases evStep1 call b i s with
    | none => rfl
    | some s1 => exact evSteps_append call b l l' s1

theorem wants_put {tm : List AV} {d : Option Nat} {v : AV} {g : Option (Nat × Bool)} (h : ∀ t, d = some t → t ∉ rdG g) : wants (put tm d v) g = wants tm g := by
  cases g with
  | none => rfl
  | some g =>
    obtain ⟨t, b⟩ := g
    have := eval_put (tm := tm) (d := d) (v := v) (x := .t t) (fun u hu hm => h u hu (by simpa [Opd.rd, rdG] using hm))
    simp only [Opd.eval] at this
    simp only [wants, this]
theorem mem_rdK_dst {c : Chk} {t : Nat} (hm : t ∈ (Opd.t c.dst).rd) : t ∈ rdK c := by
  have e : t = c.dst := by simpa [Opd.rd] using hm
  simp [rdK, e]
theorem chkOk_put {b : Nat} {tm : List AV} {d : Option Nat} {v : AV} {m : Mem} {c : Chk} (h : ∀ t, d = some t → t ∉ rdK c) : chkOk b (put tm d v) m c = chkOk b tm m c := by
  have h1 : wants (put tm d v) c.guard = wants tm c.guard := wants_put fun t ht hm => h t ht (by simp [rdK, hm])
  have h2 : evOp (fun _ _ _ => none) b (put tm d v) m c.op = evOp (fun _ _ _ => none) b tm m c.op := evOp_put fun t ht hm => h t ht (by simp [rdK, hm])
  have h3 : (put tm d v).getD c.dst .undef = tm.getD c.dst .undef := eval_put (x := .t c.dst) fun t ht hm => h t ht (mem_rdK_dst hm)
  simp only [chkOk, h1, h2, h3]
theorem put_comm {tm : List AV} {d e : Option Nat} {u v : AV} (h : ∀ t, d = some t → e ≠ some t) : put (put tm d u) e v = put (put tm e v) d u := by
  cases d with
  | none => rfl
  | some a =>
    cases e with
    | none => rfl
    | some c =>
      have hne : a ≠ c := fun x => h a rfl (by rw [x])
      simp only [put]
      exact List.set_comm _ _ hne

/-- The same operation, that need not look again at what j read. -/
def Step.less (i j : Step) : Step := { i with chk := i.chk.filter fun c => !optEq j.dst (some c.dst) }

theorem slot_H {op : IOp} (h : op.cl = .H) : op.slotOf = none := by
  cases op <;> simp [IOp.cl] at h <;> simp only [IOp.slotOf]
  case cv s c x =>
    cases c <;> simp at h
    cases s <;> simp [clS] at h ⊢
  case al s _ _ => cases s <;> simp [clS] at h ⊢
  case bx s _ _ => cases s <;> simp [clS] at h ⊢
  case mksl s _ _ _ _ => cases s <;> simp [clS] at h ⊢
  case mks s _ _ _ _ _ => cases s <;> simp [clS] at h ⊢
theorem slot_R {op : IOp} (h : op.cl = .R) : op.slotOf = none := by
  cases op <;> simp [IOp.cl] at h <;> simp only [IOp.slotOf]
  case cv s c x =>
    cases c <;> simp at h
    · rfl
    · rfl
    · cases s <;> simp [clS] at h
  case al s _ _ => cases s <;> simp [clS] at h
  case bx s _ _ => cases s <;> simp [clS] at h
  case mksl s _ _ _ _ => cases s <;> simp [clS] at h
  case mks s _ _ _ _ _ => cases s <;> simp [clS] at h
theorem swap {call : CallF} (hc : CallExt call) {b : Nat} {j i : Step} (hcm : commutes j i = true) {s s1 s2 : St} (hb : ∀ k, i.op.slotOf = some k → b + k < s.m.next) (h1 : evStep1 call b j s = some s1) (h2 : evStep1 call b i s1 = some s2) :
    ∃ s1', evStep1 call b (i.less j) s = some s1' ∧ evStep1 call b j s1' = some s2 := by
  simp only [commutes, Bool.and_eq_true] at hcm
  obtain ⟨⟨⟨⟨⟨hdj, hdi⟩, hci⟩, hcj⟩, hcr⟩, hmem⟩ := hcm
  have hj0 : ∀ t, j.dst = some t → t ∉ rdS j := fun t ht => by simp [ht] at hdj; simpa using hdj.1.1.1
  have hj1 : ∀ t, j.dst = some t → t ∉ rdS i := fun t ht => by simp [ht] at hdj; simpa using hdj.1.1.2
  have hj2 : ∀ t, j.dst = some t → i.dst ≠ some t := fun t ht hi => by
    simp [ht] at hdj
    have := hdj.1.2
    rw [hi] at this
    simp [optEq] at this
  have hj3 : ∀ t, j.dst = some t → ∀ c ∈ i.chk, c.dst = t ∨ t ∉ rdK c := fun t ht c hcm => by
    simp [ht] at hdj
    have := hdj.2 c hcm
    simpa using this
  have hi1 : ∀ t, i.dst = some t → t ∉ rdS j := fun t ht => by simp [ht] at hdi; simpa using hdi.1
  have hi3 : ∀ t, i.dst = some t → ∀ c ∈ j.chk, t ∉ rdK c := fun t ht c hcm => by
    simp [ht] at hdi
    simpa using hdi.2 c hcm
  -- what is wanted is not turned
  have wi : ∀ v, wants (put s.tm j.dst v) i.guard = wants s.tm i.guard := fun v => wants_put fun t ht hm => hj1 t ht (by simp [rdS, hm])
  have wj : ∀ v, wants (put s.tm i.dst v) j.guard = wants s.tm j.guard := fun v => wants_put fun t ht hm => hi1 t ht (by simp [rdS, hm])
  have oi : ∀ v m, evOp call b (put s.tm j.dst v) m i.op = evOp call b s.tm m i.op := fun v m => evOp_put fun t ht hm => hj1 t ht (by simp [rdS, hm])
  have oj : ∀ v m, evOp call b (put s.tm i.dst v) m j.op = evOp call b s.tm m j.op := fun v m => evOp_put fun t ht hm => hi1 t ht (by simp [rdS, hm])
  have pc : ∀ u v, put (put s.tm j.dst u) i.dst v = put (put s.tm i.dst v) j.dst u := fun u v => put_comm fun t ht => hj2 t ht
  -- what i reads again, without what j read
  have ki : ∀ v m, (i.chk.all (chkOk b (put s.tm j.dst v) m)) = true → ((i.less j).chk.all (chkOk b s.tm m)) = true := fun v m h => by
    rw [List.all_eq_true] at h ⊢
    intro c hc'
    simp only [Step.less, List.mem_filter] at hc'
    have := h c hc'.1
    rw [chkOk_put] at this
    · exact this
    · intro t ht hm
      rcases hj3 t ht c hc'.1 with e | e
      · rw [ht, ← e] at hc'
        simp [optEq] at hc'
      · exact e hm
  have kj : ∀ v m, (j.chk.all (chkOk b s.tm m)) = true → (j.chk.all (chkOk b (put s.tm i.dst v) m)) = true := fun v m h => by
    rw [List.all_eq_true] at h ⊢
    intro c hc'
    rw [chkOk_put fun t ht => hi3 t ht c hc']
    exact h c hc'
  unfold evStep1 at h1
  by_cases hwj : wants s.tm j.guard = true
  · rw [if_pos hwj] at h1
    split at h1
    · rename_i vj mj hoj
      split at h1
      · rename_i hkj
        injection h1 with h1
        subst h1
        unfold evStep1 at h2
        simp only [wi, oi] at h2
        by_cases hwi : wants s.tm i.guard = true
        · rw [if_pos hwi] at h2
          split at h2
          · rename_i vi m2 hoi
            split at h2
            · rename_i hki
              injection h2 with h2
              subst h2
              -- both are done
              suffices key : ∃ mi vj', evOp call b s.tm s.m i.op = some (vi, mi) ∧ evOp call b s.tm mi j.op = some (vj', m2) ∧ put s.tm j.dst vj' = put s.tm j.dst vj ∧ ((i.less j).chk.all (chkOk b s.tm mi)) = true ∧ (j.chk.all (chkOk b s.tm m2)) = true by
                obtain ⟨mi, vj', q1, q2, q3, q4, q5⟩ := key
                refine ⟨⟨put s.tm i.dst vi, mi⟩, ?_, ?_⟩
                · simp only [evStep1, Step.less] at q4 ⊢
                  simp only [hwi, if_true, q1, q4]
                · simp only [evStep1, wj, oj, hwj, if_true, q2]
                  rw [if_pos (kj _ _ q5), pc]
                  congr 2
                  have : put (put s.tm i.dst vi) j.dst vj' = put (put s.tm j.dst vj') i.dst vi := (pc _ _).symm
                  rw [this, q3, pc]
              cases hclj : j.op.cl with
              | P =>
                obtain ⟨rfl, hp⟩ := evOp_P hclj hoj
                exact ⟨m2, vj, hoi, hp call m2, rfl, ki _ _ hki, by
                  rcases (by simpa using hcj : j.chk = [] ∨ j.op.cl = .H) with e | e
                  · rw [e]; rfl
                  · rw [hclj] at e; cases e⟩
              | R =>
                obtain ⟨rfl, hr⟩ := evOp_R hclj hoj
                have ej : j.chk = [] := by
                  rcases (by simpa using hcj : j.chk = [] ∨ j.op.cl = .H) with e | e
                  · exact e
                  · rw [hclj] at e; cases e
                cases hcli : i.op.cl with
                | P =>
                  obtain ⟨rfl, hp⟩ := evOp_P hcli hoi
                  exact ⟨_, vj, hoi, hoj, rfl, ki _ _ hki, by rw [ej]; rfl⟩
                | R =>
                  obtain ⟨rfl, hp⟩ := evOp_R hcli hoi
                  exact ⟨_, vj, hoi, hoj, rfl, ki _ _ hki, by rw [ej]; rfl⟩
                | A =>
                  obtain ⟨k, o, g1, g2, g3, rfl, g5⟩ := evOp_A hcli hoi
                  exact ⟨_, vj, hoi, hr call _ (set_ext o g2), rfl, ki _ _ hki, by rw [ej]; rfl⟩
                | H =>
                  simp only [memOk, hclj, hcli] at hmem
                  obtain ⟨c, hcm, hab⟩ := List.any_eq_true.1 hmem
                  simp only [about, Bool.and_eq_true] at hab
                  have e1 := gEq_eq hab.1.1
                  have e2 := rdEq_eq hab.1.2
                  have e3 := optEq_eq hab.2
                  have hck := List.all_eq_true.1 hki c hcm
                  have hd : j.dst = some c.dst := e3
                  have g0 := hj0 c.dst hd
                  have hwc : wants (put s.tm j.dst vj) c.guard = true := by
                    rw [e1, wants_put (fun t ht hm => hj0 t ht (by simp [rdS, hm])), hwj]
                  have hoc : ∀ m, evOp (fun _ _ _ => none) b (put s.tm j.dst vj) m c.op = evOp (fun _ _ _ => none) b s.tm m j.op := fun m => by
                    rw [e2]; exact evOp_put fun t ht hm => hj0 t ht (by simp [rdS, hm])
                  unfold chkOk at hck
                  rw [if_pos hwc, hoc] at hck
                  split at hck
                  · rename_i v' m3 hv'
                    have hsame := AV.same_eq _ _ hck
                    obtain ⟨rfl, hr'⟩ := evOp_R hclj hv'
                    refine ⟨_, v', hoi, hr' call _ (fun _ _ => rfl), ?_, ki _ _ hki, by rw [ej]; rfl⟩
                    rw [hd] at hsame ⊢
                    simp only [put] at hsame ⊢
                    by_cases hlen : c.dst < s.tm.length
                    · rw [List.getD_eq_getElem?_getD, List.getElem?_set, if_pos rfl, if_pos hlen] at hsame
                      simp only [Option.getD_some] at hsame
                      rw [hsame]
                    · rw [List.set_eq_of_length_le (by omega), List.set_eq_of_length_le (by omega)]
                  · cases hck
              | A =>
                obtain ⟨k, o, g1, g2, g3, rfl, g5⟩ := evOp_A hclj hoj
                have ej : j.chk = [] := by
                  rcases (by simpa using hcj : j.chk = [] ∨ j.op.cl = .H) with e | e
                  · exact e
                  · rw [hclj] at e; cases e
                cases hcli : i.op.cl with
                | P =>
                  obtain ⟨rfl, hp⟩ := evOp_P hcli hoi
                  have ei : i.chk = [] := by
                    rcases (by simpa using hci : i.chk = [] ∨ i.op.cl = .H) with e | e
                    · exact e
                    · rw [hcli] at e; cases e
                  exact ⟨_, vj, hp call s.m, hoj, rfl, by simp [Step.less, ei], by rw [ej]; rfl⟩
                | R => simp [memOk, hclj, hcli] at hmem
                | H => simp [memOk, hclj, hcli] at hmem
                | A =>
                  obtain ⟨k', o', p1, p2, p3, rfl, p5⟩ := evOp_A hcli hoi
                  have hne : b + k' ≠ b + k := fun e => by rw [Mem.get_set, if_pos e] at p2; cases p2
                  have hg : s.m.get (b + k') = none := by rw [Mem.get_set, if_neg hne] at p2; exact p2
                  refine ⟨_, vj, p5 call s.m hg p3, ?_, rfl, ?_, by rw [ej]; rfl⟩
                  · rw [g5 call (s.m.set (b + k') o') (by rw [Mem.get_set, if_neg (fun e => hne e.symm)]; exact g2) g3, Mem.set_comm _ _ _ _ _ hne]
                  · have ei : i.chk = [] := by
                      rcases (by simpa using hci : i.chk = [] ∨ i.op.cl = .H) with e | e
                      · exact e
                      · rw [hcli] at e; cases e
                    simp [Step.less, ei]
              | H =>
                have hx := evOp_ext hc hoj
                have hsl : j.op.slotOf = none := by
                  exact slot_H hclj
                have ei : i.op.cl ≠ .H → i.chk = [] := fun hne => by
                  rcases (by simpa using hci : i.chk = [] ∨ i.op.cl = .H) with e | e
                  · exact e
                  · exact absurd e hne
                cases hcli : i.op.cl with
                | P =>
                  obtain ⟨rfl, hp⟩ := evOp_P hcli hoi
                  exact ⟨_, vj, hp call s.m, hoj, rfl, by simp [Step.less, ei (by rw [hcli]; decide)], hkj⟩
                | R => simp [memOk, hclj, hcli] at hmem
                | H => simp [memOk, hclj, hcli] at hmem
                | A =>
                  obtain ⟨k', o', p1, p2, p3, rfl, p5⟩ := evOp_A hcli hoi
                  have hg : s.m.get (b + k') = none := by
                    cases hg : s.m.get (b + k') with
                    | none => rfl
                    | some o => exact absurd p2 (hx.keep _ (by simp [hg]))
                  have hlt := hb k' p1
                  have hmo := hx.more (b + k') o' hg hlt (fun k hk => by rw [hsl] at hk; cases hk)
                  refine ⟨_, vj, p5 call s.m hg hlt, hmo, rfl, by simp [Step.less, ei (by rw [hcli]; decide)], ?_⟩
                  rw [List.all_eq_true] at hkj ⊢
                  intro c hcm
                  refine chkOk_ext (hkj c hcm) o' p2 p3 fun k hk => ?_
                  have hcl := List.all_eq_true.1 hcr c hcm
                  simp only [decide_eq_true_eq] at hcl
                  rw [slot_R hcl] at hk; cases hk
            · cases h2
          · cases h2
        · rw [if_neg hwi] at h2
          injection h2 with h2
          subst h2
          refine ⟨⟨put s.tm i.dst .undef, s.m⟩, by simp only [evStep1, Step.less, hwi, if_false, Bool.false_eq_true], ?_⟩
          simp only [evStep1, wj, oj, hwj, if_true, hoj]
          rw [if_pos (kj _ _ hkj), pc]
      · cases h1
    · cases h1
  · rw [if_neg hwj] at h1
    injection h1 with h1
    subst h1
    unfold evStep1 at h2
    simp only [wi, oi] at h2
    by_cases hwi : wants s.tm i.guard = true
    · rw [if_pos hwi] at h2
      split at h2
      · rename_i vi m2 hoi
        split at h2
        · rename_i hki
          injection h2 with h2
          subst h2
          refine ⟨⟨put s.tm i.dst vi, m2⟩, ?_, ?_⟩
          · have q4 := ki _ _ hki
            simp only [evStep1, Step.less] at q4 ⊢
            simp only [hwi, if_true, hoi, q4]
          · simp only [evStep1, wj]
            rw [if_neg hwj, pc]
        · cases h2
      · cases h2
    · rw [if_neg hwi] at h2
      injection h2 with h2
      subst h2
      refine ⟨⟨put s.tm i.dst .undef, s.m⟩, by simp only [evStep1, Step.less, hwi, if_false, Bool.false_eq_true], ?_⟩
      simp only [evStep1, wj]
      rw [if_neg hwj, pc]

/-! ### To the front -/
theorem memOk_less {j j' i : Step} (h : memOk j' i = true) (hd : ∀ t, j'.dst = some t → j.dst ≠ some t) : memOk j' (i.less j) = true := by
  have key : i.chk.any (about j') = true → (i.less j).chk.any (about j') = true := by
    intro h
    obtain ⟨c, hc, ha⟩ := List.any_eq_true.1 h
    refine List.any_eq_true.2 ⟨c, List.mem_filter.2 ⟨hc, ?_⟩, ha⟩
    simp only [about, Bool.and_eq_true] at ha
    have hdj := optEq_eq ha.2
    have := hd c.dst hdj
    cases hj : j.dst with
    | none => rfl
    | some t =>
      simp only [optEq, Bool.not_eq_true', decide_eq_false_iff_not]
      intro e
      exact this (by rw [hj, e])
  unfold memOk at h ⊢
  have e : (i.less j).op = i.op := rfl
  rw [e]
  generalize j'.op.cl = a at *
  generalize i.op.cl = b at *
  cases a <;> cases b <;> first | rfl | exact key h | exact h
theorem commutes_less {j j' i : Step} (h : commutes j' i = true) (hd : ∀ t, j'.dst = some t → j.dst ≠ some t) : commutes j' (i.less j) = true := by
  simp only [commutes, Bool.and_eq_true] at h ⊢
  obtain ⟨⟨⟨⟨⟨h1, h2⟩, h3⟩, h4⟩, h5⟩, h6⟩ := h
  refine ⟨⟨⟨⟨⟨?_, h2⟩, ?_⟩, h4⟩, h5⟩, memOk_less h6 hd⟩
  · cases hj : j'.dst with
    | none => rfl
    | some t =>
      simp only [hj, Bool.and_eq_true] at h1 ⊢
      refine ⟨h1.1, ?_⟩
      rw [List.all_eq_true] at h1 ⊢
      exact fun c hc => h1.2 c (List.mem_filter.1 hc).1
  · rcases (by simpa using h3 : i.chk = [] ∨ i.op.cl = .H) with e | e
    · simp [Step.less, e]
    · simp [Step.less, e]

theorem evSteps_next {call : CallF} (hc : CallExt call) {b : Nat} {l : List Step} {s s' : St} (h : evSteps call b l s = some s') : s.m.next ≤ s'.m.next := (evSteps_ext hc l s s' h).1

def Step.lessL (i : Step) (b : List Step) : Step := b.foldr (fun j i => i.less j) i
theorem lessL_chk (i : Step) : ∀ (b : List Step), (i.lessL b).chk = i.chk.filter fun c => b.all fun z => !optEq z.dst (some c.dst)
  | [] => by
    simp only [Step.lessL, List.foldr_nil, List.all_nil]
    exact (List.filter_eq_self.2 fun _ _ => rfl).symm
  | z :: b => by
    have ih := lessL_chk i b
    show ((i.lessL b).less z).chk = _
    show (i.lessL b).chk.filter _ = _
    rw [ih, List.filter_filter]
    rfl
theorem lessL_other (i : Step) : ∀ (b : List Step), (i.lessL b).op = i.op ∧ (i.lessL b).dst = i.dst ∧ (i.lessL b).guard = i.guard
  | [] => ⟨rfl, rfl, rfl⟩
  | z :: b => lessL_other i b
theorem commutes_lessL {j i : Step} : ∀ {b : List Step}, commutes j i = true → (∀ z ∈ b, ∀ t, j.dst = some t → z.dst ≠ some t) → commutes j (i.lessL b) = true
  | [], h, _ => h
  | z :: b, h, hd => commutes_less (commutes_lessL h fun z hz => hd z (by simp [hz])) (hd z (by simp))
theorem step_ext {i k : Step} (h1 : i.dst = k.dst) (h2 : i.guard = k.guard) (h3 : i.op = k.op) (h4 : i.chk = k.chk) : i = k := by
  cases i; cases k; simp_all

theorem move_front {call : CallF} (hc : CallExt call) {b : Nat} : ∀ (n : Nat) (pre : List Step), pre.length = n → ∀ (i : Step) (post : List Step) (s sf : St), (∀ p j q, pre = p ++ j :: q → commutes j (i.lessL q) = true) → (∀ k, i.op.slotOf = some k → b + k < s.m.next) → evSteps call b (pre ++ i :: post) s = some sf →
    ∃ v m', (if wants s.tm i.guard then evOp call b s.tm s.m i.op = some (v, m') else v = .undef ∧ m' = s.m) ∧ evSteps call b (pre ++ post) ⟨put s.tm i.dst v, m'⟩ = some sf
  | 0, pre, hn, i, post, s, sf, _, _, h => by
    obtain rfl : pre = [] := List.eq_nil_of_length_eq_zero hn
    simp only [List.nil_append, evSteps] at h ⊢
    split at h
    · rename_i hw
      split at h
      · rename_i v m1 ho
        split at h
        · exact ⟨v, m1, by rw [if_pos hw]; exact ho, h⟩
        · cases h
      · cases h
    · rename_i hw
      exact ⟨.undef, s.m, by rw [if_neg hw]; exact ⟨rfl, rfl⟩, h⟩
  | n + 1, pre, hn, i, post, s, sf, hcm, hb, h => by
    obtain ⟨pre', j, rfl⟩ : ∃ pre' j, pre = pre' ++ [j] := ⟨pre.dropLast, pre.getLast (by intro e; simp [e] at hn), (List.dropLast_concat_getLast _).symm⟩
    simp only [List.append_assoc, List.singleton_append] at h
    rw [evSteps_append] at h
    cases h1 : evSteps call b pre' s with
    | none => simp [h1] at h
    | some s0 =>
      simp only [h1, Option.bind_some, evSteps_cons] at h
      cases h2 : evStep1 call b j s0 with
      | none => simp [h2] at h
      | some s1 =>
        simp only [h2, Option.bind_some, evSteps_cons] at h
        cases h3 : evStep1 call b i s1 with
        | none => simp [h3] at h
        | some s2 =>
          simp only [h3, Option.bind_some] at h
          obtain ⟨s1', q1, q2⟩ := swap hc (show commutes j i = true from hcm pre' j [] rfl) (fun k hk => Nat.lt_of_lt_of_le (hb k hk) (evSteps_next hc h1)) h2 h3
          have := move_front hc n pre' (by simpa using hn) (i.less j) (j :: post) s sf (fun p j' q e => by
            have := hcm p j' (q ++ [j]) (by rw [e]; simp)
            simpa [Step.lessL] using this) hb (by
            rw [evSteps_append, h1]
            simp only [Option.bind_some, evSteps_cons, q1, q2]
            exact h)
          obtain ⟨v, m', g1, g2⟩ := this
          refine ⟨v, m', g1, ?_⟩
          have e : (i.less j).dst = i.dst := rfl
          rw [e] at g2
          simpa using g2
end Go.Proofs.Ytljkkfcokpimkaa.X
