/- One block more makes no difference to a run; two operations that do not touch one another may change places. -/
import Derived.Test.YtljkkfcokpimkaaXf
set_option linter.unusedVariables false
set_option linter.unusedSimpArgs false
namespace Go.Proofs.Ytljkkfcokpimkaa.X
open Go

theorem evOp_ext {call : CallF} (hc : CallExt call) {b : Nat} {tm : List AV} {m m' : Mem} {op : IOp} {v : AV} (h : evOp call b tm m op = some (v, m')) :
    Ext (fun m => evOp call b tm m op) m v m' fun id => ∀ k, op.slotOf = some k → b + k ≠ id := by
  cases hcl : op.cl with
  | P =>
    obtain ⟨rfl, h2⟩ := evOp_P hcl h
    exact .same fun m2 _ => h2 call m2
  | R =>
    obtain ⟨rfl, h2⟩ := evOp_R hcl h
    exact .same fun m2 hm => h2 call m2 hm
  | A =>
    obtain ⟨k, o', h1, h2, h3, rfl, h5⟩ := evOp_A hcl h
    refine ⟨Nat.le_refl _, fun c hc' => ?_, fun id hid _ hf => ?_, fun id o hid hlt hf => ?_⟩
    · rw [Mem.get_set]; split
      · simp
      · exact hc'
    · rw [Mem.get_set, if_neg (fun e => hf k h1 e.symm)]; exact hid
    · have hne := hf k h1
      show evOp call b tm (m.set id o) op = _
      rw [h5 call (m.set id o) (by rw [Mem.get_set, if_neg hne]; exact h2) h3, Mem.set_comm _ _ _ _ _ hne]
  | H =>
    cases op <;> simp [IOp.cl] at hcl
    case al s e z => exact newRow_ext h
    case bx s e x => exact newRow_ext h
    case mksl s e tpl len ps =>
      simp only [evOp] at h ⊢
      split at h
      · exact newRow_ext h
      · cases h
    case mks s e z by_ l c =>
      simp only [evOp] at h ⊢
      split at h
      · split at h
        · rename_i hle
          simp only [if_pos hle]
          exact newRow_ext h
        · cases h
      · cases h
    case cv s c x =>
      cases c <;> simp at hcl
      simp only [evOp] at h ⊢
      split at h
      · exact newRow_ext h
      · cases h
    case st n x y =>
      simp only [evOp] at h ⊢
      split at h
      · split at h
        · rename_i hl
          split at h
          · rename_i m1 hw
            injection h with h; injection h with h1 h2
            subst h2
            refine write_Ext hw fun id o hid m3 h3 => ?_
            simp only [if_pos hl, h3, h1]
          · cases h
        · cases h
      · cases h
    case call f args =>
      have := hc _ _ _ _ _ h
      exact ⟨this.next, this.keep, fun id a c _ => this.free id a c trivial, fun id o a c _ => this.more id o a c trivial⟩
    case callv x args =>
      simp only [evOp] at h ⊢
      split at h
      · have := hc _ _ _ _ _ h
        exact ⟨this.next, this.keep, fun id a c _ => this.free id a c trivial, fun id o a c _ => this.more id o a c trivial⟩
      · cases h
    case app e esz by_ z x y => exact append_ext h
    case grow e esz by_ z x n =>
      simp only [evOp] at h ⊢
      unfold growOp at h
      split at h
      · rename_i k hx hk
        split at h
        · rename_i hb
          split at h
          · rename_i c m1 hn
            injection h with h; injection h with h1 h2
            subst h2
            refine new_Ext hn fun id o hid m3 h3 => ?_
            simp only [growOp, hx, hk, if_pos hb, h3, h1]
          · cases h
        · cases h
      · cases h
    case clear z x =>
      simp only [evOp] at h ⊢
      split at h
      · injection h with h; injection h with h1 h2
        subst h2
        exact .same fun m2 _ => by rw [h1]
      · split at h
        · rename_i h0
          injection h with h; injection h with h1 h2
          subst h2
          exact .same fun m2 _ => by rw [if_pos h0, h1]
        · rename_i h0
          split at h
          · rename_i m1 hw
            injection h with h; injection h with h1 h2
            subst h2
            refine write_Ext hw fun id o hid m3 h3 => ?_
            simp only [if_neg h0, h3, h1]
          · cases h
      · cases h
    case copy esz x y =>
      simp only [evOp] at h ⊢
      split at h
      · rename_i r hx hs
        injection h with h; injection h with h1 h2
        subst h2
        exact .same fun m2 hm => by simp only [hx, srcCells_ext hs hm]; rw [h1]
      · rename_i b' off len cap n cs hx hs
        split at h
        · rename_i h0
          injection h with h; injection h with h1 h2
          subst h2
          exact .same fun m2 hm => by simp only [hx, srcCells_ext hs hm]; rw [if_pos h0, h1]
        · rename_i h0
          split at h
          · rename_i m1 hw
            injection h with h; injection h with h1 h2
            subst h2
            refine write_Ext hw fun id o hid m3 h3 => ?_
            simp only [hx, srcCells_ext hs (set_ext o hid), if_neg h0, h3, h1]
          · cases h
      · cases h

/-- The same of a run that has a state. -/
structure SExt (F : St → Option (Ex × St)) (s : St) (e : Ex) (s' : St) : Prop where
  next : s.m.next ≤ s'.m.next
  keep : ∀ c, s.m.get c ≠ none → s'.m.get c ≠ none
  free : ∀ id, s.m.get id = none → id < s.m.next → s'.m.get id = none
  more : ∀ id o, s.m.get id = none → id < s.m.next → F ⟨s.tm, s.m.set id o⟩ = some (e, ⟨s'.tm, s'.m.set id o⟩)

theorem callNone_ext : CallExt fun _ _ _ => none := fun _ _ _ _ _ h => by cases h
theorem chkOk_ext {b : Nat} {tm : List AV} {m : Mem} {c : Chk} (h : chkOk b tm m c = true) {id : Nat} (o : Obj) (hid : m.get id = none) (hlt : id < m.next) (hs : ∀ k, c.op.slotOf = some k → b + k ≠ id) : chkOk b tm (m.set id o) c = true := by
  unfold chkOk at h ⊢
  split at h
  · rename_i hw
    rw [if_pos hw]
    split at h
    · rename_i v m1 he
      have := (evOp_ext callNone_ext he).more id o hid hlt hs
      try simp only at this
      rw [this]
      exact h
    · cases h
  · rename_i hw
    rw [if_neg hw]
theorem evSteps_ext {call : CallF} (hc : CallExt call) {b : Nat} : ∀ (l : List Step) (s s' : St), evSteps call b l s = some s' →
    s.m.next ≤ s'.m.next ∧ (∀ c, s.m.get c ≠ none → s'.m.get c ≠ none) ∧
    ∀ id, s.m.get id = none → id < s.m.next → id < b → s'.m.get id = none ∧ ∀ o, evSteps call b l ⟨s.tm, s.m.set id o⟩ = some ⟨s'.tm, s'.m.set id o⟩
  | [], s, s', h => by
    simp only [evSteps] at h
    injection h with h
    subst h
    exact ⟨Nat.le_refl _, fun _ h => h, fun id hid _ _ => ⟨hid, fun o => rfl⟩⟩
  | i :: l, s, s', h => by
    simp only [evSteps] at h
    split at h
    · rename_i hw
      split at h
      · rename_i v m1 he
        split at h
        · rename_i hck
          have hx := evOp_ext hc he
          obtain ⟨h1, h2, h3⟩ := evSteps_ext hc l _ _ h
          refine ⟨Nat.le_trans hx.next h1, fun c hc' => h2 c (hx.keep c hc'), fun id hid hlt hlb => ?_⟩
          have hf := hx.free id hid hlt fun k _ e => by omega
          obtain ⟨h4, h5⟩ := h3 id hf (Nat.lt_of_lt_of_le hlt hx.next) hlb
          refine ⟨h4, fun o => ?_⟩
          have hm := hx.more id o hid hlt fun k _ e => by omega
          try simp only at hm
          simp only [evSteps, hw, if_true, hm]
          rw [if_pos, h5 o]
          rw [List.all_eq_true] at hck ⊢
          exact fun c hcm => chkOk_ext (hck c hcm) o hf (Nat.lt_of_lt_of_le hlt hx.next) fun k _ e => by omega
        · cases h
      · cases h
    · rename_i hw
      obtain ⟨h1, h2, h3⟩ := evSteps_ext hc l _ _ h
      refine ⟨h1, h2, fun id hid hlt hlb => ?_⟩
      obtain ⟨h4, h5⟩ := h3 id hid hlt hlb
      refine ⟨h4, fun o => ?_⟩
      simp only [evSteps, hw, if_false]
      exact h5 o
theorem loopN_ext {body : St → Option (Ex × St)} (hb : ∀ s e s', body s = some (e, s') → SExt body s e s') : ∀ (k : Nat) (s : St) (e : Ex) (s' : St), loopN body k s = some (e, s') → SExt (loopN body k) s e s'
  | 0, _, _, _, h => by simp [loopN] at h
  | k + 1, s, e, s', h => by
    simp only [loopN] at h
    split at h
    · rename_i s1 h1
      have x1 := hb _ _ _ h1
      have x2 := loopN_ext hb k _ _ _ h
      refine ⟨Nat.le_trans x1.next x2.next, fun c hc => x2.keep c (x1.keep c hc), fun id hid hlt => x2.free id (x1.free id hid hlt) (Nat.lt_of_lt_of_le hlt x1.next), fun id o hid hlt => ?_⟩
      simp only [loopN, x1.more id o hid hlt]
      exact x2.more id o (x1.free id hid hlt) (Nat.lt_of_lt_of_le hlt x1.next)
    · rename_i hne
      have x1 := hb _ _ _ h
      refine ⟨x1.next, x1.keep, x1.free, fun id o hid hlt => ?_⟩
      simp only [loopN, x1.more id o hid hlt]
      cases e with
      | norm => exact absurd h (hne s')
      | exit i => rfl
      | ret => rfl
theorem evC_ext {call : CallF} (hc : CallExt call) (k : Nat) : ∀ (c : ICode) (s : St) (e : Ex) (s' : St), evC call k c s = some (e, s') → SExt (evC call k c) s e s'
  | .skip, s, e, s', h => by
    simp only [evC] at h
    injection h with h; injection h with h1 h2
    subst h1 h2
    exact ⟨Nat.le_refl _, fun _ h => h, fun _ h _ => h, fun _ _ _ _ => rfl⟩
  | .exit i, s, e, s', h => by
    simp only [evC] at h
    injection h with h; injection h with h1 h2
    subst h1 h2
    exact ⟨Nat.le_refl _, fun _ h => h, fun _ h _ => h, fun _ _ _ _ => rfl⟩
  | .ret, s, e, s', h => by
    simp only [evC] at h
    injection h with h; injection h with h1 h2
    subst h1 h2
    exact ⟨Nat.le_refl _, fun _ h => h, fun _ h _ => h, fun _ _ _ _ => rfl⟩
  | .reg n pi an ops, s, e, s', h => by
    simp only [evC] at h
    split at h
    · rename_i s1 h1
      injection h with h; injection h with h2 h3
      subst h2 h3
      obtain ⟨q1, q2, q3⟩ := evSteps_ext hc ops _ _ h1
      try simp only at q1 q2 q3
      refine ⟨by omega, q2, fun id hid hlt => (q3 id hid (by omega) hlt).1, fun id o hid hlt => ?_⟩
      have := (q3 id hid (by omega) hlt).2 o
      simp only [Mem.set] at this
      simp only [evC, Mem.set, this]
    · cases h
  | .seq a b, s, e, s', h => by
    simp only [evC] at h
    split at h
    · rename_i s1 h1
      have x1 := evC_ext hc k a _ _ _ h1
      have x2 := evC_ext hc k b _ _ _ h
      refine ⟨Nat.le_trans x1.next x2.next, fun c hc => x2.keep c (x1.keep c hc), fun id hid hlt => x2.free id (x1.free id hid hlt) (Nat.lt_of_lt_of_le hlt x1.next), fun id o hid hlt => ?_⟩
      simp only [evC, x1.more id o hid hlt]
      exact x2.more id o (x1.free id hid hlt) (Nat.lt_of_lt_of_le hlt x1.next)
    · rename_i hne
      have x1 := evC_ext hc k a _ _ _ h
      refine ⟨x1.next, x1.keep, x1.free, fun id o hid hlt => ?_⟩
      simp only [evC, x1.more id o hid hlt]
      cases e with
      | norm => exact absurd h (hne s')
      | exit i => rfl
      | ret => rfl
  | .cond c a b, s, e, s', h => by
    simp only [evC] at h
    split at h
    · rename_i hv
      have x1 := evC_ext hc k a _ _ _ h
      exact ⟨x1.next, x1.keep, x1.free, fun id o hid hlt => by simp only [evC, hv]; exact x1.more id o hid hlt⟩
    · rename_i hv
      have x1 := evC_ext hc k b _ _ _ h
      exact ⟨x1.next, x1.keep, x1.free, fun id o hid hlt => by simp only [evC, hv]; exact x1.more id o hid hlt⟩
    · cases h
  | .block i c, s, e, s', h => by
    simp only [evC] at h
    split at h
    · rename_i j s1 h1
      have x1 := evC_ext hc k c _ _ _ h1
      split at h
      · rename_i hj
        injection h with h; injection h with h2 h3
        subst h2 h3
        exact ⟨x1.next, x1.keep, x1.free, fun id o hid hlt => by simp only [evC, x1.more id o hid hlt]; rw [if_pos hj]⟩
      · rename_i hj
        injection h with h; injection h with h2 h3
        subst h2 h3
        exact ⟨x1.next, x1.keep, x1.free, fun id o hid hlt => by simp only [evC, x1.more id o hid hlt]; rw [if_neg hj]⟩
    · rename_i hne
      have x1 := evC_ext hc k c _ _ _ h
      refine ⟨x1.next, x1.keep, x1.free, fun id o hid hlt => ?_⟩
      simp only [evC, x1.more id o hid hlt]
      cases e with
      | norm => rfl
      | exit i => exact absurd h (hne i s')
      | ret => rfl
  | .loop c, s, e, s', h => by
    simp only [evC] at h
    have := loopN_ext (fun s e s' h => evC_ext hc k c s e s' h) k s e s' h
    exact ⟨this.next, this.keep, this.free, fun id o hid hlt => by simp only [evC]; exact this.more id o hid hlt⟩
theorem resOf_ext {tm : List AV} {m : Mem} {r : IRes} {v : AV} (h : resOf tm m r = some v) {id : Nat} (o : Obj) (hid : m.get id = none) : resOf tm (m.set id o) r = some v := by
  cases r with
  | tmp t => exact h
  | cell t n =>
    simp only [resOf] at h ⊢
    split at h
    · rename_i v' m1 he
      have hcl : (IOp.ld n (.t t)).cl = .R := rfl
      have := (evOp_R hcl he).2 (fun _ _ _ => none) (m.set id o) (set_ext o hid)
      rw [this]; exact h
    · cases h
theorem resAll_ext {tm : List AV} {m : Mem} {id : Nat} (o : Obj) (hid : m.get id = none) : ∀ (l : List IRes) (vs : List AV), resAll tm m l = some vs → resAll tm (m.set id o) l = some vs
  | [], _, h => h
  | r :: l, vs, h => by
    simp only [resAll] at h ⊢
    split at h
    · rename_i v vs' h1 h2
      rw [resOf_ext h1 o hid, resAll_ext o hid l _ h2]; exact h
    · cases h
theorem evF_ext (P : Nat → Option IFun) : ∀ k, CallExt (evF P k)
  | 0 => fun _ _ _ _ _ h => by simp [evF] at h
  | k + 1 => fun f args m r m' h => by
    have ih := evF_ext P k
    simp only [evF] at h
    cases hf : P f with
    | none => simp [hf] at h
    | some fn =>
      simp only [hf] at h
      have fin : ∀ e s, evC (evF P k) k fn.body ⟨args ++ List.replicate (fn.ntmps - args.length) .undef, m⟩ = some (e, s) → (e = .norm ∨ e = .ret) → (match resAll s.tm s.m fn.results with | some vs => some (pack vs, s.m) | none => none) = some (r, m') → Ext (evF P (k + 1) f args) m r m' fun _ => True := by
        intro e s h1 he h2
        have x := evC_ext ih k _ _ _ _ h1
        try simp only at x
        split at h2
        · rename_i vs hv
          injection h2 with h2; injection h2 with h3 h4
          subst h4
          refine ⟨x.next, x.keep, fun id a b _ => x.free id a b, fun id o hid hlt _ => ?_⟩
          have hm := x.more id o hid hlt
          try simp only at hm
          have hr := resAll_ext o (x.free id hid hlt) _ _ hv
          rcases he with rfl | rfl
          · simp only [evF, hf, hm, hr, h3]
          · simp only [evF, hf, hm, hr, h3]
        · cases h2
      split at h
      · rename_i s h1; exact fin _ s h1 (.inl rfl) h
      · rename_i s h1; exact fin _ s h1 (.inr rfl) h
      · cases h
end Go.Proofs.Ytljkkfcokpimkaa.X
