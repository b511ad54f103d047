/- Runs that panic: none of them returns as well; one block more makes no difference. -/
import Derived.Test.YtdljelicbnjfjaaGreatYa
set_option linter.unusedVariables false
set_option linter.unusedSimpArgs false
namespace Go.Proofs.YtdljelicbnjfjaaGreat.X
open Go Go.RowKit

/-! ### Either it panics, or it returns -/
def Excl (call : CallF) (callP : CallP) : Prop := ∀ f args m m', callP f args m = some m' → call f args m = none
theorem panAt_excl {call : CallF} {callP : CallP} {b : Nat} : ∀ (l : List Step) (s : St) (r : Nat × Mem), panAt call callP b l s = some r → evSteps call b l s = none
  | [], s, r, h => by simp [panAt] at h
  | i :: l, s, r, h => by
    simp only [panAt] at h
    simp only [evSteps]
    split at h
    · rename_i hw
      rw [if_pos hw]
      split at h
      · rename_i v m' he
        split at h
        · rename_i hk
          simp only [he]
          rw [if_pos hk]; exact panAt_excl l _ r h
        · cases h
      · rename_i he
        simp only [he]
    · rename_i hw
      rw [if_neg hw]
      exact panAt_excl l _ r h
theorem loopNP_excl {body : St → Option (Ex × St)} {bodyP : St → Option Mem} (hb : ∀ s m', bodyP s = some m' → body s = none) : ∀ (k : Nat) (s : St) (m' : Mem), loopNP body bodyP k s = some m' → loopN body k s = none
  | 0, s, m', h => rfl
  | k + 1, s, m', h => by
    simp only [loopNP] at h
    rw [loopN]
    cases h1 : body s with
    | none => rfl
    | some q =>
      obtain ⟨x, s'⟩ := q
      rw [h1] at h
      cases x with
      | norm => exact loopNP_excl hb k s' m' h
      | exit i => cases h
      | ret => cases h
theorem evCP_excl {call : CallF} {callP : CallP} {k : Nat} : ∀ (c : ICode) (s : St) (m' : Mem), evCP call callP k c s = some m' → evC call k c s = none := by
  intro c
  induction c with
  | skip => intro s m' h; cases h
  | exit i => intro s m' h; cases h
  | ret => intro s m' h; cases h
  | reg n pi anc ops =>
    intro s m' h
    simp only [evCP] at h
    simp only [evC]
    split at h
    · rename_i l m2 hp
      rw [panAt_excl _ _ _ hp]
    · cases h
  | seq a b iha ihb =>
    intro s m' h
    simp only [evCP] at h
    simp only [evC]
    cases h1 : evC call k a s with
    | none => rfl
    | some q =>
      obtain ⟨x, s'⟩ := q
      rw [h1] at h
      cases x with
      | norm => exact ihb s' m' h
      | exit i => cases h
      | ret => cases h
  | cond c a b iha ihb =>
    intro s m' h
    simp only [evCP] at h
    simp only [evC]
    cases h1 : c.eval s.tm with
    | bool t =>
      rw [h1] at h
      cases t with
      | true => exact iha s m' h
      | false => exact ihb s m' h
    | _ => rfl
  | block id c ih =>
    intro s m' h
    simp only [evCP] at h
    simp only [evC, ih s m' h]
  | loop c ih =>
    intro s m' h
    simp only [evCP] at h
    simp only [evC]
    exact loopNP_excl ih k s m' h
theorem evGG_excl (S : Sp) (tab : Nat → Option IFun) : ∀ k, Excl (evGG S tab k).1 (evGG S tab k).2
  | 0 => fun f args m m' h => rfl
  | k + 1 => fun f args m m' h => by
    simp only [evGG] at h ⊢
    by_cases h1 : f = S.must
    · rw [if_pos h1] at h ⊢
      unfold evMustP at h
      split at h
      · rfl
      · cases h
    rw [if_neg h1] at h ⊢
    by_cases h2 : f = S.hold
    · rw [if_pos h2] at h; cases h
    rw [if_neg h2] at h ⊢
    by_cases h3 : S.knows f = true
    · rw [if_pos h3] at h; cases h
    rw [if_neg h3] at h ⊢
    cases hf : tab f with
    | none => rfl
    | some fn =>
      simp only [hf] at h
      simp only [evFun, evCP_excl _ _ _ h]

/-! ### One block more -/
structure PX (F : Mem → Option Mem) (m m' : Mem) : Prop where
  next : m.next ≤ m'.next
  keep : ∀ c, m.get c ≠ none → m'.get c ≠ none
  free : ∀ id, m.get id = none → id < m.next → m'.get id = none
  more : ∀ id o, m.get id = none → id < m.next → F (m.set id o) = some (m'.set id o)
def CallPExt (callP : CallP) : Prop := ∀ f args m m', callP f args m = some m' → PX (callP f args) m m'
section
variable {call : CallF} {callP : CallP}
theorem panAt_ext (hc : CallExt call) (hp : CallPExt callP) (hx : Excl call callP) {b : Nat} : ∀ (l : List Step) (s : St) (n : Nat) (m' : Mem), panAt call callP b l s = some (n, m') →
    s.m.next ≤ m'.next ∧ (∀ c, s.m.get c ≠ none → m'.get c ≠ none) ∧
    ∀ id, s.m.get id = none → id < s.m.next → id < b → m'.get id = none ∧ ∀ o, panAt call callP b l ⟨s.tm, s.m.set id o⟩ = some (n, m'.set id o)
  | [], s, n, m', h => by simp [panAt] at h
  | i :: l, s, n, m', h => by
    simp only [panAt] at h
    split at h
    · rename_i hw
      split at h
      · rename_i v m1 he
        split at h
        · rename_i hck
          have hx' := evOp_ext hc he
          obtain ⟨h1, h2, h3⟩ := panAt_ext hc hp hx l _ _ _ h
          refine ⟨Nat.le_trans hx'.next h1, fun c hc' => h2 c (hx'.keep c hc'), fun id hid hlt hlb => ?_⟩
          have hf := hx'.free id hid hlt fun k _ e => by omega
          obtain ⟨h4, h5⟩ := h3 id hf (Nat.lt_of_lt_of_le hlt hx'.next) hlb
          refine ⟨h4, fun o => ?_⟩
          have hm := hx'.more id o hid hlt fun k _ e => by omega
          try simp only at hm
          simp only [panAt, hw, if_true, hm]
          rw [if_pos, h5 o]
          rw [List.all_eq_true] at hck ⊢
          exact fun c hcm => chkOk_ext (hck c hcm) o hf (Nat.lt_of_lt_of_le hlt hx'.next) fun k _ e => by omega
        · cases h
      · rename_i he
        split at h
        · rename_i f args hop
          split at h
          · rename_i m2 hcp
            injection h with h; injection h with h1 h2
            subst h1 h2
            have px := hp f _ _ _ hcp
            refine ⟨px.next, px.keep, fun id hid hlt hlb => ⟨px.free id hid hlt, fun o => ?_⟩⟩
            have hm := px.more id o hid hlt
            have hn := hx f _ _ _ hm
            simp only [panAt, hw, if_true, hop, evOp, hn, hm]
          · cases h
        · cases h
    · rename_i hw
      obtain ⟨h1, h2, h3⟩ := panAt_ext hc hp hx l _ _ _ h
      refine ⟨h1, h2, fun id hid hlt hlb => ?_⟩
      obtain ⟨h4, h5⟩ := h3 id hid hlt hlb
      refine ⟨h4, fun o => ?_⟩
      simp only [panAt, hw, if_false, Bool.false_eq_true]
      exact h5 o
/-- The same of a run that has a state. -/
structure SPX (F : St → Option Mem) (s : St) (m' : Mem) : Prop where
  next : s.m.next ≤ m'.next
  keep : ∀ c, s.m.get c ≠ none → m'.get c ≠ none
  free : ∀ id, s.m.get id = none → id < s.m.next → m'.get id = none
  more : ∀ id o, s.m.get id = none → id < s.m.next → F ⟨s.tm, s.m.set id o⟩ = some (m'.set id o)
theorem loopNP_ext {body : St → Option (Ex × St)} {bodyP : St → Option Mem} (hb : ∀ s e s', body s = some (e, s') → SExt body s e s') (hbp : ∀ s m', bodyP s = some m' → SPX bodyP s m') (hxl : ∀ s m', bodyP s = some m' → body s = none) :
    ∀ (k : Nat) (s : St) (m' : Mem), loopNP body bodyP k s = some m' → SPX (loopNP body bodyP k) s m'
  | 0, _, _, h => by simp [loopNP] at h
  | k + 1, s, m', h => by
    simp only [loopNP] at h
    split at h
    · rename_i s1 h1
      have x1 := hb _ _ _ h1
      have x2 := loopNP_ext hb hbp hxl k _ _ h
      refine ⟨Nat.le_trans x1.next x2.next, fun c hc => x2.keep c (x1.keep c hc), fun id hid hlt => x2.free id (x1.free id hid hlt) (Nat.lt_of_lt_of_le hlt x1.next), fun id o hid hlt => ?_⟩
      simp only [loopNP, x1.more id o hid hlt]
      exact x2.more id o (x1.free id hid hlt) (Nat.lt_of_lt_of_le hlt x1.next)
    · cases h
    · have x1 := hbp _ _ h
      refine ⟨x1.next, x1.keep, x1.free, fun id o hid hlt => ?_⟩
      have hm := x1.more id o hid hlt
      simp only [loopNP, hxl _ _ hm]
      exact hm
theorem evCP_ext (hc : CallExt call) (hp : CallPExt callP) (hx : Excl call callP) (k : Nat) : ∀ (c : ICode) (s : St) (m' : Mem), evCP call callP k c s = some m' → SPX (evCP call callP k c) s m' := by
  intro c
  induction c with
  | skip => intro s m' h; cases h
  | exit i => intro s m' h; cases h
  | ret => intro s m' h; cases h
  | reg n pi anc ops =>
    intro s m' h
    simp only [evCP] at h
    split at h
    · rename_i l m2 h1
      split at h
      · rename_i hl
        injection h with h
        subst h
        obtain ⟨q1, q2, q3⟩ := panAt_ext hc hp hx ops _ _ _ h1
        try simp only at q1 q2 q3
        refine ⟨by omega, q2, fun id hid hlt => (q3 id hid (by omega) hlt).1, fun id o hid hlt => ?_⟩
        have := (q3 id hid (by omega) hlt).2 o
        simp only [Mem.set] at this
        simp only [evCP, Mem.set, this, hl, if_true]
      · cases h
    · cases h
  | seq a b iha ihb =>
    intro s m' h
    simp only [evCP] at h
    split at h
    · rename_i s1 h1
      have x1 := evC_ext hc k a _ _ _ h1
      have x2 := ihb _ _ h
      refine ⟨Nat.le_trans x1.next x2.next, fun c hc => x2.keep c (x1.keep c hc), fun id hid hlt => x2.free id (x1.free id hid hlt) (Nat.lt_of_lt_of_le hlt x1.next), fun id o hid hlt => ?_⟩
      simp only [evCP, x1.more id o hid hlt]
      exact x2.more id o (x1.free id hid hlt) (Nat.lt_of_lt_of_le hlt x1.next)
    · cases h
    · have x1 := iha _ _ h
      refine ⟨x1.next, x1.keep, x1.free, fun id o hid hlt => ?_⟩
      have hm := x1.more id o hid hlt
      simp only [evCP, evCP_excl _ _ _ hm]
      exact hm
  | cond c a b iha ihb =>
    intro s m' h
    simp only [evCP] at h
    split at h
    · rename_i hv
      have x1 := iha _ _ h
      exact ⟨x1.next, x1.keep, x1.free, fun id o hid hlt => by simp only [evCP, hv]; exact x1.more id o hid hlt⟩
    · rename_i hv
      have x1 := ihb _ _ h
      exact ⟨x1.next, x1.keep, x1.free, fun id o hid hlt => by simp only [evCP, hv]; exact x1.more id o hid hlt⟩
    · cases h
  | block i c ih =>
    intro s m' h
    simp only [evCP] at h
    have x1 := ih _ _ h
    exact ⟨x1.next, x1.keep, x1.free, fun id o hid hlt => by simp only [evCP]; exact x1.more id o hid hlt⟩
  | loop c ih =>
    intro s m' h
    simp only [evCP] at h
    have := loopNP_ext (fun s e s' h => evC_ext hc k c s e s' h) ih (fun s m' h => evCP_excl c s m' h) k s m' h
    exact ⟨this.next, this.keep, this.free, fun id o hid hlt => by simp only [evCP]; exact this.more id o hid hlt⟩
theorem evFun_ext (hc : CallExt call) {k : Nat} {fn : IFun} {args : List AV} {m m' : Mem} {r : AV} (h : evFun call k fn args m = some (r, m')) : Ext (evFun call k fn args) m r m' fun _ => True := by
  unfold evFun at h
  have fin : ∀ e s, evC call k fn.body (inFun fn args m) = some (e, s) → (e = .norm ∨ e = .ret) → (match resAll s.tm s.m fn.results with | some vs => some (pack vs, s.m) | none => none) = some (r, m') → Ext (evFun call k fn args) m r m' fun _ => True := by
    intro e s h1 he h2
    have x := evC_ext hc k _ _ _ _ h1
    unfold inFun at x
    try simp only at x
    split at h2
    · rename_i vs hv
      injection h2 with h2; injection h2 with h3 h4
      subst h4
      refine ⟨x.next, x.keep, fun id a b _ => x.free id a b, fun id o hid hlt _ => ?_⟩
      have hm := x.more id o hid hlt
      try simp only at hm
      have hr := resAll_ext o (x.free id hid hlt) _ _ hv
      rcases he with rfl | rfl
      · simp only [evFun, inFun, hm, hr, h3]
      · simp only [evFun, inFun, hm, hr, h3]
    · cases h2
  split at h
  · rename_i s h1; exact fin _ s h1 (.inl rfl) h
  · rename_i s h1; exact fin _ s h1 (.inr rfl) h
  · cases h
theorem evHold_ext (hc : CallExt call) (hp : CallPExt callP) (hx : Excl call callP) {ty : Nat} {args : List AV} {m m' : Mem} {r : AV} (h : evHold call callP ty args m = some (r, m')) : Ext (evHold call callP ty args) m r m' fun _ => True := by
  unfold evHold at h
  split at h
  · rename_i g first cap
    split at h
    · rename_i b m1 hn
      obtain ⟨n1, n2, n3, n4⟩ := new_ext hn
      split at h
      · rename_i v m2 hcl
        have x := hc _ _ _ _ _ hcl
        split at h
        · rename_i m3 hw
          injection h with h; injection h with h1 h2
          subst h1 h2
          obtain ⟨w1, w2, w3⟩ := write_ext hw
          refine ⟨by have := x.next; omega, fun c hc' z => x.keep c (n2 c hc') ((w2 c).1 z), fun id a b' _ => (w2 id).2 (x.free id (n3 id a b' (by simp)) (by omega) trivial), fun id o hid hlt _ => ?_⟩
          have f1 := n3 id hid hlt (by simp)
          have f2 := x.free id f1 (by omega) trivial
          simp only [evHold, n4 id o hid hlt (by simp)]
          have := x.more id o f1 (by omega) trivial
          simp only [this, w3 id o f2]
        · cases h
      · split at h
        · rename_i m2 hcp
          have x := hp _ _ _ _ hcp
          split at h
          · rename_i m3 hw
            injection h with h; injection h with h1 h2
            subst h1 h2
            obtain ⟨w1, w2, w3⟩ := write_ext hw
            refine ⟨by have := x.next; omega, fun c hc' z => x.keep c (n2 c hc') ((w2 c).1 z), fun id a b' _ => (w2 id).2 (x.free id (n3 id a b' (by simp)) (by omega)), fun id o hid hlt _ => ?_⟩
            have f1 := n3 id hid hlt (by simp)
            have f2 := x.free id f1 (by omega)
            have hm := x.more id o f1 (by omega)
            simp only [evHold, n4 id o hid hlt (by simp), hx _ _ _ _ hm, hm, w3 id o f2]
          · cases h
        · cases h
    · cases h
  · cases h
end
theorem evKnown_ext {S : Sp} {f : Nat} {args : List AV} {m m' : Mem} {r : AV} (h : evKnown S f args m = some (r, m')) : Ext (fun m => evKnown S f args m) m r m' fun _ => True := by
  unfold evKnown at h ⊢
  cases hl : S.isLive f with
  | true =>
    simp only [hl, cond_true] at h ⊢
    unfold evLive at h
    split at h
    · injection h with h; injection h with h2 h3
      subst h2 h3
      exact .same fun m2 _ => rfl
    · cases h
  | false =>
    simp only [hl, cond_false] at h ⊢
    unfold evSort at h
    split at h
    · injection h with h; injection h with h2 h3
      subst h2 h3
      exact .same fun m2 _ => rfl
    · rename_i b off len cap
      split at h
      · rename_i h0
        injection h with h; injection h with h2 h3
        subst h2 h3
        exact .same fun m2 _ => by simp only [evSort, if_pos h0]
      · rename_i h0
        split at h
        · rename_i hlt
          split at h
          · rename_i cs hr
            split at h
            · rename_i zs hz
              split at h
              · rename_i m1 hw
                injection h with h; injection h with h2 h3
                subst h2 h3
                refine write_Ext hw fun id o hid m3 h3 => ?_
                simp only [evSort, if_neg h0, if_pos hlt, read_ext hr (set_ext o hid), hz, h3]
              · cases h
            · cases h
          · cases h
        · cases h
    · cases h
theorem evGG_ext (S : Sp) (tab : Nat → Option IFun) : ∀ k, CallExt (evGG S tab k).1 ∧ CallPExt (evGG S tab k).2
  | 0 => ⟨fun f args m r m' h => by simp [evGG] at h, fun f args m m' h => by simp [evGG] at h⟩
  | k + 1 => by
    obtain ⟨i1, i2⟩ := evGG_ext S tab k
    have i3 := evGG_excl S tab k
    refine ⟨fun f args m r m' h => ?_, fun f args m m' h => ?_⟩
    · have e : (evGG S tab (k + 1)).1 f args = fun m => if f = S.must then evMust args m else if f = S.hold then evHold (evGG S tab k).1 (evGG S tab k).2 S.okTy args m else if S.knows f = true then evKnown S f args m else
          match tab f with | some fn => evFun (evGG S tab k).1 k fn args m | none => none := rfl
      rw [e] at h ⊢
      simp only at h
      by_cases h1 : f = S.must
      · simp only [if_pos h1] at h ⊢
        unfold evMust at h
        split at h
        · injection h with h; injection h with h2 h3
          subst h2 h3
          exact .same fun m2 _ => rfl
        · cases h
      simp only [if_neg h1] at h ⊢
      by_cases h2 : f = S.hold
      · simp only [if_pos h2] at h ⊢
        exact evHold_ext i1 i2 i3 h
      simp only [if_neg h2] at h ⊢
      by_cases h3 : S.knows f = true
      · simp only [if_pos h3] at h ⊢
        exact evKnown_ext h
      simp only [if_neg h3] at h ⊢
      cases hf : tab f with
      | none => simp [hf] at h
      | some fn =>
        simp only [hf] at h ⊢
        exact evFun_ext i1 h
    · have e : (evGG S tab (k + 1)).2 f args = fun m => if f = S.must then evMustP args m else if f = S.hold then none else if S.knows f = true then none else
          match tab f with | some fn => evCP (evGG S tab k).1 (evGG S tab k).2 k fn.body (inFun fn args m) | none => none := rfl
      rw [e] at h ⊢
      simp only at h
      by_cases h1 : f = S.must
      · simp only [if_pos h1] at h ⊢
        unfold evMustP at h
        split at h
        · injection h with h
          subst h
          exact ⟨Nat.le_refl _, fun _ h => h, fun _ h _ => h, fun _ _ _ _ => rfl⟩
        · cases h
      simp only [if_neg h1] at h ⊢
      by_cases h2 : f = S.hold
      · simp only [if_pos h2] at h; cases h
      simp only [if_neg h2] at h ⊢
      by_cases h3 : S.knows f = true
      · simp only [if_pos h3] at h; cases h
      simp only [if_neg h3] at h ⊢
      cases hf : tab f with
      | none => simp [hf] at h
      | some fn =>
        simp only [hf] at h ⊢
        have x := evCP_ext i1 i2 i3 k _ _ _ h
        exact ⟨x.next, x.keep, x.free, fun id o hid hlt => x.more id o hid hlt⟩
end Go.Proofs.YtdljelicbnjfjaaGreat.X
