/- Runs with panics are the model's. -/
import Derived.Test.YtdljelicbnjfjaaGreatYd
set_option linter.unusedVariables false
set_option linter.unusedSimpArgs false
namespace Go.Proofs.YtdljelicbnjfjaaGreat.X
open Go Go.RowKit

def PPost (P : Program) (base : Nat) (pv : Value) (ρ : Map) (w0 : World) (m' : Mem) : Exit → Act → World → Prop := fun ex a' w' => ex = .panic (oneP pv) ∧ a'.defers = [] ∧ ∃ ρ', ρ.le ρ' ∧ MR P base ρ' m' w' ∧ Below base w0 w'
section
variable {P : Program} {base : Nat} {w0 : World} {call : CallF} {callP : CallP} {pv : Value}
theorem PPost.le {ρ ρ' : Map} {m' : Mem} (h : ρ.le ρ') : ∀ ex a w, PPost P base pv ρ' w0 m' ex a w → PPost P base pv ρ w0 m' ex a w :=
  fun _ _ _ ⟨h1, h2, ρ'', h3, h4⟩ => ⟨h1, h2, ρ'', Map.le_trans h h3, h4⟩
theorem loop_arrivesP {c : Code} {body : St → Option (Ex × St)} {bodyP : St → Option Mem} (hb : ∀ ρ s e s' a w, body s = some (e, s') → Rl P base ρ w0 s a w → c.wp P (CPost P base ρ w0 e s') a w)
    (hp : ∀ ρ s m' a w, bodyP s = some m' → Rl P base ρ w0 s a w → c.wp P (PPost P base pv ρ w0 m') a w) :
    ∀ (k : Nat) (ρ : Map) (s : St) (m' : Mem) (a : Act) (w : World), loopNP body bodyP k s = some m' → Rl P base ρ w0 s a w → ∀ (b : Frame) (kk : List Item) (cs : List Frame),
      ∃ ex a' w', PPost P base pv ρ w0 m' ex a' w' ∧ Arrives P (lone (b.at a (.code c :: .inLoop c :: kk)) cs w) b kk cs ex a' w'
  | 0, _, _, _, _, _, h, _, _, _, _ => by simp [loopNP] at h
  | k + 1, ρ, s, m', a, w, h, hr, b, kk, cs => by
    simp only [loopNP] at h
    split at h
    · rename_i s1 h1
      obtain ⟨ex, a1, w1, hq, harr⟩ := hb ρ s .norm s1 a w h1 hr b (.inLoop c :: kk) cs
      obtain ⟨hex, ρ', hρ, hr'⟩ := hq
      cases ex <;> simp only [exR] at hex
      obtain ⟨ex2, a2, w2, hq2, harr2⟩ := loop_arrivesP hb hp k ρ' s1 m' a1 w1 h hr' b kk cs
      exact ⟨ex2, a2, w2, PPost.le hρ _ _ _ hq2, .of_steps (Steps.trans harr (.one step_inLoop)) harr2⟩
    · cases h
    · obtain ⟨ex, a1, w1, hq, harr⟩ := hp ρ s m' a w h hr b (.inLoop c :: kk) cs
      obtain ⟨rfl, h2, h3⟩ := hq
      exact ⟨_, a1, w1, ⟨rfl, h2, h3⟩, .pass (x := .inLoop c) rfl (fun _ _ => .inl (by simp)) harr⟩
theorem code_soundP (hcall : CallSound P base call) (hcp : CallPSound P base pv callP) (hx : CallExt call) (hmix : P.follows .mixedOrders = true) (k : Nat) : ∀ (c : Code) (ic : ICode), okCode P c ic = true → ∀ (ρ : Map) (s : St) (m' : Mem) (a : Act) (w : World),
    evCP call callP k ic s = some m' → Rl P base ρ w0 s a w → c.wp P (PPost P base pv ρ w0 m') a w := by
  intro c
  induction c with
  | skip =>
    intro ic hok ρ s m' a w h hr
    cases ic <;> simp [okCode] at hok
    cases h
  | exit i =>
    intro ic hok ρ s m' a w h hr
    cases ic <;> simp [okCode] at hok
    cases h
  | ret =>
    intro ic hok ρ s m' a w h hr
    cases ic <;> simp [okCode] at hok
    cases h
  | seq x y ihx ihy =>
    intro ic hok ρ s m' a w h hr
    cases ic <;> simp [okCode] at hok
    rename_i x' y'
    simp only [evCP] at h
    split at h
    · rename_i s1 h1
      refine wp_seq (wp_mono (code_sound hcall hx hmix k x x' hok.1 ρ s .norm s1 a w h1 hr) ?_)
      rintro ex a1 w1 ⟨hex, ρ', hρ, hr'⟩
      cases ex <;> simp only [exR] at hex
      exact wp_mono (ihy y' hok.2 ρ' s1 m' a1 w1 h hr') (PPost.le hρ)
    · cases h
    · refine wp_seq (wp_mono (ihx x' hok.1 ρ s m' a w h hr) ?_)
      rintro ex a1 w1 ⟨rfl, h2, h3⟩
      exact ⟨rfl, h2, h3⟩
  | cond o x y ihx ihy =>
    intro ic hok ρ s m' a w h hr
    cases ic <;> simp [okCode] at hok
    rename_i o' x' y'
    have hv := opd_VR hr.tm hok.1.1
    simp only [evCP] at h
    split at h
    · rename_i ho
      rw [ho] at hv
      simp only [VR] at hv
      exact wp_cond_true hv (ihx x' hok.1.2 ρ s m' a w h hr)
    · rename_i ho
      rw [ho] at hv
      simp only [VR] at hv
      exact wp_cond_false hv (ihy y' hok.2 ρ s m' a w h hr)
    · cases h
  | block i c ih =>
    intro ic hok ρ s m' a w h hr
    cases ic <;> simp [okCode] at hok
    rename_i i' c'
    obtain ⟨rfl, hok⟩ := hok
    simp only [evCP] at h
    refine wp_block (wp_mono (ih c' hok ρ s m' a w h hr) ?_)
    rintro ex a1 w1 ⟨rfl, h2, h3⟩
    exact ⟨rfl, h2, h3⟩
  | loop c ih =>
    intro ic hok ρ s m' a w h hr
    cases ic <;> simp [okCode] at hok
    rename_i c'
    simp only [evCP] at h
    intro b kk cs
    obtain ⟨ex, a', w', hq, harr⟩ := loop_arrivesP (fun ρ s e s' a w h hr => code_sound hcall hx hmix k c c' hok ρ s e s' a w h hr) (fun ρ s m' a w h hr => ih c' hok ρ s m' a w h hr) k ρ s m' a w h hr b kk cs
    exact ⟨ex, a', w', hq, .of_steps (.one step_loop) harr⟩
  | region id ops draw =>
    intro ic hok ρ s m' a w h hr
    cases ic <;> simp only [okCode, Bool.false_eq_true] at hok
    rename_i n pi anc steps
    simp only [evCP] at h
    split at h
    · rename_i l m2 h1
      split at h
      · rename_i hlate
        injection h with h
        subst h
        cases draw with
        | false =>
          simp only [Bool.false_eq_true, if_false] at hok
          have hr' : Rl P base ρ w0 ⟨s.tm, ⟨s.m.next + n, s.m.t⟩⟩ a w := ⟨hr.tm, hr.df, hr.mr.bump n, hr.bel⟩
          refine wp_region ?_
          have := seq_panic (Q := PPost P base pv ρ w0 m2) hcall hcp 0 ops.toList steps ρ _ l m2 a w (by simp) hok hr' h1 fun ρ' a' w' hρ h2 h3 h4 => ⟨rfl, h2, ρ', hρ, h3, h4⟩
          simpa using this
        | true =>
          simp only [if_true] at hok
          simp only [okDrawn, Bool.and_eq_true, decide_eq_true_eq] at hok
          obtain ⟨⟨⟨⟨⟨⟨⟨⟨k1, k2⟩, k3⟩, k4⟩, k5⟩, k6⟩, k7⟩, k8⟩, k9⟩ := hok
          refine wp_region_any hmix ?_
          have hmap1 : (pi.zip steps).map (·.1) = pi := List.map_fst_zip (by omega)
          have hmap2 : (pi.zip steps).map (·.2) = steps := List.map_snd_zip (by omega)
          have hr' : Rl P base ρ w0 ⟨s.tm, ⟨s.m.next + n, s.m.t⟩⟩ a { w with drawn := w.drawn + 1 } := ⟨hr.tm, hr.df, (hr.mr.bump n).heap rfl, hr.bel.drew⟩
          obtain ⟨pre, x, post, s1, g, args, e1, e2, e3, e4, e5, e6⟩ := panAt_split steps _ _ _ h1
          have e7 := hmap2.trans e1
          obtain ⟨L1, L2, f1, f2, f3⟩ := List.map_eq_append_iff.1 e7
          obtain ⟨z, L3, f4, f5, f6⟩ := List.map_eq_cons_iff.1 f3
          have hlen : steps.length - l - 1 = L1.length := by
            rw [e1, ← f2, ← e2, ← f6]; simp; omega
          have late : ∀ y ∈ L3, (ancOf anc y.1).contains z.1 = true := by
            unfold lateOk at hlate
            rw [hlen, ← hmap1, f1, f4, List.map_append, List.map_cons, ← List.length_map (f := (·.1)), List.drop_left] at hlate
            intro y hy
            exact List.all_eq_true.1 hlate y.1 (List.mem_map.2 ⟨y, hy, rfl⟩)
          have hL : pi.zip steps = L1 ++ z :: L3 := by rw [f1, f4]
          have hrem : Remn P ops anc (pi.zip steps) (Array.replicate ops.size false) (pi.zip steps) := by
            refine ⟨fun x hx => List.all_eq_true.1 k5 x hx, okPairs_pairwise k8, List.Sublist.refl _, by rw [hmap1]; exact k4, fun z hz => ?_, by simp, fun j hj => ?_, fun j o ho hj => ?_, by rw [hmap1]; exact k4⟩
            · have := List.all_eq_true.1 k5 z hz
              unfold okAt at this
              split at this
              · rename_i o ho
                exact (Array.getElem?_eq_some_iff.1 ho).1
              · cases this
            · rw [hmap1]
              have : (Array.replicate ops.size false).getD j true = false := by simp [Array.getD_eq_getD_getElem?, hj]
              simp only [this, true_iff]
              exact k3 j (by simpa using hj)
            · rw [hmap1] at hj
              have hlt : j < ops.size := (Array.getElem?_eq_some_iff.1 ho).1
              exact absurd (k3 j (by simpa using hlt)) hj
          have hslot : ∀ x ∈ pi.zip steps, ∀ k, x.2.op.slotOf = some k → s.m.next + k < s.m.next + n := by
            intro x hx k hk
            have hm : x.2 ∈ steps := by rw [← hmap2]; exact List.mem_map.2 ⟨x, hx, rfl⟩
            have := List.all_eq_true.1 k9 x.2 hm
            simp only [hk, decide_eq_true_eq] at this
            omega
          have hlen2 : (pi.zip steps).length ≤ ops.size := by rw [List.length_zip]; omega
          refine drawn_panic (L := pi.zip steps) (x := z) (g := g) (args := args) (m' := m2) (b := s.m.next) hcall hcp hx k6 k7 (by rw [f5]; exact e5) ops.size L1 L3 _ ρ ⟨s.tm, ⟨s.m.next + n, s.m.t⟩⟩ s1 a _ (by rw [← hL]; exact hlen2) (by rw [← hL]; exact hrem) hr' (by rw [← hL]; exact hslot) (by rw [f2]; exact e3) (by rw [f5]; exact e4) e6 late fun ρ' a' w' hρ h2 h3 h4 => ⟨rfl, h2, ρ', hρ, h3, h4⟩
      · cases h
    · cases h
  | label l =>
    intro ic hok ρ s m' a w h hr
    cases ic <;> simp [okCode] at hok
    cases h
  | scope c ih =>
    intro ic hok ρ s m' a w h hr
    simp only [okCode] at hok
    refine wp_scope_straight (wp_mono (ih ic hok ρ s m' a w h hr) ?_)
    rintro ex a1 w1 ⟨rfl, hr⟩
    exact ⟨rfl, hr⟩
  | _ =>
    intro ic hok
    cases ic <;> simp [okCode] at hok
end
/-- What is asked of the function that panics. -/
structure MustOk (P : Program) (pv : Value) (f : Nat) : Prop where
  ok : callOk P f = true
  yes : ∀ base ρ m w, MR P base ρ m w → Calls P f #[.bool true] w fun e w' => e = .returned (.tuple #[]) ∧ MR P base ρ m w' ∧ Below base w w'
  no : ∀ base ρ m w, MR P base ρ m w → Calls P f #[.bool false] w fun e w' => e = .panicked (oneP pv) ∧ MR P base ρ m w' ∧ Below base w w'
/-- What is asked of the function that catches. -/
structure HoldOk (P : Program) (pv : Value) (f ty : Nat) : Prop where
  ok : callOk P f = true
  yes : ∀ base ρ m w g (F C : List Value) b m1 m2 m3, MR P base ρ m w → m.new none [.bool false] ty = some (b, m1) → m2.write b 0 [.bool true] = some m3 → callOk P g = true →
    (∀ ρ1 w1, ρ.le ρ1 → MR P base ρ1 m1 w1 → Calls P g (F ++ C).toArray w1 fun e w' => ∃ ρ' u, ρ1.le ρ' ∧ e = .returned u ∧ MR P base ρ' m2 w' ∧ Below base w1 w') →
    Calls P f #[.func (.func g) F.toArray C.toArray] w fun e w' => ∃ ρ', ρ.le ρ' ∧ e = .returned (.bool true) ∧ MR P base ρ' m3 w' ∧ Below base w w'
  no : ∀ base ρ m w g (F C : List Value) b m1 m2 m3, MR P base ρ m w → m.new none [.bool false] ty = some (b, m1) → m2.write b 0 [.bool false] = some m3 → callOk P g = true →
    (∀ ρ1 w1, ρ.le ρ1 → MR P base ρ1 m1 w1 → Calls P g (F ++ C).toArray w1 fun e w' => ∃ ρ', ρ1.le ρ' ∧ e = .panicked (oneP pv) ∧ MR P base ρ' m2 w' ∧ Below base w1 w') →
    Calls P f #[.func (.func g) F.toArray C.toArray] w fun e w' => ∃ ρ', ρ.le ρ' ∧ e = .returned (.bool false) ∧ MR P base ρ' m3 w' ∧ Below base w w'
def LiveOk (P : Program) (f : Nat) : Prop := callOk P f = true ∧ ∀ base ρ m w, MR P base ρ m w → Calls P f #[] w fun e w' => e = .returned (.bool true) ∧ MR P base ρ m w' ∧ Below base w w'
def SortOk (P : Program) (f : Nat) : Prop := callOk P f = true ∧ ∀ base ρ m w args args' r m', evSort args m = some (r, m') → VRL ρ args args' → MR P base ρ m w → Calls P f args'.toArray w fun e w' => r = .tup [] ∧ e = .returned (.tuple #[]) ∧ MR P base ρ m' w' ∧ Below base w w'
/-- What is known is so. -/
structure KnownOk (P : Program) (S : Sp) : Prop where
  live : ∀ f, S.isLive f = true → LiveOk P f
  sort : ∀ f, S.isSort f = true → SortOk P f
section
variable {P : Program} {base : Nat} {pv : Value}
theorem evGG_sound {S : Sp} {tab : Nat → Option IFun} (htab : ∀ f i, tab f = some i → okFun P f i = true) (hmix : P.follows .mixedOrders = true) (hm : MustOk P pv S.must) (hh : HoldOk P pv S.hold S.okTy) (hl : KnownOk P S) :
    ∀ k, CallSound P base (evGG S tab k).1 ∧ CallPSound P base pv (evGG S tab k).2
  | 0 => ⟨fun f args m r m' h => by simp [evGG] at h, fun f args m m' h => by simp [evGG] at h⟩
  | k + 1 => by
    obtain ⟨i1, i2⟩ := evGG_sound htab hmix hm hh hl k
    obtain ⟨x1, x2⟩ := evGG_ext S tab k
    have run : ∀ {f : Nat} {fn : IFun}, tab f = some fn → callOk P f = true ∧ ∀ (ρ : Map) (w : World) (args : List AV) (args' : List Value) (m : Mem), VRL ρ args args' → MR P base ρ m w →
        ∃ gn c, P.funcs[f]? = some gn ∧ gn.body = some c ∧ okCode P c fn.body = true ∧ okRess P gn.results.toList fn.results = true ∧ Rl P base ρ w (inFun fn args m) { tmps := args'.toArray ++ Array.replicate (gn.ntmps - args'.toArray.size) undef, defers := [] } w := by
      intro f fn hf
      have hok := htab f fn hf
      simp only [okFun, Bool.and_eq_true] at hok
      obtain ⟨hc, hok⟩ := hok
      refine ⟨hc, fun ρ w args args' m ha hmm => ?_⟩
      cases hg : P.funcs[f]? with
      | none => simp [hg] at hok
      | some gn =>
        cases hb : gn.body with
        | none => simp [hg, hb] at hok
        | some c =>
          simp only [hg, hb, Bool.and_eq_true, decide_eq_true_eq] at hok
          obtain ⟨⟨hcode, hn⟩, hres⟩ := hok
          have hlen := ha.length
          refine ⟨gn, c, rfl, hb, hcode, hres, ?_, rfl, hmm, Below.refl _ _⟩
          simp only [inFun, Array.toList_append, Array.toList_replicate, List.size_toArray]
          rw [hn, hlen]
          exact ha.append (VRL.replicate_undef _)
    refine ⟨fun f args m r m' h => ?_, fun f args m m' h => ?_⟩
    · simp only [evGG] at h
      by_cases h1 : f = S.must
      · subst h1
        rw [if_pos rfl] at h
        refine ⟨hm.ok, fun ρ w args' ha hmm => ?_⟩
        unfold evMust at h
        split at h
        · injection h with h; injection h with h2 h3
          subst h2 h3
          simp only [VRL] at ha
          obtain ⟨u, us, rfl, hu, rfl⟩ := ha
          simp only [VR] at hu
          subst hu
          refine Calls.mono (hm.yes base ρ m w hmm) ?_
          rintro e w' ⟨rfl, q2, q3⟩
          exact ⟨ρ, _, ρ.le_refl, rfl, by simp [VR, VRL], q2, q3⟩
        · cases h
      rw [if_neg h1] at h
      by_cases h2 : f = S.hold
      · subst h2
        rw [if_pos rfl] at h
        refine ⟨hh.ok, fun ρ w args' ha hmm => ?_⟩
        unfold evHold at h
        split at h
        · rename_i g first cap
          simp only [VRL] at ha
          obtain ⟨u, us, rfl, hu, rfl⟩ := ha
          simp only [VR] at hu
          obtain ⟨F, C, hF, hC, rfl⟩ := hu
          split at h
          · rename_i b m1 hn
            split at h
            · rename_i v m2 hcl
              split at h
              · rename_i m3 hw
                injection h with h; injection h with e1 e2
                subst e1 e2
                obtain ⟨c1, c2⟩ := i1 _ _ _ _ _ hcl
                refine Calls.mono (hh.yes base ρ m w g F C b m1 m2 _ hmm hn hw c1 fun ρ1 w1 hρ hm1 => ?_) ?_
                · refine Calls.mono (c2 ρ1 w1 (F ++ C) (VRL.mono hρ _ _ (hF.append hC)) hm1) ?_
                  rintro e w' ⟨ρ', u, q1, q2, q3, q4, q5⟩
                  exact ⟨ρ', u, q1, q2, q4, q5⟩
                · rintro e w' ⟨ρ', q1, rfl, q3, q4⟩
                  exact ⟨ρ', _, q1, rfl, by simp [VR], q3, q4⟩
              · cases h
            · split at h
              · rename_i m2 hcp
                split at h
                · rename_i m3 hw
                  injection h with h; injection h with e1 e2
                  subst e1 e2
                  obtain ⟨c1, c2⟩ := i2 _ _ _ _ hcp
                  refine Calls.mono (hh.no base ρ m w g F C b m1 m2 _ hmm hn hw c1 fun ρ1 w1 hρ hm1 => ?_) ?_
                  · exact c2 ρ1 w1 (F ++ C) (VRL.mono hρ _ _ (hF.append hC)) hm1
                  · rintro e w' ⟨ρ', q1, rfl, q3, q4⟩
                    exact ⟨ρ', _, q1, rfl, by simp [VR], q3, q4⟩
                · cases h
              · cases h
          · cases h
        · cases h
      rw [if_neg h2] at h
      by_cases h3 : S.knows f = true
      · rw [if_pos h3] at h
        unfold evKnown at h
        cases hlf : S.isLive f with
        | true =>
          rw [hlf, cond_true] at h
          have hl := hl.live f hlf
          refine ⟨hl.1, fun ρ w args' ha hmm => ?_⟩
          unfold evLive at h
          split at h
          · injection h with h; injection h with e1 e2
            subst e1 e2
            simp only [VRL] at ha
            subst ha
            refine Calls.mono (hl.2 base ρ m w hmm) ?_
            rintro e w' ⟨rfl, q2, q3⟩
            exact ⟨ρ, _, ρ.le_refl, rfl, by simp [VR], q2, q3⟩
          · cases h
        | false =>
          rw [hlf, cond_false] at h
          have hsf : S.isSort f = true := by unfold Sp.knows at h3; rw [hlf] at h3; exact h3
          have hl := hl.sort f hsf
          refine ⟨hl.1, fun ρ w args' ha hmm => ?_⟩
          refine Calls.mono (hl.2 base ρ m w args args' r m' h ha hmm) ?_
          rintro e w' ⟨rfl, rfl, q2, q3⟩
          exact ⟨ρ, _, ρ.le_refl, rfl, by simp [VR, VRL], q2, q3⟩
      rw [if_neg h3] at h
      cases hf : tab f with
      | none => simp [hf] at h
      | some fn =>
        simp only [hf] at h
        obtain ⟨hc, hrun⟩ := run hf
        refine ⟨hc, fun ρ w args' ha hmm => ?_⟩
        obtain ⟨gn, c, hg, hb, hcode, hres, hr⟩ := hrun ρ w args args' m ha hmm
        unfold evFun at h
        have fin : ∀ e s, evC (evGG S tab k).1 k fn.body (inFun fn args m) = some (e, s) → (e = .norm ∨ e = .ret) → (match resAll s.tm s.m fn.results with | some vs => some (pack vs, s.m) | none => none) = some (r, m') →
            Calls P f args'.toArray w fun e w' => ∃ ρ' u, ρ.le ρ' ∧ e = .returned u ∧ VR ρ' r u ∧ MR P base ρ' m' w' ∧ Below base w w' := by
          intro e s he hen h
          have hwp := code_sound i1 x1 hmix k c fn.body hcode ρ _ e s _ w he hr
          refine calls_of_wp hg hb (wp_mono hwp ?_)
          rintro ex a' w' ⟨hex, ρ', hρ, hr'⟩
          split at h
          · rename_i vs hvs
            injection h with h; injection h with e1 e2
            obtain ⟨u, h1, h2⟩ := results_run hr'.tm hr'.mr hres hvs
            rw [e1] at h2
            have : a'.defers = [] ∧ ∃ v, (results gn a'.tmps).run P w' = .ok v w' ∧ ∃ ρ' u, ρ.le ρ' ∧ Ending.returned v = .returned u ∧ VR ρ' r u ∧ MR P base ρ' m' w' ∧ Below base w w' := ⟨hr'.df, u, h1, ρ', u, hρ, rfl, h2, by rw [← e2]; exact hr'.mr, hr'.bel⟩
            rcases hen with rfl | rfl <;> cases ex <;> simp only [exR] at hex <;> exact this
          · cases h
        split at h
        · rename_i s hs; exact fin _ s hs (.inl rfl) h
        · rename_i s hs; exact fin _ s hs (.inr rfl) h
        · cases h
    · simp only [evGG] at h
      by_cases h1 : f = S.must
      · subst h1
        rw [if_pos rfl] at h
        refine ⟨hm.ok, fun ρ w args' ha hmm => ?_⟩
        unfold evMustP at h
        split at h
        · injection h with h
          subst h
          simp only [VRL] at ha
          obtain ⟨u, us, rfl, hu, rfl⟩ := ha
          simp only [VR] at hu
          subst hu
          refine Calls.mono (hm.no base ρ m w hmm) ?_
          rintro e w' ⟨rfl, q2, q3⟩
          exact ⟨ρ, ρ.le_refl, rfl, q2, q3⟩
        · cases h
      rw [if_neg h1] at h
      by_cases h2 : f = S.hold
      · rw [if_pos h2] at h; cases h
      rw [if_neg h2] at h
      by_cases h3 : S.knows f = true
      · rw [if_pos h3] at h; cases h
      rw [if_neg h3] at h
      cases hf : tab f with
      | none => simp [hf] at h
      | some fn =>
        simp only [hf] at h
        obtain ⟨hc, hrun⟩ := run hf
        refine ⟨hc, fun ρ w args' ha hmm => ?_⟩
        obtain ⟨gn, c, hg, hb, hcode, hres, hr⟩ := hrun ρ w args args' m ha hmm
        have hwp := code_soundP i1 i2 x1 hmix k c fn.body hcode ρ _ m' _ w h hr
        refine calls_of_wp hg hb (wp_mono hwp ?_)
        rintro ex a' w' ⟨rfl, q2, ρ', q3, q4, q5⟩
        exact ⟨q2, ρ', q3, rfl, q4, q5⟩
end
end Go.Proofs.YtdljelicbnjfjaaGreat.X
