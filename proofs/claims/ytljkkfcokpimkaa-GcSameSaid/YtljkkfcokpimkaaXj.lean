/- The plain machine's calls are the model's: what a call of the plain machine comes to, the model's call comes to. -/
import Derived.Test.YtljkkfcokpimkaaXi
set_option linter.unusedVariables false
set_option linter.unusedSimpArgs false
namespace Go.Proofs.Ytljkkfcokpimkaa.X
open Go Go.RowKit

def exR : Ex → Exit → Prop
  | .norm, .normal => True
  | .exit i, .exit j => i = j
  | .ret, .ret => True
  | _, _ => False
def CPost (P : Program) (base : Nat) (ρ : Map) (w0 : World) (e : Ex) (s' : St) : Exit → Act → World → Prop := fun ex a' w' => exR e ex ∧ ∃ ρ', ρ.le ρ' ∧ Rl P base ρ' w0 s' a' w'

section
variable {P : Program} {base : Nat} {w0 : World} {call : CallF}

theorem MR.bump {ρ : Map} {m : Mem} {w : World} (h : MR P base ρ m w) (n : Nat) : MR P base ρ ⟨m.next + n, m.t⟩ w :=
  ⟨fun b o hb => let ⟨h1, h2⟩ := h.dom b o hb; ⟨Nat.lt_of_lt_of_le h1 (Nat.le_add_right _ _), h2⟩, h.used, h.low, h.inj⟩
theorem CPost.le {ρ ρ' : Map} {e : Ex} {s' : St} (h : ρ.le ρ') : ∀ ex a w, CPost P base ρ' w0 e s' ex a w → CPost P base ρ w0 e s' ex a w :=
  fun _ _ _ ⟨h1, ρ'', h2, h3⟩ => ⟨h1, ρ'', Map.le_trans h h2, h3⟩

theorem loop_arrives {c : Code} {body : St → Option (Ex × St)} (hb : ∀ ρ s e s' a w, body s = some (e, s') → Rl P base ρ w0 s a w → c.wp P (CPost P base ρ w0 e s') a w) :
    ∀ (k : Nat) (ρ : Map) (s : St) (e : Ex) (s' : St) (a : Act) (w : World), loopN body k s = some (e, s') → Rl P base ρ w0 s a w → ∀ (b : Frame) (kk : List Item) (cs : List Frame),
      ∃ ex a' w', CPost P base ρ w0 e s' ex a' w' ∧ Arrives P (lone (b.at a (.code c :: .inLoop c :: kk)) cs w) b kk cs ex a' w'
  | 0, _, _, _, _, _, _, h, _, _, _, _ => by simp [loopN] at h
  | k + 1, ρ, s, e, s', a, w, h, hr, b, kk, cs => by
    simp only [loopN] at h
    cases h1 : body s with
    | none => simp [h1] at h
    | some q =>
      obtain ⟨e1, s1⟩ := q
      obtain ⟨ex, a1, w1, hq, harr⟩ := hb ρ s e1 s1 a w h1 hr b (.inLoop c :: kk) cs
      obtain ⟨hex, ρ', hρ, hr'⟩ := hq
      cases e1 with
      | norm =>
        simp only [h1] at h
        cases ex <;> simp only [exR] at hex
        obtain ⟨ex2, a2, w2, hq2, harr2⟩ := loop_arrives hb k ρ' s1 e s' a1 w1 h hr' b kk cs
        exact ⟨ex2, a2, w2, CPost.le hρ _ _ _ hq2, .of_steps (Steps.trans harr (.one step_inLoop)) harr2⟩
      | exit i =>
        simp only [h1] at h
        injection h with h; injection h with h2 h3
        subst h2 h3
        exact ⟨ex, a1, w1, ⟨hex, ρ', hρ, hr'⟩, .pass (x := .inLoop c) rfl (fun _ _ => .inl (by cases ex <;> simp [exR] at hex ⊢)) harr⟩
      | ret =>
        simp only [h1] at h
        injection h with h; injection h with h2 h3
        subst h2 h3
        exact ⟨ex, a1, w1, ⟨hex, ρ', hρ, hr'⟩, .pass (x := .inLoop c) rfl (fun _ _ => .inl (by cases ex <;> simp [exR] at hex ⊢)) harr⟩

theorem code_sound (hcall : CallSound P base call) (hx : CallExt call) (hmix : P.follows .mixedOrders = true) (k : Nat) : ∀ (c : Code) (ic : ICode), okCode P c ic = true → ∀ (ρ : Map) (s : St) (e : Ex) (s' : St) (a : Act) (w : World),
    evC call k ic s = some (e, s') → Rl P base ρ w0 s a w → c.wp P (CPost P base ρ w0 e s') a w := by
  intro c
  induction c with
  | skip =>
    intro ic hok ρ s e s' a w h hr
    cases ic <;> simp [okCode] at hok
    simp only [evC] at h
    injection h with h; injection h with h1 h2
    subst h1 h2
    exact wp_skip ⟨trivial, ρ, ρ.le_refl, hr⟩
  | exit i =>
    intro ic hok ρ s e s' a w h hr
    cases ic <;> simp [okCode] at hok
    subst hok
    simp only [evC] at h
    injection h with h; injection h with h1 h2
    subst h1 h2
    exact wp_exit ⟨rfl, ρ, ρ.le_refl, hr⟩
  | ret =>
    intro ic hok ρ s e s' a w h hr
    cases ic <;> simp [okCode] at hok
    simp only [evC] at h
    injection h with h; injection h with h1 h2
    subst h1 h2
    exact wp_ret ⟨trivial, ρ, ρ.le_refl, hr⟩
  | seq x y ihx ihy =>
    intro ic hok ρ s e s' a w h hr
    cases ic <;> simp [okCode] at hok
    rename_i x' y'
    simp only [evC] at h
    cases h1 : evC call k x' s with
    | none => simp [h1] at h
    | some q =>
      obtain ⟨e1, s1⟩ := q
      refine wp_seq (wp_mono (ihx x' hok.1 ρ s e1 s1 a w h1 hr) ?_)
      rintro ex a1 w1 ⟨hex, ρ', hρ, hr'⟩
      cases e1 with
      | norm =>
        simp only [h1] at h
        cases ex <;> simp only [exR] at hex
        exact wp_mono (ihy y' hok.2 ρ' s1 e s' a1 w1 h hr') (CPost.le hρ)
      | exit i =>
        simp only [h1] at h
        injection h with h; injection h with h2 h3
        subst h2 h3
        cases ex <;> simp only [exR] at hex
        exact ⟨hex, ρ', hρ, hr'⟩
      | ret =>
        simp only [h1] at h
        injection h with h; injection h with h2 h3
        subst h2 h3
        cases ex <;> simp only [exR] at hex
        exact ⟨trivial, ρ', hρ, hr'⟩
  | cond o x y ihx ihy =>
    intro ic hok ρ s e s' a w h hr
    cases ic <;> simp [okCode] at hok
    rename_i o' x' y'
    have hv := opd_VR hr.tm hok.1.1
    simp only [evC] at h
    split at h
    · rename_i ho
      rw [ho] at hv
      simp only [VR] at hv
      exact wp_cond_true hv (ihx x' hok.1.2 ρ s e s' a w h hr)
    · rename_i ho
      rw [ho] at hv
      simp only [VR] at hv
      exact wp_cond_false hv (ihy y' hok.2 ρ s e s' a w h hr)
    · cases h
  | block i c ih =>
    intro ic hok ρ s e s' a w h hr
    cases ic <;> simp [okCode] at hok
    rename_i i' c'
    obtain ⟨rfl, hok⟩ := hok
    simp only [evC] at h
    cases h1 : evC call k c' s with
    | none => simp [h1] at h
    | some q =>
      obtain ⟨e1, s1⟩ := q
      refine wp_block (wp_mono (ih c' hok ρ s e1 s1 a w h1 hr) ?_)
      rintro ex a1 w1 ⟨hex, ρ', hρ, hr'⟩
      cases e1 with
      | norm =>
        simp only [h1] at h
        injection h with h; injection h with h2 h3
        subst h2 h3
        cases ex <;> simp only [exR] at hex
        exact ⟨trivial, ρ', hρ, hr'⟩
      | exit j =>
        simp only [h1] at h
        cases ex <;> simp only [exR] at hex
        subst hex
        split at h
        · rename_i hj
          injection h with h; injection h with h2 h3
          subst h2 h3
          simp only [Exit.inBlock, hj, if_true]
          exact ⟨trivial, ρ', hρ, hr'⟩
        · rename_i hj
          injection h with h; injection h with h2 h3
          subst h2 h3
          simp only [Exit.inBlock, hj, if_false]
          exact ⟨rfl, ρ', hρ, hr'⟩
      | ret =>
        simp only [h1] at h
        injection h with h; injection h with h2 h3
        subst h2 h3
        cases ex <;> simp only [exR] at hex
        exact ⟨trivial, ρ', hρ, hr'⟩
  | loop c ih =>
    intro ic hok ρ s e s' a w h hr
    cases ic <;> simp [okCode] at hok
    rename_i c'
    simp only [evC] at h
    intro b kk cs
    obtain ⟨ex, a', w', hq, harr⟩ := loop_arrives (fun ρ s e s' a w h hr => ih c' hok ρ s e s' a w h hr) k ρ s e s' a w h hr b kk cs
    exact ⟨ex, a', w', hq, .of_steps (.one step_loop) harr⟩
  | label l =>
    intro ic hok ρ s e s' a w h hr
    cases ic <;> simp [okCode] at hok
    simp only [evC] at h
    injection h with h; injection h with h1 h2
    subst h1 h2
    exact wp_label ⟨trivial, ρ, ρ.le_refl, hr⟩
  | scope c ih =>
    intro ic hok ρ s e s' a w h hr
    simp only [okCode] at hok
    refine wp_scope_straight (wp_mono (ih ic hok ρ s e s' a w h hr) ?_)
    rintro ex a1 w1 ⟨hex, hr⟩
    cases ex <;> first | exact ⟨hex, hr⟩ | (cases e <;> exact hex.elim)
  | region id ops draw =>
    intro ic hok ρ s e s' a w h hr
    cases ic <;> simp only [okCode, Bool.false_eq_true] at hok
    rename_i n pi anc steps
    simp only [evC] at h
    cases h1 : evSteps call s.m.next steps ⟨s.tm, ⟨s.m.next + n, s.m.t⟩⟩ with
    | none => simp [h1] at h
    | some sf =>
      simp only [h1] at h
      injection h with h; injection h with h2 h3
      subst h2 h3
      cases draw with
      | false =>
        simp only [Bool.false_eq_true, if_false] at hok
        have hr' : Rl P base ρ w0 ⟨s.tm, ⟨s.m.next + n, s.m.t⟩⟩ a w := ⟨hr.tm, hr.df, hr.mr.bump n, hr.bel⟩
        refine wp_region ?_
        have := seq_wp (Q := CPost P base ρ w0 .norm sf) hcall 0 ops.toList steps ρ _ sf a w (by simp) hok hr' h1 fun ρ' a' w' hρ hr'' => ⟨trivial, ρ', hρ, hr''⟩
        simpa using this
      | true =>
        simp only [if_true] at hok
        simp only [okDrawn, Bool.and_eq_true, decide_eq_true_eq] at hok
        obtain ⟨⟨⟨⟨⟨⟨⟨⟨k1, k2⟩, k3⟩, k4⟩, k5⟩, k6⟩, k7⟩, k8⟩, k9⟩ := hok
        refine wp_region_any hmix ?_
        have hmap1 : (pi.zip steps).map (·.1) = pi := List.map_fst_zip (by omega)
        have hmap2 : (pi.zip steps).map (·.2) = steps := List.map_snd_zip (by omega)
        have hr' : Rl P base ρ w0 ⟨s.tm, ⟨s.m.next + n, s.m.t⟩⟩ a { w with drawn := w.drawn + 1 } := ⟨hr.tm, hr.df, (hr.mr.bump n).heap rfl, hr.bel.drew⟩
        refine drawn_wp (L := pi.zip steps) hcall hx k6 k7 ops.size (pi.zip steps) _ ρ ⟨s.tm, ⟨s.m.next + n, s.m.t⟩⟩ sf a _ (by rw [List.length_zip]; omega) ?_ hr' ?_ (by rw [hmap2]; exact h1) fun ρ' a' w' hρ hr'' => ⟨trivial, ρ', hρ, hr''⟩
        · refine ⟨fun x hx => List.all_eq_true.1 k5 x hx, okPairs_pairwise k8, List.Sublist.refl _, by rw [hmap1]; exact k4, fun z hz => ?_, by simp, fun j hj => ?_, fun j o ho hj => ?_, by rw [hmap1]; exact k4⟩
          · have := List.all_eq_true.1 k5 z hz
            unfold okAt at this
            split at this
            · rename_i o ho
              exact (Array.getElem?_eq_some_iff.1 ho).1
            · cases this
          · rw [hmap1]
            have : (Array.replicate ops.size false).getD j true = false := by simp [Array.getD_eq_getD_getElem?, hj]
            simp only [this, true_iff]
            exact k3 j (by simpa using hj)
          · rw [hmap1] at hj
            have hlt : j < ops.size := (Array.getElem?_eq_some_iff.1 ho).1
            exact absurd (k3 j (by simpa using hlt)) hj
        · intro x hx k hk
          have hm : x.2 ∈ steps := by rw [← hmap2]; exact List.mem_map.2 ⟨x, hx, rfl⟩
          have := List.all_eq_true.1 k9 x.2 hm
          simp only [hk, decide_eq_true_eq] at this
          show s.m.next + k < s.m.next + n
          omega
  | _ =>
    intro ic hok
    cases ic <;> simp [okCode] at hok

theorem res_run {ρ : Map} {tm : List AV} {a : Act} (ht : VRL ρ tm a.tmps.toList) {m : Mem} {w : World} (hm : MR P base ρ m w) : ∀ (rs : List ResultVar) (rs' : List IRes) (vs : List AV), okRess P rs rs' = true → resAll tm m rs' = some vs →
    ∃ us, (rs.mapM fun | .tmp t => pure (a.tmps.getD t undef) | .cell b t => do loadVar t (← asAddr (a.tmps.getD b undef)) : Sem (List Value)).run P w = .ok us w ∧ VRL ρ vs us
  | [], [], vs, _, h => by
    simp only [resAll] at h
    injection h with h
    subst h
    exact ⟨[], by simp, by simp [VRL]⟩
  | [], _ :: _, _, h, _ => by simp [okRess] at h
  | _ :: _, [], _, h, _ => by simp [okRess] at h
  | r :: rs, r' :: rs', vs, hok, h => by
    simp only [okRess, Bool.and_eq_true] at hok
    simp only [resAll] at h
    cases h1 : resOf tm m r' with
    | none => simp [h1] at h
    | some v =>
      cases h2 : resAll tm m rs' with
      | none => simp [h1, h2] at h
      | some vs' =>
        simp only [h1, h2] at h
        injection h with h
        subst h
        obtain ⟨us, hrun, hv⟩ := res_run ht hm rs rs' vs' hok.2 h2
        have hone : ∃ u, ((match r with | .tmp t => pure (a.tmps.getD t undef) | .cell b t => do loadVar t (← asAddr (a.tmps.getD b undef))) : Sem Value).run P w = .ok u w ∧ VR ρ v u := by
          cases r with
          | tmp t =>
            cases r' <;> simp [okRes] at hok
            obtain ⟨rfl, _⟩ := hok
            simp only [resOf] at h1
            injection h1 with h1
            subst h1
            refine ⟨a.tmps.getD t undef, by simp, ?_⟩
            have := opd_VR (x := .tmp t) (x' := .t t) ht (by simp [okOpd])
            simpa only [Opd.eval, Act.eval] using this
          | cell b t =>
            cases r' with
            | tmp t' => simp [okRes] at hok
            | cell b' n =>
              simp only [okRes, Bool.and_eq_true, decide_eq_true_eq] at hok
              obtain ⟨⟨rfl, ha⟩, _⟩ := hok
              have hx := opd_VR (x := .tmp b) (x' := .t b) ht (by simp [okOpd])
              simp only [Act.eval] at hx
              simp only [resOf] at h1
              cases n with
              | none =>
                simp only [evOp] at h1
                cases hv : (Opd.t b).eval tm <;> rw [hv] at h1 hx <;> simp only at h1 <;> try (cases h1)
                rename_i c off
                split at h1
                · rename_i y m' he
                  split at he
                  · rename_i y' hr
                    injection he with he; injection he with e1 e2
                    injection h1 with h1
                    subst e1 h1
                    exact var_runs hm ha (n := none) hr rfl hx
                  · cases he
                · cases h1
              | some k =>
                simp only [evOp] at h1
                cases hv : (Opd.t b).eval tm <;> rw [hv] at h1 hx <;> simp only at h1 <;> try (cases h1)
                rename_i c off
                split at h1
                · rename_i y m' he
                  split at he
                  · rename_i y' hr
                    injection he with he; injection he with e1 e2
                    injection h1 with h1
                    subst e1 h1
                    exact var_runs hm ha (n := some k) hr rfl hx
                  · cases he
                · cases h1
        obtain ⟨u, hu, hvu⟩ := hone
        refine ⟨u :: us, ?_, .cons hvu hv⟩
        simp only [List.mapM_cons, Sem.run_bind, Sem.run_pure]
        rw [hu]
        simp only [Result.andThen_ok, hrun]

theorem results_run {ρ : Map} {tm : List AV} {a : Act} (ht : VRL ρ tm a.tmps.toList) {m : Mem} {w : World} (hm : MR P base ρ m w) {fn : Func} {rs' : List IRes} {vs : List AV} (hok : okRess P fn.results.toList rs' = true) (h : resAll tm m rs' = some vs) : ∃ u, (results fn a.tmps).run P w = .ok u w ∧ VR ρ (pack vs) u := by
  obtain ⟨us, h1, h2⟩ := res_run ht hm _ _ _ hok h
  have hl := h2.length
  refine ⟨if h : us.toArray.size = 1 then us.toArray[0] else .tuple us.toArray, ?_, ?_⟩
  · unfold results
    rw [Array.mapM_eq_mapM_toList]
    simp only [Sem.run_bind, map_eq_pure_bind]
    refine (congrArg (fun q => Result.andThen (Result.andThen q _) _) h1).trans ?_
    simp only [Result.andThen_ok, Sem.run_pure]
  · cases vs with
    | nil =>
      simp [VRL] at h2
      subst h2
      simp [pack, VR, VRL]
    | cons v vs =>
      simp only [VRL] at h2
      obtain ⟨u, us', rfl, hu, h2⟩ := h2
      cases vs with
      | nil =>
        simp [VRL] at h2
        subst h2
        simpa [pack] using hu
      | cons v' vs =>
        simp only [VRL] at h2
        obtain ⟨u', us'', rfl, hu', h2⟩ := h2
        simp only [pack]
        rw [dif_neg (by simp)]
        simp only [VR, VRL]
        exact ⟨_, ⟨u, _, rfl, hu, u', _, rfl, hu', h2⟩, rfl⟩

theorem evF_sound {tab : Nat → Option IFun} (htab : ∀ f i, tab f = some i → okFun P f i = true) (hmix : P.follows .mixedOrders = true) : ∀ k, CallSound P base (evF tab k)
  | 0 => fun f args m r m' h => by simp [evF] at h
  | k + 1 => fun f args m r m' h => by
    have ih := evF_sound htab hmix k
    simp only [evF] at h
    cases hf : tab f with
    | none => simp [hf] at h
    | some fn =>
      simp only [hf] at h
      have hok := htab f fn hf
      simp only [okFun, Bool.and_eq_true] at hok
      obtain ⟨hc, hok⟩ := hok
      refine ⟨hc, fun ρ w args' ha hm => ?_⟩
      cases hg : P.funcs[f]? with
      | none => simp [hg] at hok
      | some gn =>
        cases hb : gn.body with
        | none => simp [hg, hb] at hok
        | some c =>
          simp only [hg, hb, Bool.and_eq_true, decide_eq_true_eq] at hok
          obtain ⟨⟨hcode, hn⟩, hres⟩ := hok
          cases he : evC (evF tab k) k fn.body ⟨args ++ List.replicate (fn.ntmps - args.length) .undef, m⟩ with
          | none => simp [he] at h
          | some q =>
            obtain ⟨e, s⟩ := q
            have hlen := ha.length
            have hr : Rl P base ρ w ⟨args ++ List.replicate (fn.ntmps - args.length) .undef, m⟩ { tmps := args'.toArray ++ Array.replicate (gn.ntmps - args'.toArray.size) undef, defers := [] } w := by
              refine ⟨?_, rfl, hm, Below.refl _ _⟩
              simp only [Array.toList_append, Array.toList_replicate, List.size_toArray]
              rw [hn, hlen]
              exact ha.append (VRL.replicate_undef _)
            have hwp := code_sound ih (evF_ext tab k) hmix k c fn.body hcode ρ _ e s _ w he hr
            refine calls_of_wp hg hb (wp_mono hwp ?_)
            rintro ex a' w' ⟨hex, ρ', hρ, hr'⟩
            have fin : ∀ vs, resAll s.tm s.m fn.results = some vs → pack vs = r → s.m = m' → a'.defers = [] ∧ ∃ v, (results gn a'.tmps).run P w' = .ok v w' ∧ ∃ ρ' u, ρ.le ρ' ∧ Ending.returned v = .returned u ∧ VR ρ' r u ∧ MR P base ρ' m' w' ∧ Below base w w' := by
              intro vs hvs e1 e2
              obtain ⟨u, h1, h2⟩ := results_run hr'.tm hr'.mr hres hvs
              rw [e1] at h2
              refine ⟨hr'.df, u, h1, ρ', u, hρ, rfl, h2, ?_, hr'.bel⟩
              rw [← e2]; exact hr'.mr
            cases e with
            | norm =>
              simp only [he] at h
              cases ex <;> simp only [exR] at hex
              split at h
              · rename_i vs hvs
                injection h with h; injection h with e1 e2
                exact fin vs hvs e1 e2
              · cases h
            | ret =>
              simp only [he] at h
              cases ex <;> simp only [exR] at hex
              split at h
              · rename_i vs hvs
                injection h with h; injection h with e1 e2
                exact fin vs hvs e1 e2
              · cases h
            | exit i => simp [he] at h

/-- A run of the plain machine from nothing is a run of the model's from any world. -/
theorem run_sound {tab : Nat → Option IFun} (htab : ∀ f i, tab f = some i → okFun P f i = true) (hmix : P.follows .mixedOrders = true) {f : Nat} {args : List AV} {m m' : Mem} {r : AV} {k : Nat} (h : evF tab k f args m = some (r, m')) {ρ : Map} {w : World} {args' : List Value} (ha : VRL ρ args args') (hm : MR P w.heap.size ρ m w) :
    Calls P f args'.toArray w fun e w' => ∃ ρ' u, e = .returned u ∧ VR ρ' r u ∧ Below w.heap.size w w' :=
  Calls.mono ((evF_sound htab hmix k f args m r m' h).2 ρ w args' ha hm) fun _ _ ⟨ρ', u, _, h2, h3, _, h5⟩ => ⟨ρ', u, h2, h3, h5⟩
end
end Go.Proofs.Ytljkkfcokpimkaa.X
