/- Runs that panic are the model's. -/
import Derived.Test.YtdljelicbnjfjaaGreatYb
import Derived.Orders
set_option linter.unusedVariables false
set_option linter.unusedSimpArgs false
namespace Go.Proofs.YtdljelicbnjfjaaGreat.X
open Go Go.RowKit

/-- The chain of one panic. -/
abbrev oneP (pv : Value) : List PanicEntry := [{ v := pv, recovered := false }]
def CallPSound (P : Program) (base : Nat) (pv : Value) (callP : CallP) : Prop :=
  ∀ f args m m', callP f args m = some m' → callOk P f = true ∧ ∀ ρ w args', VRL ρ args args' → MR P base ρ m w →
    Calls P f args'.toArray w fun e w' => ∃ ρ', ρ.le ρ' ∧ e = .panicked (oneP pv) ∧ MR P base ρ' m' w' ∧ Below base w w'
section
variable {P : Program} {base : Nat} {ρ : Map} {w0 w : World} {a : Act} {call : CallF} {callP : CallP} {pv : Value}
theorem op_panics (hcall : CallPSound P base pv callP) {tm : List AV} (ht : VRL ρ tm a.tmps.toList) {m m' : Mem} (hm : MR P base ρ m w) {o : Oper} {g : Nat} {args : List Opd} (hok : okOp P o.op (.call g args) = true) (hc : callP g (args.map (·.eval tm)) m = some m') :
    ∃ f as, (execOp a.eval o).run P w = .ok (.enter f as) w ∧ Calls P f as w fun e w' => ∃ ρ', ρ.le ρ' ∧ e = .panicked (oneP pv) ∧ MR P base ρ' m' w' ∧ Below base w w' := by
  cases hop : o.op
  case call c =>
    rw [hop] at hok
    simp only [okOp] at hok
    obtain ⟨callee, cargs, ats⟩ := c
    cases callee with
    | invoke r n => simp at hok
    | builtin b => simp [builtinOk] at hok
    | value f =>
      simp only [Bool.and_eq_true] at hok
      have hf := opd_VR ht hok.1
      simp only [Opd.eval, VR, VRL] at hf
      obtain ⟨F, C, rfl, rfl, hf⟩ := hf
      obtain ⟨k1, k2⟩ := hcall _ _ _ _ hc
      refine ⟨g, _, ?_, k2 ρ w (cargs.toList.map a.eval) (opds_VR ht hok.2) hm⟩
      have hrun := callOk_run (w := w) k1 (cargs.toList.map a.eval).toArray
      have hex : execOp a.eval o = callFunc g (cargs.toList.map a.eval).toArray := by
        simp [execOp, hop, resolve, hf, Deferred.ofValue, invoke]
        congr 1
        apply Array.ext'
        simp
      rw [hex]; exact hrun
  all_goals (rw [hop] at hok; simp [okOp] at hok)
theorem step_panic (hcall : CallPSound P base pv callP) {ops : Array Oper} {i : Nat} {o : Oper} {st : Step} (ho : ops[i]? = some o) (hok : okStep P ops o st = true) {s : St} (hs : Rl P base ρ w0 s a w) (hw : wants s.tm st.guard = true) {g : Nat} {args : List Opd} (hop : st.op = .call g args)
    {m' : Mem} (hc : callP g (args.map (·.eval s.tm)) s.m = some m') {Q : Exit → Act → World → Prop} {K : Act → World → Prop}
    (hQ : ∀ ρ' a' w', ρ.le ρ' → a'.defers = [] → MR P base ρ' m' w' → Below base w0 w' → Q (.panic (oneP pv)) a' w') : wpOp P ops Q i K a w := by
  simp only [okStep, Bool.and_eq_true, Bool.or_eq_true] at hok
  obtain ⟨⟨h1, h2⟩, h3⟩ := hok
  have h1 : okOp P o.op st.op = true := by
    rcases h1 with h1 | h1
    · rw [hop] at h1; cases h1
    · exact h1
  have hw' := wants_eq h3 hs.tm o rfl
  unfold wpOp
  simp only [ho, hw', hw, if_true]
  refine .inl ?_
  rw [hop] at h1
  obtain ⟨f, as, r1, r2⟩ := op_panics hcall hs.tm hs.mr h1 hc
  unfold Oper.wp
  rw [r1]
  refine Calls.mono r2 ?_
  rintro e w' ⟨ρ', q1, rfl, q4, q5⟩
  exact hQ ρ' a w' q1 hs.df q4 (hs.bel.trans q5)
theorem seq_panic (hcall : CallSound P base call) (hcp : CallPSound P base pv callP) {ops : Array Oper} {b : Nat} {Q : Exit → Act → World → Prop} : ∀ (k : Nat) (l : List Oper) (steps : List Step) (ρ : Map) (s : St) (n : Nat) (m' : Mem) (a : Act) (w : World), ops.toList.drop k = l → okSeq P ops l steps = true → Rl P base ρ w0 s a w →
    panAt call callP b steps s = some (n, m') → (∀ ρ' a' w', ρ.le ρ' → a'.defers = [] → MR P base ρ' m' w' → Below base w0 w' → Q (.panic (oneP pv)) a' w') → wpOps P ops Q ((List.range ops.size).drop k) a w
  | k, [], [], ρ, s, n, m', a, w, hl, _, hs, he, hQ => by simp [panAt] at he
  | k, [], st :: steps, ρ, s, n, m', a, w, hl, hok, hs, he, hQ => by simp [okSeq] at hok
  | k, o :: l, [], ρ, s, n, m', a, w, hl, hok, hs, he, hQ => by simp [okSeq] at hok
  | k, o :: l, st :: steps, ρ, s, n, m', a, w, hl, hok, hs, he, hQ => by
    simp only [okSeq, Bool.and_eq_true] at hok
    have hk : k < ops.size := by
      have := congrArg List.length hl
      simp at this; omega
    have hcons := List.drop_eq_getElem_cons (l := ops.toList) (i := k) (by simpa using hk)
    rw [hcons] at hl
    injection hl with hl1 hl2
    have ho : ops[k]? = some o := by rw [← hl1]; simp [hk]
    rw [List.drop_eq_getElem_cons (by simpa using hk), List.getElem_range, wpOps_cons]
    simp only [panAt] at he
    have go : ∀ v m1, (if wants s.tm st.guard then evOp call b s.tm s.m st.op = some (v, m1) else v = .undef ∧ m1 = s.m) → panAt call callP b steps ⟨put s.tm st.dst v, m1⟩ = some (n, m') → wpOp P ops Q k (wpOps P ops Q ((List.range ops.size).drop (k + 1))) a w := fun v m1 g1 g2 =>
      step_wp hcall ho hok.1 hs g1 fun ρ' a' w' hρ hr =>
        seq_panic hcall hcp (k + 1) l steps ρ' _ n m' a' w' hl2 hok.2 hr g2 fun ρ'' a'' w'' hρ' => hQ ρ'' a'' w'' (Map.le_trans hρ hρ')
    split at he
    · rename_i hw
      split at he
      · rename_i v m1 hv
        split at he
        · exact go v m1 (by rw [if_pos hw]; exact hv) he
        · cases he
      · split at he
        · rename_i g args hop
          split at he
          · rename_i m2 hcpx
            injection he with he; injection he with e1 e2
            subst e2
            exact step_panic hcp ho hok.1 hs hw hop hcpx hQ
          · cases he
        · cases he
    · rename_i hw
      exact go .undef s.m (by rw [if_neg hw]; exact ⟨rfl, rfl⟩) he
/-- Where it panics. -/
theorem panAt_split {b : Nat} : ∀ (l : List Step) (s : St) (n : Nat) (m' : Mem), panAt call callP b l s = some (n, m') →
    ∃ pre x post s1 g args, l = pre ++ x :: post ∧ post.length = n ∧ evSteps call b pre s = some s1 ∧ wants s1.tm x.guard = true ∧ x.op = .call g args ∧ callP g (args.map (·.eval s1.tm)) s1.m = some m'
  | [], s, n, m', h => by simp [panAt] at h
  | i :: l, s, n, m', h => by
    simp only [panAt] at h
    split at h
    · rename_i hw
      split at h
      · rename_i v m1 he
        split at h
        · rename_i hk
          obtain ⟨pre, x, post, s1, g, args, h1, h2, h3, h4, h5, h6⟩ := panAt_split l _ _ _ h
          exact ⟨i :: pre, x, post, s1, g, args, by rw [h1]; rfl, h2, by simp only [evSteps, hw, if_true, he, hk]; exact h3, h4, h5, h6⟩
        · cases h
      · split at h
        · rename_i g args hop
          split at h
          · rename_i m2 hc
            injection h with h; injection h with e1 e2
            subst e1 e2
            exact ⟨[], i, l, s, g, args, rfl, rfl, rfl, hw, hop, hc⟩
          · cases h
        · cases h
    · rename_i hw
      obtain ⟨pre, x, post, s1, g, args, h1, h2, h3, h4, h5, h6⟩ := panAt_split l _ _ _ h
      exact ⟨i :: pre, x, post, s1, g, args, by rw [h1]; rfl, h2, by simp only [evSteps, hw, if_false, Bool.false_eq_true]; exact h3, h4, h5, h6⟩
theorem remn_first {ops : Array Oper} {anc : List (List Nat)} (hback : (List.range ops.size).all (okBack ops) = true) {L : List (Nat × Step)} : ∀ (x : Nat × Step) (rem : List (Nat × Step)) (listed : Array Bool), Remn P ops anc L listed (x :: rem) → x.1 ∈ Region.ready .any ops listed := by
  intro x rem listed hl
  have hok := hl.ok x (by simp)
  unfold okAt at hok
  cases ho : ops[x.1]? with
  | none => simp [ho] at hok
  | some o =>
    have hlt : x.1 < ops.size := (Array.getElem?_eq_some_iff.1 ho).1
    refine mem_ready.2 ⟨(hl.lst _ hlt).2 (by simp), o, ho, fun e he hb => ?_⟩
    have hbk := List.all_eq_true.1 hback x.1 (by simpa using hlt)
    simp only [okBack, ho] at hbk
    have hbk2 := Array.all_eq_true_iff_forall_mem.1 hbk e he
    simp only [hb, Bool.not_true, Bool.false_or, decide_eq_true_eq] at hbk2
    have hlt' : e.on < ops.size := by omega
    have hnot : e.on ∉ (x :: rem).map (·.1) := by
      intro hm
      simp only [List.map_cons, List.mem_cons, List.mem_map] at hm
      rcases hm with hm | ⟨y, hy, hym⟩
      · omega
      · have hp := List.rel_of_pairwise_cons hl.pairs hy
        simp only [okPair, ho, Bool.and_eq_true] at hp
        have := Array.all_eq_true_iff_forall_mem.1 hp.1.2 e he
        simp [hb, hym] at this
    have h2 : ¬ listed.getD e.on true = false := fun h => hnot ((hl.lst _ hlt').1 h)
    have hsz : e.on < listed.size := by rw [hl.size]; exact hlt'
    simp [Array.getD_eq_getD_getElem?, hsz] at h2 ⊢
    exact h2

/-- One that is ready: what it needs is done; it may come first. -/
theorem remn_ready {ops : Array Oper} {anc : List (List Nat)} (hanc : (List.range ops.size).all (okAnc ops anc) = true) (hback : (List.range ops.size).all (okBack ops) = true) {L : List (Nat × Step)} {listed : Array Bool} {pre post : List (Nat × Step)} {x : Nat × Step}
    (hl : Remn P ops anc L listed (pre ++ x :: post)) (hi : x.1 ∈ Region.ready .any ops listed) :
    ∃ o, ops[x.1]? = some o ∧ okStep P ops o x.2 = true ∧ (∀ j ∈ ancOf anc x.1, j ∉ (pre ++ x :: post).map (·.1)) ∧ (∀ p j q, pre.map (·.2) = p ++ j :: q → commutes j (x.2.lessL q) = true) ∧ Remn P ops anc L (listed.setIfInBounds x.1 true) (pre ++ post) := by
      obtain ⟨h1, o, ho, hafter⟩ := mem_ready.1 hi
      have hlt : x.1 < ops.size := (Array.getElem?_eq_some_iff.1 ho).1
      have hx1 : x ∈ pre ++ x :: post := by simp
      have hok := hl.ok x hx1
      simp only [okAt, ho] at hok
      have hpw := List.pairwise_append.1 hl.pairs
      have outs : ∀ e ∈ o.after, Region.binds .any e = true → e.on ∉ (pre ++ x :: post).map (·.1) := by
        intro e he' hbd hin
        have hl2 := hafter e he' hbd
        have hbk := List.all_eq_true.1 hback x.1 (by simpa using hlt)
        simp only [okBack, ho] at hbk
        have hbk2 := Array.all_eq_true_iff_forall_mem.1 hbk e he'
        simp only [hbd, Bool.not_true, Bool.false_or, decide_eq_true_eq] at hbk2
        have h3 := (hl.lst e.on (by omega)).2 hin
        have hsz : e.on < listed.size := by rw [hl.size]; omega
        simp [Array.getD_eq_getD_getElem?, hsz] at h3 hl2
        rw [h3] at hl2
        cases hl2
      have hancout := anc_out hanc (fun j => j ∉ (pre ++ x :: post).map (·.1)) (fun j o' ho' hj => hl.closed j o' ho' hj) (x.1 + 1) x.1 (by omega) o ho outs
      have hdst : (pre.map (·.2)).Pairwise (fun x y => ∀ t, x.dst = some t → y.dst ≠ some t) := by
        rw [List.pairwise_map]
        refine hpw.1.imp fun {y z} hp => ?_
        simp only [okPair, Bool.and_eq_true] at hp
        intro t ht hz
        have := hp.1.1.2
        simp [ht, hz, optEq] at this
      have hcm : ∀ p j q, pre.map (·.2) = p ++ j :: q → commutes j (x.2.lessL q) = true := by
        intro p j q e
        obtain ⟨p', t', rfl, rfl, e2⟩ := List.map_eq_append_iff.1 e
        obtain ⟨y, q', rfl, rfl, rfl⟩ := List.map_eq_cons_iff.1 e2
        have hp := hpw.2.2 y (by simp) x (by simp)
        simp only [okPair, Bool.and_eq_true, Bool.or_eq_true] at hp
        have hyr : y.1 ∈ ((p' ++ y :: q') ++ x :: post).map (·.1) := List.mem_map.2 ⟨y, by simp, rfl⟩
        rcases hp.1.1.1 with h | h
        · exact absurd hyr (hancout y.1 (by simpa using h))
        · have hq : ∀ z ∈ q'.map (·.2), ∀ t, y.2.dst = some t → z.dst ≠ some t := by
            have hd1 := (List.pairwise_append.1 (by simpa using hdst)).2.1
            exact fun z hz => List.rel_of_pairwise_cons hd1 hz
          have h2 := commutes_lessL (b := q'.map (·.2)) h hq
          have e3 : (past anc L y x).lessL (q'.map (·.2)) = x.2.lessL (q'.map (·.2)) := by
            have o1 := lessL_other (past anc L y x) (q'.map (·.2))
            have o2 := lessL_other x.2 (q'.map (·.2))
            refine step_ext (by rw [o1.2.1, o2.2.1]; rfl) (by rw [o1.2.2, o2.2.2]; rfl) (by rw [o1.1, o2.1]; rfl) ?_
            rw [lessL_chk, lessL_chk]
            simp only [past, List.filter_filter]
            refine List.filter_congr fun c hc => ?_
            by_cases hall : ((q'.map (·.2)).all fun z => !optEq z.dst (some c.dst)) = true
            · rw [hall, Bool.true_and]
              by_cases hany : (L.any fun z => optEq z.2.dst (some c.dst) && ((ancOf anc z.1).contains y.1 && !decide (z.1 = y.1))) = true
              · exfalso
                obtain ⟨z, hz, hz2⟩ := List.any_eq_true.1 hany
                simp only [Bool.and_eq_true, Bool.not_eq_true', decide_eq_false_iff_not] at hz2
                obtain ⟨hz3, hz4, hz5⟩ := hz2
                -- z is left as well
                have hzr : z.1 ∈ ((p' ++ y :: q') ++ x :: post).map (·.1) := by
                  apply Classical.byContradiction
                  intro hno
                  have hzlt := hl.full z hz
                  have ho' : ops[z.1]? = some ops[z.1] := by simp [hzlt]
                  have := anc_out hanc (fun j => j ∉ ((p' ++ y :: q') ++ x :: post).map (·.1)) (fun j o' ho' hj => hl.closed j o' ho' hj) (z.1 + 1) z.1 (by omega) _ ho' (hl.closed z.1 _ ho' hno) y.1 (by simpa using hz4)
                  exact this hyr
                obtain ⟨z', hz', hzz⟩ := List.mem_map.1 hzr
                have hze : z' = z := by
                  have hn := hl.nodupL
                  have hz'' := hl.sub.subset hz'
                  exact nodup_inj hn _ hz'' _ hz hzz
                subst hze
                simp only [List.append_assoc, List.mem_append, List.mem_cons] at hz'
                have hpw2 := hl.pairs
                simp only [List.append_assoc, List.cons_append] at hpw2
                have hpa := List.pairwise_append.1 hpw2
                rcases hz' with hz' | (hz' | hz') | hz' | hz'
                · have := hpa.2.2 z' hz' y (by simp)
                  simp only [okPair, Bool.and_eq_true, Bool.not_eq_true'] at this
                  rw [this.2.1] at hz4
                  cases hz4
                · exact hz5 (by rw [hz'])
                · have := List.all_eq_true.1 hall z'.2 (List.mem_map.2 ⟨z', hz', rfl⟩)
                  rw [hz3] at this
                  cases this
                · rw [hz'] at hz4
                  exact absurd hyr (hancout y.1 (by simpa using hz4))
                · have := List.rel_of_pairwise_cons (List.pairwise_append.1 hl.pairs).2.1 hz'
                  simp only [okPair, Bool.and_eq_true] at this
                  have := List.all_eq_true.1 this.2.2 c hc
                  rw [hz3] at this
                  cases this
              · simp only [Bool.not_eq_true] at hany
                rw [hany]
                rfl
            · simp only [Bool.not_eq_true] at hall
              rw [hall, Bool.false_and]
          rw [e3] at h2
          exact h2
      have hnd := hl.nodup
      refine ⟨o, ho, hok, fun j hj => hancout j hj, hcm, ?_⟩
      have hsub : (pre ++ post).Sublist (pre ++ x :: post) := List.Sublist.append_left (List.sublist_cons_self x post) pre
      have hxn : x.1 ∉ (pre ++ post).map (·.1) := by
        rw [List.map_append, List.map_cons] at hnd
        have := List.nodup_append.1 hnd
        intro hin
        rw [List.map_append, List.mem_append] at hin
        rcases hin with h | h
        · exact this.2.2 _ h _ (by simp) rfl
        · exact (List.nodup_cons.1 this.2.1).1 h
      have hmm : ∀ j, j ∈ (pre ++ post).map (·.1) ↔ j ∈ (pre ++ x :: post).map (·.1) ∧ j ≠ x.1 := by
        intro j
        constructor
        · intro h
          refine ⟨(hsub.map _).subset h, fun e => hxn (e ▸ h)⟩
        · rintro ⟨h, hne⟩
          simp only [List.map_append, List.map_cons, List.mem_append, List.mem_cons] at h ⊢
          rcases h with h | h | h
          · exact .inl h
          · exact absurd h hne
          · exact .inr h
      refine ⟨fun y hy => hl.ok y (hsub.subset hy), hl.pairs.sublist hsub, hsub.trans hl.sub, hl.nodupL, hl.full, by simpa using hl.size, fun j hj => ?_, fun j o' ho' hj e he' hbd => ?_, hnd.sublist (hsub.map _)⟩
      · rw [hmm]
        by_cases hji : j = x.1
        · subst hji
          have hsz : x.1 < listed.size := by rw [hl.size]; exact hj
          simp [Array.getD_eq_getD_getElem?, hsz]
        · rw [getD_set_ne true (fun e => hji e.symm), hl.lst j hj]
          exact ⟨fun h => ⟨h, hji⟩, fun h => h.1⟩
      · rw [hmm] at hj ⊢
        rintro ⟨h3, h4⟩
        by_cases hji : j = x.1
        · subst hji
          rw [ho] at ho'
          injection ho' with ho'
          subst ho'
          exact outs e he' hbd h3
        · exact hl.closed j o' ho' (fun h => hj ⟨h, hji⟩) e he' hbd h3

theorem inert {b : Nat} {R : List Nat} : ∀ (pre : List Step) (s s1 : St), evSteps call b pre s = some s1 → (∀ y ∈ pre, (y.op.cl = .P ∨ y.op.cl = .R) ∧ ∀ t, y.dst = some t → t ∉ R) → s1.m = s.m ∧ ∀ t ∈ R, s1.tm.getD t .undef = s.tm.getD t .undef
  | [], s, s1, h, _ => by
    simp only [evSteps] at h
    injection h with h; subst h
    exact ⟨rfl, fun _ _ => rfl⟩
  | y :: pre, s, s1, h, hy => by
    obtain ⟨hcl, hd⟩ := hy y (by simp)
    have keep : ∀ v t, t ∈ R → (put s.tm y.dst v).getD t .undef = s.tm.getD t .undef := fun v t ht => by
      cases hdd : y.dst with
      | none => rfl
      | some d =>
        have hne : t ≠ d := fun e => hd d hdd (e ▸ ht)
        simp only [put, List.getD_eq_getElem?_getD, List.getElem?_set]
        rw [if_neg (fun e => hne e.symm)]
    simp only [evSteps] at h
    split at h
    · split at h
      · rename_i v m1 he
        split at h
        · have hm : m1 = s.m := by
            rcases hcl with hcl | hcl
            · exact (evOp_P hcl he).1
            · exact (evOp_R hcl he).1
          subst hm
          obtain ⟨q1, q2⟩ := inert pre _ s1 h fun z hz => hy z (by simp [hz])
          exact ⟨q1, fun t ht => by rw [q2 t ht]; exact keep v t ht⟩
        · cases h
      · cases h
    · obtain ⟨q1, q2⟩ := inert pre _ s1 h fun z hz => hy z (by simp [hz])
      exact ⟨q1, fun t ht => by rw [q2 t ht]; exact keep .undef t ht⟩
theorem drawn_panic (hcall : CallSound P base call) (hcp : CallPSound P base pv callP) (hx : CallExt call) {ops : Array Oper} {anc : List (List Nat)} (hanc : (List.range ops.size).all (okAnc ops anc) = true) (hback : (List.range ops.size).all (okBack ops) = true) {L : List (Nat × Step)} {b : Nat} {Q : Exit → Act → World → Prop}
    {x : Nat × Step} {g : Nat} {args : List Opd} (hop : x.2.op = .call g args) {m' : Mem} :
    ∀ (fuel : Nat) (pre post : List (Nat × Step)) (listed : Array Bool) (ρ : Map) (s s1 : St) (a : Act) (w : World), (pre ++ x :: post).length ≤ fuel → Remn P ops anc L listed (pre ++ x :: post) → Rl P base ρ w0 s a w →
      (∀ z ∈ pre ++ x :: post, ∀ k, z.2.op.slotOf = some k → b + k < s.m.next) → evSteps call b (pre.map (·.2)) s = some s1 → wants s1.tm x.2.guard = true → callP g (args.map (·.eval s1.tm)) s1.m = some m' →
      (∀ y ∈ post, (ancOf anc y.1).contains x.1 = true) → (∀ ρ' a' w', ρ.le ρ' → a'.defers = [] → MR P base ρ' m' w' → Below base w0 w' → Q (.panic (oneP pv)) a' w') → wpAny P .any ops Q fuel listed a w := by
  intro fuel
  induction fuel with
  | zero =>
    intro pre post listed ρ s s1 a w hlen
    simp at hlen
  | succ fuel ih =>
    intro pre post listed ρ s s1 a w hlen hl hs hb he hw hc late hQ
    refine ⟨fun hr => ?_, fun i hi => ?_⟩
    · have : ∃ z rest, pre ++ x :: post = z :: rest := by
        cases pre with
        | nil => exact ⟨x, post, rfl⟩
        | cons z p => exact ⟨z, p ++ x :: post, rfl⟩
      obtain ⟨z, rest, e⟩ := this
      rw [e] at hl
      have := remn_first hback z rest listed hl
      rw [hr] at this
      cases this
    · obtain ⟨h1, o, ho, hafter⟩ := mem_ready.1 hi
      have hlt : i < ops.size := (Array.getElem?_eq_some_iff.1 ho).1
      have hmem := (hl.lst i hlt).1 h1
      obtain ⟨z, hz, rfl⟩ := List.mem_map.1 hmem
      rcases List.mem_append.1 hz with hzp | hzp
      · -- one that comes ahead
        obtain ⟨p1, p2, rfl⟩ := List.append_of_mem hzp
        have hl' : Remn P ops anc L listed (p1 ++ z :: (p2 ++ x :: post)) := by simpa using hl
        obtain ⟨o', ho', hok, _, hcm, hrem⟩ := remn_ready hanc hback hl' hi
        rw [ho] at ho'
        injection ho' with ho'
        subst ho'
        rw [List.map_append, List.map_cons] at he
        obtain ⟨v, m2, g1, g2⟩ := move_front hx _ (p1.map (·.2)) rfl z.2 (p2.map (·.2)) s s1 hcm (fun k hk => hb z (by simp) k hk) he
        refine step_wp hcall ho hok hs g1 fun ρ' a' w' hρ hr => ?_
        have hnext : s.m.next ≤ m2.next := by
          split at g1
          · exact (evOp_ext hx g1).next
          · rw [g1.2]; exact Nat.le_refl _
        refine ih (p1 ++ p2) post (listed.setIfInBounds z.1 true) ρ' _ s1 a' w' (by simp at hlen ⊢; omega) (by simpa using hrem) hr (fun y hy k hk => Nat.lt_of_lt_of_le (hb y (by simp at hy ⊢; rcases hy with h | h | h | h <;> simp [h]) k hk) hnext) (by rw [List.map_append]; exact g2) hw hc late fun ρ'' a'' w'' hh => hQ ρ'' a'' w'' (Map.le_trans hρ hh)
      · rcases List.mem_cons.1 hzp with rfl | hzp
        · -- the one that panics
          obtain ⟨o', ho', hok, hout, hcm, hrem⟩ := remn_ready hanc hback hl hi
          rw [ho] at ho'
          injection ho' with ho'
          subst ho'
          have hin : ∀ y ∈ pre.map (·.2), (y.op.cl = .P ∨ y.op.cl = .R) ∧ ∀ t, y.dst = some t → t ∉ rdS z.2 := by
            intro y hy
            obtain ⟨p, q, e⟩ := List.append_of_mem hy
            have hcc := hcm p y q e
            simp only [commutes, Bool.and_eq_true] at hcc
            obtain ⟨o1, o2, o3⟩ := lessL_other z.2 q
            have hmem := hcc.2
            have hcl : (z.2.lessL q).op.cl = .H := by rw [o1, hop]; rfl
            refine ⟨?_, fun t ht => ?_⟩
            · unfold memOk at hmem
              rw [hcl] at hmem
              cases hyc : y.op.cl <;> simp [hyc] at hmem ⊢
            · have := hcc.1.1.1.1.1
              rw [ht] at this
              simp only [Bool.and_eq_true, Bool.not_eq_true'] at this
              have h2 := this.1.1.2
              have e2 : rdS (z.2.lessL q) = rdS z.2 := by unfold rdS; rw [o1, o3]
              rw [e2] at h2
              intro hm
              rw [List.contains_iff_mem.2 hm] at h2
              cases h2
          obtain ⟨q1, q2⟩ := inert _ s s1 he hin
          have hwz : wants s.tm z.2.guard = true := by
            rw [← hw]
            cases hg : z.2.guard with
            | none => rfl
            | some p =>
              obtain ⟨t, bb⟩ := p
              have := q2 t (by unfold rdS; rw [hg]; simp [rdG])
              simp only [wants, this]
          have hargs : args.map (·.eval s.tm) = args.map (·.eval s1.tm) := by
            apply List.map_congr_left
            intro y hy
            cases y with
            | c v => rfl
            | t i =>
              have := q2 i (by unfold rdS; rw [hop]; exact List.mem_append_right _ (List.mem_flatMap.2 ⟨.t i, by simpa [IOp.opds] using hy, by simp [Opd.rd]⟩))
              exact this.symm
          exact step_panic hcp ho hok hs hwz hop (by rw [hargs, ← q1]; exact hc) hQ
        · -- one that needs it
          obtain ⟨p1, p2, rfl⟩ := List.append_of_mem hzp
          have hl' : Remn P ops anc L listed ((pre ++ x :: p1) ++ z :: p2) := by simpa using hl
          obtain ⟨_, _, _, hout, _, _⟩ := remn_ready hanc hback hl' hi
          have := late z hzp
          exact absurd (by simp) (hout x.1 (by simpa using this))
end
end Go.Proofs.YtdljelicbnjfjaaGreat.X
