/- What the law law23 needs: texts of one's own, put together; functions' contracts and plain facts. -/
import Derived.Test.YtljkkfcokpimkaaT23E
set_option linter.unusedVariables false
set_option linter.unusedSimpArgs false
set_option maxRecDepth 20000
namespace Go.Proofs.Ytljkkfcokpimkaa.X
open Go Go.RowKit
def shCase : Sh := .st [.sl (.st [.int .i64, .int .i64]), .sl (.st [.int .i64, .int .i64, .int .i64, .int .u64, .bool]), .sl (.st [.int .u64, .bool])]
structure Case (h1 h2 h' : H) (b bw bd : Nat) (B : List Nat) (s : Hs) (os : List Ob) (bx : Nat) (BL : List Nat) (l : List RV) (v : AV) (rts : List Int) : Prop where
  both : Both h1 h2 b bw bd B s os bx BL l
  wl : s.words.length = 1500
  ll : l.length ≤ 150
  fr : Fr [] h2 h'
  own : Own h2 h' 25 1 v rts.length (wc rts)
  rl : rts.length ≤ 30
  rr : ∀ w ∈ rts, 0 ≤ w ∧ w < 18446744073709551616
section
variable {h h1 h2 h' : H} {b bw bd bx : Nat} {B BL : List Nat} {s : Hs} {os : List Ob} {l : List RV} {v : AV} {rts : List Int}
theorem Case.keep (c : Case h1 h2 h' b bw bd B s os bx BL l v rts) {h3 : H} (f : Fr [] h' h3) : Case h1 h2 h3 b bw bd B s os bx BL l v rts :=
  ⟨c.both, c.wl, c.ll, c.fr.trans f, c.own.keep fun k n p _ ob hg => f k ob (by simp) hg, c.rl, c.rr⟩
theorem Case.now (c : Case h1 h2 h' b bw bd B s os bx BL l v rts) : Both h1 h' b bw bd B s os bx BL l := c.both.keep0 c.fr
theorem Case.hs (c : Case h1 h2 h' b bw bd B s os bx BL l v rts) : HS h' b bw bd B s.lays 1500 os := ⟨s, c.now.hh, c.both.A, rfl, c.wl⟩
theorem Case.fit (c : Case h1 h2 h' b bw bd B s os bx BL l v rts) : fitAll s.lays os := c.both.fit
theorem Case.wh (c : Case h1 h2 h' b bw bd B s os bx BL l v rts) : wholeO s.lays os = true := c.both.whole
theorem Case.row (c : Case h1 h2 h' b bw bd B s os bx BL l v rts) {h3 : H} {S : List Nat} (f : Fr S h' h3) (hS : ∀ k ∈ S, k ∈ b :: bw :: bd :: B ∨ h'.get k = none) : Row h3 v rts.length 1 (wc rts) := by
  refine c.own.row.mono fun k off cap ob e hg => ?_
  refine f k ob (fun q => ?_) hg
  rcases hS k q with q | q
  · rcases c.own.2 with ⟨_, e2⟩ | ⟨k2, e2, e3, _⟩
    · rw [e2] at e; cases e
    · rw [e2] at e; injection e with e
      rw [e] at e3
      exact c.both.hh.alive k q e3
  · rw [q] at hg; cases hg
theorem start_c {lv Lo vr : AV} {lays : List (Int × Int)} {ops : List OpI} {rs : List (Int × Bool)} (hl : Row h lv lays.length 2 (lc lays)) (hm : lays.length ≤ reachBytes) (ho : Row h Lo ops.length 5 (opsC ops)) (hm2 : ops.length ≤ reachBytes) (hok : ∀ o ∈ ops, o.ok)
    (hr : Row h vr rs.length 2 (rc rs)) (hrr : ∀ x ∈ rs, 0 ≤ x.1 ∧ x.1 < 18446744073709551616) (hm3 : rs.length ≤ reachBytes) {X : H → Prop} {Y : AV → AV → AV → AV → H → Prop} (hX : ∀ h', X h')
    (hY : ∀ h1 h2 h' d b bw bd B s os bx BL l v rts, h1.get d = some (.live [lv, Lo, vr] 114 true) → Fr [] h h1 → s.lays = lays → Case h1 h2 h' b bw bd B s os bx BL l v rts → rts.all (fitsO os) = true → Y (.ptr d 0) (.ptr b 0) (.ptr bx 0) v h') :
    boxA h (AV.cells (.agg [lv, Lo, vr])) 114 fun c1 h => valA (ldA h (some 3) c1) h fun t16 h => C 89 [t16] h fun t17 h => valA (extA t17 0) h fun t18 h => valA (extA t17 1) h fun t19 h => valA (extA t17 2) h fun t20 h => valA (binOp .eql .ptr t18 .nilp) h fun t22 h =>
      whenA t22 false (fun K => K t19 h) h fun t24 h => whenA t22 false (fun K => K t20 h) h fun t25 h => whenA t22 false (fun K => C 90 [t24, t25] h K) h fun t26 h => whenA t22 false (fun K => valA (unOp .not t26) h K) h fun t27 h => valA (pickA t22 (.bool true) t27) h fun t28 h =>
      condA t28 (X h) (Y c1 t18 t19 t20 h) := by
  have elv : leaves [lv, Lo, vr] = true := by simp only [leaves, hl.one.1, ho.one.1, hr.one.1]; rfl
  have t0 : ∀ a c d : AV, extA (.tup [a, c, d]) 0 = some a := fun _ _ _ => rfl
  have t1 : ∀ a c d : AV, extA (.tup [a, c, d]) 1 = some c := fun _ _ _ => rfl
  have t2 : ∀ a c d : AV, extA (.tup [a, c, d]) 2 = some d := fun _ _ _ => rfl
  show boxA h [lv, Lo, vr] 114 _
  refine boxR elv fun d hd => ?_
  have f1 : Fr [] h (h.set d (.live [lv, Lo, vr] 114 true)) := (Fr.refl _ _).set' hd
  have gd : (h.set d (.live [lv, Lo, vr] 114 true)).get d = some (.live [lv, Lo, vr] 114 true) := H.get_same ..
  have hl1 := hl.fr f1; have ho1 := ho.fr f1; have hr1 := hr.fr f1
  generalize h.set d (.live [lv, Lo, vr] 114 true) = h0 at *
  have ld : ldA h0 (some 3) (.ptr d 0) = some (.agg [lv, Lo, vr]) := by
    rw [ldA_s, H.read_eq (n := 3) gd (by simp) rfl]; rfl
  rw [ld, valA_some]
  refine case_c hl1 hm ho1 hm2 hok hr1 hrr hm3 (fun h2 f2 => ?_) fun h1 h2 h3 b bx l v rts f2 t ll f3 ov rl rr => ?_
  · rw [t0, valA_some, t1, valA_some, t2, valA_some, b_nn, valA_some]
    simp only [whenA_tf, pickA_b, if_true, valA_some, condA_t]
    exact hX h2
  · obtain ⟨bw, bd, B, s, os, BL, tb, e1, e2⟩ := t
    have c : Case h1 h2 h3 b bw bd B s os bx BL l v rts := ⟨tb, e1, ll, f3, ov, rl, rr⟩
    rw [t0, valA_some, t1, valA_some, t2, valA_some, b_pn, valA_some]
    simp only [whenA_ff]
    refine rfit_c c.now.R (by omega) ov.row rr (by omega) fun h4 f4 => ?_
    rw [u_not, valA_some]
    simp only [pickA_b, Bool.false_eq_true, if_false, valA_some]
    rw [← tb.r.fitsAll rts]
    cases hf : rts.all (fitsO os) with
    | true =>
      simp only [Bool.not_true, condA_f]
      exact hY h1 h2 h4 d b bw bd B s os bx BL l v rts (f2 d _ (by simp) gd) (f1.trans f2) e2 (c.keep f4) hf
    | false =>
      simp only [Bool.not_false, condA_t]
      exact hX h4
end
theorem gcYes {h : H} : C 86 [] h fun t h => yes t h := gcLives_c fun _ _ => rfl
theorem range_row (f : Nat → Int) (n : Nat) : wc ((List.range (n + 1)).map f) = wc ((List.range n).map f) ++ [.int .u64 (f n)] := by simp [wc, List.range_succ]
theorem law23 (h : H) (ls : List (List AV)) (hl : LiesA h [shCase] ls) : C 23 (argsOf [shCase] ls) h yes := by
  obtain ⟨l0, ls, rfl, g0, hl⟩ := liesA_cons hl
  obtain rfl := liesA_nil hl
  obtain ⟨v, L, vo, ops, vr, rs, rfl, hr, hm, hro, hops, hmo, hrw, hW, hmw⟩ := lies_case g0
  show C 23 [.agg [v, vo, vr]] h yes
  refine run23 ?_
  unfold sh23
  refine start_c hr hm hro hmo hops hrw hW hmw (fun h' => gcYes) fun h1 h2 h3 d b bw bd B s os bx BL l vv rts _ _ _ c hall => ?_
  clear g0 hr hm hro hops hmo hrw hW hmw
  have t0 : ∀ a c : AV, extA (.tup [a, c]) 0 = some a := fun _ _ => rfl
  have t1 : ∀ a c : AV, extA (.tup [a, c]) 1 = some c := fun _ _ => rfl
  have hff : ∀ w ∈ rts, fitsO os w = true := fun w hw => List.all_eq_true.1 hall w hw
  obtain ⟨R, hR⟩ := reach_bool s.lays os rts
  have hll := c.ll; have hrl := c.rl
  have T := c.hs
  refine live_h T c.fit c.own.row c.rr (by omega) R hR (fun q => by rw [hall] at q; cases q) fun _ h4 f4 T4 => ?_
  rw [t0, valA_some, t1, valA_some]
  have hbl : ∀ k ∈ blocksR bx BL l, k ∉ [b, bw, bd] := fun k hk q => c.both.ap k (by simp at q ⊢; rcases q with q | q | q <;> simp [q]) hk
  have hnew : ∀ k ∈ [b, bw, bd], h1.get k = none := fun k q => c.both.new k (by simp at q ⊢; rcases q with q | q | q <;> simp [q])
  have r4 := c.row f4 (fun k q => .inl (by simp at q; simp [q]))
  refine collect_h T4 c.fit c.wh r4 c.rr (by omega) R hR (fun q => by rw [hall] at q; cases q) fun _ h5 v5 m f5 hmm T5 o5 => ?_
  rw [t0, valA_some, t1, valA_some]
  have fit' := new_fitAll c.fit hR
  have wh' := new_wholeO c.wh hR
  have hf' := new_rts hff hR
  have hle5 := T5.le
  have hrr' := new_rts_range c.rr hff hR (by omega)
  have hle := T.le
  have hnl := new_len (lays := s.lays) (R := R) (fwd := fw R os) os 0
  have hnl : (rowOf (newO s.lays R os)).length ≤ (rowOf os).length := hnl
  have n00 : ¬ ((0 : Int) ≠ 0) := by decide
  -- the reference's top
  have Fr5 : Fr [b, bw, bd] h3 h5 := (f4.weaken (by simp)).trans (f5.weaken fun k hk => by simp at hk ⊢; rcases hk with q | q <;> simp [q])
  have R5 : RefAt h1 h5 bx s.words.length s.lays BL l := c.now.R.keep Fr5 hbl ((c.now.R.fr).cons hnew Fr5)
  have htop := c.now.top
  simp only [b_neq, valA_some, n00, decide_false, whenA_ff, pickA_b, Bool.false_eq_true, if_false, top_h T5, ne_eq, not_true_eq_false]
  refine rtop_c R5 (by omega) fun h6 f6 => ?_
  have T6 := T5.fr0 f6
  have hgt : ¬ (topR s.lays l < ((rowOf (newO s.lays R os)).length : Int)) := by rw [htop, c.both.A.top]; omega
  simp only [b_gtr, valA_some, hgt, decide_false, pickA_b, Bool.false_eq_true, if_false, condA_f]
  have o6 : Own h4 h6 25 1 v5 rts.length (wc (rts.map (fwdW (fw R os)))) := o5.keep fun k n p _ ob hg => f6 k ob (by simp) hg
  generalize hN : newO s.lays R os = N at *
  generalize hrt : rts.map (fwdW (fw R os)) = rt at *
  have hrtl : rt.length = rts.length := by rw [← hrt, List.length_map]
  have hreach : ∀ a, AtO N a → Rch s.lays N rt a := fun a ha => by
    have := new_reached (lays := s.lays) hR (a := a) (by rw [hN]; exact ha)
    rwa [hN, hrt] at this
  refine join_r (fun (J : AV → H → Prop) => ∀ h7 vb, Fr [] h6 h7 → Own h6 h7 25 1 vb 1500 (wc ((List.range 1500).map fun i => (rowOf N).getD i 0)) → J vb h7) (fun h7 vb f7 ob => ?_) fun J hJ => ?_
  · -- the second one
    have T7 := T6.fr0 f7
    obtain ⟨R2, hR2⟩ := reach_bool s.lays N rt
    have hall2 : ∀ a, AtO N a → R2 a = true := fun a ha => (hR2 a).2 (hreach a ha)
    have r7 : Row h7 v5 rt.length 1 (wc rt) := by rw [hrtl]; exact (o6.keep fun k n p _ ob hg => f7 k ob (by simp) hg).row
    have hf2 : rt.all (fitsO N) = true := List.all_eq_true.2 hf'
    refine collect_h T7 fit' wh' r7 hrr' (by omega) R2 hR2 (fun q => by rw [hf2] at q; cases q) fun _ h8 v8 m8 f8 hm8 T8 o8 => ?_
    rw [new_same fit' hall2] at T8
    rw [map_same hall2 hf'] at o8
    rw [t0, valA_some, t1, valA_some]
    -- the roots ahead of it are where they were
    have r8 : Row h8 v5 rt.length 1 (wc rt) := by
      refine r7.mono fun k off cap ob e hg => f8 k ob (fun q => ?_) hg
      rcases o6.2 with ⟨_, e2⟩ | ⟨k2, e2, e3, _⟩
      · rw [e2] at e; cases e
      · rw [e2] at e; injection e with e
        rw [e] at e3
        exact T4.alive k (by simp at q ⊢; rcases q with q | q <;> simp [q]) e3
    have al := fun K => alikeW_c r8 o8.row (by omega) K
    simp only [b_neq, valA_some, n00, decide_false, whenA_ff, al, decide_true, u_not, Bool.not_true, pickA_b, Bool.false_eq_true, if_false, top_h T8, ne_eq, not_true_eq_false, condA_f]
    refine join_r (fun (J : H → Prop) => ∀ h, J h) (fun h => gcYes) fun J hJ => ?_
    have rb : Row h8 vb 1500 1 (wc ((List.range 1500).map fun i => (rowOf N).getD i 0)) := by
      refine ob.row.mono fun k off cap o e hg => f8 k o (fun q => ?_) hg
      rcases ob.2 with ⟨z, _⟩ | ⟨k2, e2, e3, _⟩
      · omega
      · rw [e2] at e; injection e with e
        rw [e] at e3
        exact T6.alive k (by simp at q ⊢; rcases q with q | q <;> simp [q]) e3
    rw [rb.len, valA_some]
    refine loop_r 1501 (fun c ls h' => ∃ i : Nat, ls = [.int .i64 i] ∧ i ≤ 1500 ∧ h' = h8 ∧ c = 1501 - i) ⟨0, rfl, by omega, rfl, rfl⟩ ?_
    rintro c ls h' ⟨i, rfl, hi, e, rfl⟩
    rw [e, argA_0, b_lss, valA_some]
    by_cases q : (i : Int) < ((1500 : Nat) : Int)
    · have hi' : i < 1500 := by omega
      have en : IntKind.i64.wrap ((i : Int) + 1) = ((i + 1 : Nat) : Int) := by rw [i64_id (by omega) (by omega)]; rfl
      obtain ⟨bo, oo, q1, q2⟩ := rb.at (i := (i : Int)) (x := .int .u64 ((rowOf N).getD i 0)) (by omega) q (by
        rw [Int.toNat_natCast, wc_get, List.getElem?_map, List.getElem?_range hi']; rfl)
      simp only [q, decide_true, condA_t, q1, valA_some, ldA_n, q2, load_h T8 hi', againK_t, b_neq, ne_eq, not_true_eq_false, decide_false, condA_f, b_add, en]
      exact ⟨1501 - (i + 1), by omega, i + 1, rfl, by omega, by first | rfl | trivial, rfl⟩
    · simp only [q, decide_false, condA_f]
      exact hJ _
  · rw [size_h T6]
    refine loop_r 1501 (fun c ls h' => ∃ (i : Nat) (vb : AV), ls = [vb, .int .i64 i] ∧ i ≤ 1500 ∧ Fr [] h6 h' ∧ Own h6 h' 25 1 vb i (wc ((List.range i).map fun i => (rowOf N).getD i 0)) ∧ c = 1501 - i) ⟨0, .nilsl, rfl, by omega, Fr.refl _ _, Own.nil _ _ _ _, rfl⟩ ?_
    rintro c ls h7 ⟨i, vb, rfl, hi, f7, ob, rfl⟩
    rw [argA_0, argA_1, b_lss, valA_some]
    by_cases q : (i : Int) < ((1500 : Nat) : Int)
    · have hi' : i < 1500 := by omega
      have en : IntKind.i64.wrap ((i : Int) + 1) = ((i + 1 : Nat) : Int) := by rw [i64_id (by omega) (by omega)]; rfl
      have T7 := T6.fr0 f7
      simp only [q, decide_true, condA_t]
      rw [load_h T7 hi']
      have ef : fillV [AV.int .u64 0] [(0, 1, .int .u64 ((rowOf N).getD i 0))] = some [.int .u64 ((rowOf N).getD i 0)] := rfl
      rw [ef]
      refine append_one (h0 := h6) ob rfl (by decide) (wc_leaves _) rfl f7 (by unfold most; omega) fun v8 h8 o8 f8 _ => ?_
      rw [b_add, en, valA_some]
      exact ⟨1501 - (i + 1), by omega, i + 1, v8, rfl, by omega, f8, by rw [range_row]; exact o8, rfl⟩
    · have : i = 1500 := by omega
      subst this
      simp only [q, decide_false, condA_f]
      exact hJ h7 vb f7 ob
end Go.Proofs.Ytljkkfcokpimkaa.X
