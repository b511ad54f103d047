/- What the law law25 needs: texts of one's own, put together; functions' contracts and plain facts. -/
import Derived.Test.YtljkkfcokpimkaaT25E
set_option linter.unusedVariables false
set_option linter.unusedSimpArgs false
set_option maxRecDepth 20000
namespace Go.Proofs.Ytljkkfcokpimkaa.X
open Go Go.RowKit
def shCase : Sh := .st [.sl (.st [.int .i64, .int .i64]), .sl (.st [.int .i64, .int .i64, .int .i64, .int .u64, .bool]), .sl (.st [.int .u64, .bool])]
structure Case (h1 h2 h' : H) (b bw bd : Nat) (B : List Nat) (s : Hs) (os : List Ob) (bx : Nat) (BL : List Nat) (l : List RV) (v : AV) (rts : List Int) : Prop where
  both : Both h1 h2 b bw bd B s os bx BL l
  wl : s.words.length = 1500
  ll : l.length ≤ 150
  fr : Fr [] h2 h'
  own : Own h2 h' 25 1 v rts.length (wc rts)
  rl : rts.length ≤ 30
  rr : ∀ w ∈ rts, 0 ≤ w ∧ w < 18446744073709551616
section
variable {h h1 h2 h' : H} {b bw bd bx : Nat} {B BL : List Nat} {s : Hs} {os : List Ob} {l : List RV} {v : AV} {rts : List Int}
theorem Case.keep (c : Case h1 h2 h' b bw bd B s os bx BL l v rts) {h3 : H} (f : Fr [] h' h3) : Case h1 h2 h3 b bw bd B s os bx BL l v rts :=
  ⟨c.both, c.wl, c.ll, c.fr.trans f, c.own.keep fun k n p _ ob hg => f k ob (by simp) hg, c.rl, c.rr⟩
theorem Case.now (c : Case h1 h2 h' b bw bd B s os bx BL l v rts) : Both h1 h' b bw bd B s os bx BL l := c.both.keep0 c.fr
theorem Case.hs (c : Case h1 h2 h' b bw bd B s os bx BL l v rts) : HS h' b bw bd B s.lays 1500 os := ⟨s, c.now.hh, c.both.A, rfl, c.wl⟩
theorem Case.fit (c : Case h1 h2 h' b bw bd B s os bx BL l v rts) : fitAll s.lays os := c.both.fit
theorem Case.wh (c : Case h1 h2 h' b bw bd B s os bx BL l v rts) : wholeO s.lays os = true := c.both.whole
theorem Case.row (c : Case h1 h2 h' b bw bd B s os bx BL l v rts) {h3 : H} {S : List Nat} (f : Fr S h' h3) (hS : ∀ k ∈ S, k ∈ b :: bw :: bd :: B ∨ h'.get k = none) : Row h3 v rts.length 1 (wc rts) := by
  refine c.own.row.mono fun k off cap ob e hg => ?_
  refine f k ob (fun q => ?_) hg
  rcases hS k q with q | q
  · rcases c.own.2 with ⟨_, e2⟩ | ⟨k2, e2, e3, _⟩
    · rw [e2] at e; cases e
    · rw [e2] at e; injection e with e
      rw [e] at e3
      exact c.both.hh.alive k q e3
  · rw [q] at hg; cases hg
end
theorem gcYes {h : H} : C 86 [] h fun t h => yes t h := gcLives_c fun _ _ => rfl
end Go.Proofs.Ytljkkfcokpimkaa.X
set_option linter.unusedVariables false
set_option linter.unusedSimpArgs false
set_option maxRecDepth 20000
namespace Go.Proofs.Ytljkkfcokpimkaa.X
open Go Go.RowKit
section
variable {h : H}
theorem start2_c {lv Lo vr : AV} {lays : List (Int × Int)} {ops : List OpI} {rs : List (Int × Bool)} (hl : Row h lv lays.length 2 (lc lays)) (hm : lays.length ≤ reachBytes) (ho : Row h Lo ops.length 5 (opsC ops)) (hm2 : ops.length ≤ reachBytes) (hok : ∀ o ∈ ops, o.ok)
    (hr : Row h vr rs.length 2 (rc rs)) (hrr : ∀ x ∈ rs, 0 ≤ x.1 ∧ x.1 < 18446744073709551616) (hm3 : rs.length ≤ reachBytes) {X : H → Prop} {Y : AV → AV → AV → AV → H → Prop} (hX : ∀ h', X h')
    (hY : ∀ h1 h2 h' d b bw bd B s os bx BL l v rts, Case h1 h2 h' b bw bd B s os bx BL l v rts → Y (.ptr d 0) (.ptr b 0) (.ptr bx 0) v h') :
    boxA h (AV.cells (.agg [lv, Lo, vr])) 114 fun c1 h => valA (ldA h (some 3) c1) h fun t16 h => C 89 [t16] h fun t17 h => valA (extA t17 0) h fun t18 h => valA (extA t17 1) h fun t19 h => valA (extA t17 2) h fun t20 h => valA (binOp .eql .ptr t18 .nilp) h fun t22 h =>
      condA t22 (X h) (Y c1 t18 t19 t20 h) := by
  have elv : leaves [lv, Lo, vr] = true := by simp only [leaves, hl.one.1, ho.one.1, hr.one.1]; rfl
  have t0 : ∀ a c d : AV, extA (.tup [a, c, d]) 0 = some a := fun _ _ _ => rfl
  have t1 : ∀ a c d : AV, extA (.tup [a, c, d]) 1 = some c := fun _ _ _ => rfl
  have t2 : ∀ a c d : AV, extA (.tup [a, c, d]) 2 = some d := fun _ _ _ => rfl
  show boxA h [lv, Lo, vr] 114 _
  refine boxR elv fun d hd => ?_
  have f1 : Fr [] h (h.set d (.live [lv, Lo, vr] 114 true)) := (Fr.refl _ _).set' hd
  have gd : (h.set d (.live [lv, Lo, vr] 114 true)).get d = some (.live [lv, Lo, vr] 114 true) := H.get_same ..
  have hl1 := hl.fr f1; have ho1 := ho.fr f1; have hr1 := hr.fr f1
  generalize h.set d (.live [lv, Lo, vr] 114 true) = h0 at *
  have ld : ldA h0 (some 3) (.ptr d 0) = some (.agg [lv, Lo, vr]) := by
    rw [ldA_s, H.read_eq (n := 3) gd (by simp) rfl]; rfl
  rw [ld, valA_some]
  refine case_c hl1 hm ho1 hm2 hok hr1 hrr hm3 (fun h2 f2 => ?_) fun h1 h2 h3 b bx l v rts f2 t ll f3 ov rl rr => ?_
  · rw [t0, valA_some, t1, valA_some, t2, valA_some, b_nn, valA_some, condA_t]
    exact hX h2
  · obtain ⟨bw, bd, B, s, os, BL, tb, e1, e2⟩ := t
    rw [t0, valA_some, t1, valA_some, t2, valA_some, b_pn, valA_some, condA_f]
    exact hY h1 h2 h3 d b bw bd B s os bx BL l v rts ⟨tb, e1, ll, f3, ov, rl, rr⟩
theorem lit1 {x : Int} {K : AV → H → Prop} (hK : ∀ m h', Fr [] h h' → h.get m = none → Row h' (.sl m 0 1 (.exact 1)) 1 1 (wc [x]) → K (.sl m 0 1 (.exact 1)) h') :
    mkslA h 25 1 (fillV [.int .u64 0] [(0, 1, .int .u64 x)]) K := by
  have e : fillV [.int .u64 0] [(0, 1, .int .u64 x)] = some (wc [x]) := rfl
  rw [e]
  refine ⟨rfl, fun m hm => hK m _ ((Fr.refl _ _).set' hm) hm ⟨rfl, .inr ⟨m, 0, _, rfl, rfl, H.read_eq (H.get_same ..) (by simp [wc]) rfl⟩⟩⟩
end
theorem law25 (h : H) (ls : List (List AV)) (hl : LiesA h [shCase] ls) : C 25 (argsOf [shCase] ls) h yes := by
  obtain ⟨l0, ls, rfl, g0, hl⟩ := liesA_cons hl
  obtain rfl := liesA_nil hl
  obtain ⟨v, L, vo, ops, vr, rs, rfl, hr, hm, hro, hops, hmo, hrw, hW, hmw⟩ := lies_case g0
  show C 25 [.agg [v, vo, vr]] h yes
  refine run25 ?_
  unfold sh25
  refine start2_c hr hm hro hmo hops hrw hW hmw (fun h' => gcYes) fun h1 h2 h3 d b bw bd B s os bx BL l vv rts0 c => ?_
  clear g0 hr hm hro hops hmo hrw hW hmw
  have t0 : ∀ a c : AV, extA (.tup [a, c]) 0 = some a := fun _ _ => rfl
  have t1 : ∀ a c : AV, extA (.tup [a, c]) 1 = some c := fun _ _ => rfl
  have hll := c.ll
  have T := c.hs
  have hle := T.le
  have hol := os_le os
  have n00 : ¬ ((0 : Int) ≠ 0) := by decide
  have hnum := c.both.r.len
  let rts : List Int := (atsO os 0).map fun a : Nat => (a : Int) * 2
  have hal := atsO_length os 0
  have hrl : rts.length = os.length := by rw [List.length_map, hal]
  have hin : ∀ a ∈ atsO os 0, AtO os a := fun a ha => by have := (atsO_mem os 0 a).1 ha; unfold AtO; simpa using this
  have alt : ∀ a, AtO os a → (a : Int) ≤ 65536 := fun a ha => by
    obtain ⟨o, ho⟩ := Option.isSome_iff_exists.1 ha
    have := findO_lt os _ o ho; omega
  have hrr : ∀ w ∈ rts, 0 ≤ w ∧ w < 18446744073709551616 := fun w hw => by
    obtain ⟨a, ha, rfl⟩ := List.mem_map.1 hw
    have := alt a (hin a ha); omega
  have hff : ∀ w ∈ rts, fitsO os w = true := fun w hw => by
    obtain ⟨a, ha, rfl⟩ := List.mem_map.1 hw
    have h1 := hin a ha
    unfold AtO at h1
    unfold fitsO
    rw [show ((a : Int) * 2 / 2) = a by omega, h1]; simp
  have hfa : rts.all (fitsO os) = true := List.all_eq_true.2 hff
  obtain ⟨R, hR⟩ := reach_bool s.lays os rts
  have hall : ∀ a, AtO os a → R a = true := fun a ha => (hR a).2 (by
    have hm : ((a : Int) * 2) ∈ rts := List.mem_map.2 ⟨a, (atsO_mem os 0 a).2 (by unfold AtO at ha; simpa using ha), rfl⟩
    have := Rch.root (lays := s.lays) (os := os) hm (by omega)
    rwa [show ((a : Int) * 2 / 2).toNat = a by omega] at this)
  refine join_r (fun (J : AV → H → Prop) => ∀ h5 vr, Fr [] h3 h5 → Own h3 h5 25 1 vr rts.length (wc rts) → J vr h5) (fun h5 vr f5 ov => ?_) fun J hJ => ?_
  · have T5 := T.fr0 f5
    have c5 := c.keep f5
    refine collect_h T5 c.fit c.wh ov.row hrr (by omega) R hR (fun q => by rw [hfa] at q; cases q) fun _ h6 v6 m f6 hmm T6 o6 => ?_
    rw [new_same c.fit hall] at T6
    rw [map_same hall hff] at o6
    rw [t0, valA_some, t1, valA_some]
    have r6 : Row h6 vr rts.length 1 (wc rts) := by
      refine ov.row.mono fun k off cap ob e hg => f6 k ob (fun q => ?_) hg
      rcases ov.2 with ⟨_, e2⟩ | ⟨k2, e2, e3, _⟩
      · rw [e2] at e; cases e
      · rw [e2] at e; injection e with e
        rw [e] at e3
        exact T.alive k (by simp at q ⊢; rcases q with q | q <;> simp [q]) e3
    have al := fun K => alikeW_c o6.row r6 (by omega) K
    have T6' := T6
    obtain ⟨s', hh', A', e1, e2⟩ := T6
    have t6 := c5.now.closed f6 hmm hh' A' e1 (by rw [e2, c.wl])
    simp only [b_neq, valA_some, n00, decide_false, whenA_ff, al, decide_true, u_not, Bool.not_true, pickA_b, Bool.false_eq_true, if_false, ne_eq, not_true_eq_false]
    refine same_c t6 (by omega) fun h7 f7 => ?_
    have T7 := T6'.fr0 f7
    simp only [u_not, Bool.not_true, valA_some, pickA_b, Bool.false_eq_true, if_false, condA_f]
    have im : ∀ (h : H) K, C 83 [.int .i64 (-1)] h K = K (.int .u64 18446744073709551615) h := fun h K => by rw [imm_c]; rfl
    rw [im]
    refine lit1 fun m8 h8 f8 _ r8 => ?_
    have T8 := T7.fr0 f8
    have hRn : ∀ a, (fun _ => false : Nat → Bool) a = true ↔ Rch s.lays os [18446744073709551615] a := fun a => by
      constructor
      · intro h; cases h
      · intro h
        exfalso
        induction h with
        | root h1 h2 => simp at h1; subst h1; exact h2 (by decide)
        | fld _ _ _ _ _ ih => exact ih
    refine collect_h (rts := [18446744073709551615]) T8 c.fit c.wh r8 (by decide) (by decide) _ hRn (fun q => absurd q (by simp [fitsO])) fun _ h9 v9 m9 f9 hm9 T9 o9 => ?_
    have eN : newO s.lays (fun _ => false) os = [] := newOs_none os 0 fun _ => rfl
    have eW : [(18446744073709551615 : Int)].map (fwdW (fw (fun _ => false) os)) = [18446744073709551615] := by
      simp only [List.map_cons, List.map_nil]
      rw [fwdW_imm (by decide)]
    rw [eN] at T9
    rw [eW] at o9
    rw [t0, valA_some, t1, valA_some]
    obtain ⟨b1, o1, q1, q2⟩ := o9.row.at (i := 0) (x := .int .u64 18446744073709551615) (by decide) (by decide) rfl
    have hlen : lenA false v9 = some (.int .i64 1) := o9.row.len
    have e0 : (((rowOf []).length : Nat) : Int) = 0 := rfl
    simp only [go_sem, reduceIte, Nat.reduceAdd, Nat.reduceSub, Nat.reduceMul, Nat.reducePow, Nat.reduceLT, Nat.reduceLeDiff, Nat.reduceEqDiff, Int.reduceAdd, Int.reduceSub, Int.reduceMul, Int.reduceNeg, Int.reducePow, Int.reduceLT, Int.reduceLE, Int.reduceEq, Int.reduceNe, Int.reduceToNat, Int.toNat_natCast, Nat.zero_add, Nat.add_zero, Nat.mul_one, Nat.one_mul, Bool.not_true, Bool.not_false, ne_eq, not_true_eq_false, not_false_eq_true, Bool.false_eq_true, hlen, q1, q2, im, top_h T9, e0]
    refine objects_h T9 fun v10 h10 f10 r10 => ?_
    have T10 := T9.fr0 f10
    have el : lenA false v10 = some (.int .i64 0) := r10.len
    have ld0 : ∀ K, C 62 [.ptr b 0, .int .i64 0] h10 K = K (.int .u64 0) h10 := fun K => load_h T10 (i := 0) (by decide) K
    simp only [go_sem, reduceIte, Nat.reduceAdd, Nat.reduceSub, Nat.reduceMul, Nat.reducePow, Nat.reduceLT, Nat.reduceLeDiff, Nat.reduceEqDiff, Int.reduceAdd, Int.reduceSub, Int.reduceMul, Int.reduceNeg, Int.reducePow, Int.reduceLT, Int.reduceLE, Int.reduceEq, Int.reduceNe, Int.reduceToNat, Int.toNat_natCast, Nat.zero_add, Nat.add_zero, Nat.mul_one, Nat.one_mul, Bool.not_true, Bool.not_false, ne_eq, not_true_eq_false, not_false_eq_true, Bool.false_eq_true, el, ld0]
    exact gcLives_c fun h' _ => rfl
  · refine objects_h T fun va h4 f4 ra => ?_
    rw [ra.len, valA_some]
    refine loop_r (os.length + 1) (fun c ls h' => ∃ (i : Nat) (vr : AV), ls = [vr, .int .i64 i] ∧ i ≤ os.length ∧ Fr [] h4 h' ∧ Own h4 h' 25 1 vr i (wc ((rts.take i))) ∧ c = os.length + 1 - i) ⟨0, .nilsl, rfl, by omega, Fr.refl _ _, Own.nil _ _ _ _, rfl⟩ ?_
    rintro c' ls h5 ⟨i, vr, rfl, hi, f5, ov, rfl⟩
    rw [argA_0, argA_1, b_lss, valA_some]
    by_cases q : (i : Int) < os.length
    · have hi' : i < os.length := by omega
      obtain ⟨a, ha⟩ : ∃ a, (atsO os 0)[i]? = some a := ⟨(atsO os 0)[i]'(by omega), by simp [show i < (atsO os 0).length by omega]⟩
      have hra : rts[i]? = some ((a : Int) * 2) := by show ((atsO os 0).map _)[i]? = _; rw [List.getElem?_map, ha]; rfl
      have en : IntKind.i64.wrap ((i : Int) + 1) = ((i + 1 : Nat) : Int) := by rw [i64_id (by omega) (by omega)]; rfl
      have ea := alt a (hin a (List.mem_of_getElem? ha))
      have ep : ((a : Int) * 2 % 18446744073709551616) = (a : Int) * 2 := by omega
      simp only [q, decide_true, condA_t]
      refine (ra.fr f5).get (x := .int .i64 a) (by omega) q (by rw [Int.toNat_natCast]; unfold nc; rw [List.getElem?_map, ha]; rfl) ?_
      rw [ptr_c, ep]
      have ef : fillV [AV.int .u64 0] [(0, 1, .int .u64 ((a : Int) * 2))] = some [.int .u64 ((a : Int) * 2)] := rfl
      rw [ef]
      refine append_one (h0 := h4) ov rfl (by decide) (wc_leaves _) rfl f5 (by unfold most; omega) fun v8 h8 o8 f8 _ => ?_
      rw [b_add, en, valA_some]
      refine ⟨os.length + 1 - (i + 1), by omega, i + 1, v8, rfl, by omega, f8, ?_, rfl⟩
      rw [List.take_add_one, hra]
      have e3 : wc (rts.take i ++ (some ((a : Int) * 2)).toList) = wc (rts.take i) ++ [.int .u64 ((a : Int) * 2)] := by simp [wc]
      rw [e3]; exact o8
    · have : i = os.length := by omega
      subst this
      simp only [q, decide_false, condA_f]
      have e4 : rts.take os.length = rts := List.take_of_length_le (by omega)
      rw [e4] at ov
      refine hJ h5 vr (f4.trans f5) (by
        rw [hrl]
        refine ⟨ov.1, ?_⟩
        rcases ov.2 with q | ⟨b', q1, q2, q3⟩
        · exact .inl q
        · exact .inr ⟨b', q1, f4.free q2, q3⟩)
end Go.Proofs.Ytljkkfcokpimkaa.X
