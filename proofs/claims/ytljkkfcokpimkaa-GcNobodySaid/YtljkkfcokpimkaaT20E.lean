/- What the law law20 needs: texts of one's own, put together; functions' contracts and plain facts. -/
import Derived.Test.YtljkkfcokpimkaaT20D
set_option linter.unusedVariables false
set_option linter.unusedSimpArgs false
set_option maxRecDepth 20000
namespace Go.Proofs.Ytljkkfcokpimkaa.X
open Go Go.RowKit
structure Case (h1 h2 h' : H) (b bw bd : Nat) (B : List Nat) (s : Hs) (os : List Ob) (bx : Nat) (BL : List Nat) (l : List RV) (v : AV) (rts : List Int) : Prop where
  both : Both h1 h2 b bw bd B s os bx BL l
  wl : s.words.length = 1500
  ll : l.length ≤ 150
  fr : Fr [] h2 h'
  own : Own h2 h' 25 1 v rts.length (wc rts)
  rl : rts.length ≤ 30
  rr : ∀ w ∈ rts, 0 ≤ w ∧ w < 18446744073709551616
section
variable {h h1 h2 h' : H} {b bw bd bx : Nat} {B BL : List Nat} {s : Hs} {os : List Ob} {l : List RV} {v : AV} {rts : List Int}
theorem Case.keep (c : Case h1 h2 h' b bw bd B s os bx BL l v rts) {h3 : H} (f : Fr [] h' h3) : Case h1 h2 h3 b bw bd B s os bx BL l v rts :=
  ⟨c.both, c.wl, c.ll, c.fr.trans f, c.own.keep fun k n p _ ob hg => f k ob (by simp) hg, c.rl, c.rr⟩
theorem Case.now (c : Case h1 h2 h' b bw bd B s os bx BL l v rts) : Both h1 h' b bw bd B s os bx BL l := c.both.keep0 c.fr
theorem Case.hs (c : Case h1 h2 h' b bw bd B s os bx BL l v rts) : HS h' b bw bd B s.lays 1500 os := ⟨s, c.now.hh, c.both.A, rfl, c.wl⟩
theorem Case.fit (c : Case h1 h2 h' b bw bd B s os bx BL l v rts) : fitAll s.lays os := c.both.fit
theorem Case.wh (c : Case h1 h2 h' b bw bd B s os bx BL l v rts) : wholeO s.lays os = true := c.both.whole
theorem Case.row (c : Case h1 h2 h' b bw bd B s os bx BL l v rts) {h3 : H} {S : List Nat} (f : Fr S h' h3) (hS : ∀ k ∈ S, k ∈ b :: bw :: bd :: B ∨ h'.get k = none) : Row h3 v rts.length 1 (wc rts) := by
  refine c.own.row.mono fun k off cap ob e hg => ?_
  refine f k ob (fun q => ?_) hg
  rcases hS k q with q | q
  · rcases c.own.2 with ⟨_, e2⟩ | ⟨k2, e2, e3, _⟩
    · rw [e2] at e; cases e
    · rw [e2] at e; injection e with e
      rw [e] at e3
      exact c.both.hh.alive k q e3
  · rw [q] at hg; cases hg
end
end Go.Proofs.Ytljkkfcokpimkaa.X
set_option linter.unusedVariables false
set_option linter.unusedSimpArgs false
set_option maxRecDepth 20000
namespace Go.Proofs.Ytljkkfcokpimkaa.X
open Go Go.RowKit
section
variable {h : H}
theorem lit1 {x : Int} {K : AV → H → Prop} (hK : ∀ m h', Fr [] h h' → h.get m = none → Row h' (.sl m 0 1 (.exact 1)) 1 1 (wc [x]) → K (.sl m 0 1 (.exact 1)) h') :
    mkslA h 25 1 (fillV [.int .u64 0] [(0, 1, .int .u64 x)]) K := by
  have e : fillV [.int .u64 0] [(0, 1, .int .u64 x)] = some (wc [x]) := rfl
  rw [e]
  refine ⟨rfl, fun m hm => hK m _ ((Fr.refl _ _).set' hm) hm ⟨rfl, .inr ⟨m, 0, _, rfl, rfl, H.read_eq (H.get_same ..) (by simp [wc]) rfl⟩⟩⟩
end
end Go.Proofs.Ytljkkfcokpimkaa.X
set_option linter.unusedVariables false
set_option linter.unusedSimpArgs false
set_option maxRecDepth 20000
namespace Go.Proofs.Ytljkkfcokpimkaa.X
open Go Go.RowKit
section
variable {h : H}
theorem collect_nil (r : AV) {K : AV → H → Prop} (hK : ∀ h', Fr [] h h' → K (.tup [.nilsl, .int .i64 1]) h') : C 84 [.nilp, r] h K := by
  refine run84 ?_
  unfold sh84
  have t0 : ∀ a c : AV, extA (.tup [a, c]) 0 = some a := fun _ _ => rfl
  have t1 : ∀ a c : AV, extA (.tup [a, c]) 1 = some c := fun _ _ => rfl
  have n1 : ((1 : Int) ≠ 0) := by decide
  refine begin_nil r ?_
  rw [t0, valA_some, t1, valA_some]
  refine boxR rfl fun x hx => ?_
  have st : stA (h.set x (.live [.nilp] 133 true)) 1 (.ptr x 0) .nilp = some ((h.set x (.live [.nilp] 133 true)).set x (.live [.nilp] 133 true)) := st_val (H.get_same ..) (by decide) rfl rfl
  rw [st, memA_some, b_neq, valA_some]
  simp only [ne_eq, n1, not_false_eq_true, decide_true, condA_t]
  rw [set_set']
  exact hK _ ((Fr.refl _ _).set' hx)
theorem marks_nil (r : AV) {K : AV → H → Prop} (hK : ∀ h', Fr [] h h' → K (.tup [.nilsl, .int .i64 1]) h') : C 87 [.nilp, r] h K := by
  refine run87 ?_
  unfold sh87
  have t0 : ∀ a c : AV, extA (.tup [a, c]) 0 = some a := fun _ _ => rfl
  have t1 : ∀ a c : AV, extA (.tup [a, c]) 1 = some c := fun _ _ => rfl
  have n1 : ((1 : Int) ≠ 0) := by decide
  refine begin_nil r ?_
  rw [t0, valA_some, t1, valA_some]
  refine boxR rfl fun x hx => ?_
  have st : stA (h.set x (.live [.nilp] 133 true)) 1 (.ptr x 0) .nilp = some ((h.set x (.live [.nilp] 133 true)).set x (.live [.nilp] 133 true)) := st_val (H.get_same ..) (by decide) rfl rfl
  rw [st, memA_some, b_neq, valA_some]
  simp only [ne_eq, n1, not_false_eq_true, decide_true, condA_t]
  rw [set_set']
  exact hK _ ((Fr.refl _ _).set' hx)
theorem live_nil (r : AV) {K : AV → H → Prop} (hK : ∀ h', Fr [] h h' → K (.tup [.int .i64 0, .int .i64 1]) h') : C 88 [.nilp, r] h K := by
  refine run88 ?_
  unfold sh88
  have t0 : ∀ a c : AV, extA (.tup [a, c]) 0 = some a := fun _ _ => rfl
  have t1 : ∀ a c : AV, extA (.tup [a, c]) 1 = some c := fun _ _ => rfl
  refine marks_nil r fun h1 f1 => ?_
  rw [t0, valA_some, t1, valA_some]
  refine join_r (fun (J : AV → H → Prop) => J (.int .i64 0) h1) (hK h1 f1) fun J hJ => ?_
  rw [lenA_n, valA_some]
  refine loop_r 1 (fun c ls h' => ls = [.int .i64 0, .int .i64 0] ∧ h' = h1) ⟨rfl, rfl⟩ ?_
  rintro c ls h' ⟨rfl, rfl⟩
  simp only [go_sem, reduceIte, Nat.reduceAdd, Nat.reduceSub, Nat.reduceMul, Nat.reducePow, Nat.reduceLT, Nat.reduceLeDiff, Nat.reduceEqDiff, Int.reduceAdd, Int.reduceSub, Int.reduceMul, Int.reduceNeg, Int.reducePow, Int.reduceLT, Int.reduceLE, Int.reduceEq, Int.reduceNe, Int.reduceToNat, Int.toNat_natCast, Nat.zero_add, Nat.add_zero, Nat.mul_one, Nat.one_mul, Bool.not_true, Bool.not_false, ne_eq, not_true_eq_false, not_false_eq_true, Bool.false_eq_true]
  exact hJ
end
def gb : List (Int × Int) := [(3, 0)]
def gbo : Ob := ⟨0, 9, [0, 0]⟩
theorem law20 (h : H) (ls : List (List AV)) (hl : LiesA h [.int .u64, .int .i64] ls) : C 20 (argsOf [.int .u64, .int .i64] ls) h yes := by
  obtain ⟨l0, ls, rfl, g0, hl⟩ := liesA_cons hl
  obtain ⟨l1, ls, rfl, g1, hl⟩ := liesA_cons hl
  obtain rfl := liesA_nil hl
  obtain ⟨w, rfl, w0, w1⟩ := lies_u64 g0
  obtain ⟨a, rfl, a0, a1⟩ := lies_i64 g1
  show C 20 [.int .u64 w, .int .i64 a] h yes
  refine run20 ?_
  unfold sh20
  have t0 : ∀ a c : AV, extA (.tup [a, c]) 0 = some a := fun _ _ => rfl
  have t1 : ∀ a c : AV, extA (.tup [a, c]) 1 = some c := fun _ _ => rfl
  refine lit1 fun m1 h1 f1 _ _ => ?_
  refine collect_nil _ fun h2 f2 => ?_
  rw [t0, valA_some, t1, valA_some]
  refine marks_nil _ fun h3 f3 => ?_
  rw [t0, valA_some, t1, valA_some]
  refine live_nil _ fun h4 f4 => ?_
  rw [t0, valA_some, t1, valA_some]
  have e1 : fillV [.int .i64 0, .int .i64 0] [(0, 1, .int .i64 3)] = some [.int .i64 3, .int .i64 0] := rfl
  have e2 : fillV [.int .i64 0, .int .i64 0] [(0, 2, .agg [.int .i64 3, .int .i64 0])] = some (lc gb) := rfl
  simp only [e1, e2, buildA_s, valA_some, mkslA_s]
  refine ⟨rfl, fun b0 hb0 => ?_⟩
  have r0 : Row (h4.set b0 (.live (lc gb) 60 true)) (.sl b0 0 1 (.exact 1)) gb.length 2 (lc gb) := ⟨rfl, .inr ⟨b0, 0, _, rfl, rfl, H.read_eq (H.get_same ..) (by decide) rfl⟩⟩
  refine new_c r0 (by decide) (fun q => absurd (by decide) q) fun _ h5 b bw bd B f5 hfr hh5 => ?_
  have T5 : HS h5 b bw bd B gb 20 [] := ⟨_, hh5, abs_new 20 (lays := gb) (by decide) (by decide) (by decide), rfl, rfl⟩
  rw [t0, valA_some, t1, valA_some]
  refine alloc_h T5 (i := 0) (k := 9) (by decide) (by decide) fun h6 f6 T6 => ?_
  have T6 : HS h6 b bw bd B gb 20 [gbo] := T6
  have i3 : ∀ (h : H) K, C 83 [.int .i64 3] h K = K (.int .u64 7) h := fun h K => by rw [imm_c]; rfl
  have pr : 0 ≤ a * 2 % 18446744073709551616 ∧ a * 2 % 18446744073709551616 < 18446744073709551616 := by omega
  rw [i3, ptr_c]
  refine lit2 fun m7 h7 f7 _ r7 => ?_
  have T7 := T6.fr0 f7
  have fit : fitAll gb [gbo] := fun o ho k => by simp at ho; subst ho; exact absurd (by decide) k
  have wh : wholeO gb [gbo] = true := by decide
  have hrr : ∀ x ∈ [(7 : Int), a * 2 % 18446744073709551616], 0 ≤ x ∧ x < 18446744073709551616 := fun x hx => by
    simp at hx; rcases hx with rfl | rfl
    · decide
    · exact pr
  have hfit : ([(7 : Int), a * 2 % 18446744073709551616].all (fitsO [gbo])) = decide (a % 9223372036854775808 = 0) := by
    have e3 : fitsO [gbo] 7 = true := by rfl
    have e4 : fitsO [gbo] (a * 2 % 18446744073709551616) = decide (a % 9223372036854775808 = 0) := by
      unfold fitsO
      have n1 : ¬ (a * 2 % 18446744073709551616 % 2 = 1) := by omega
      have e5 : a * 2 % 18446744073709551616 / 2 = a % 9223372036854775808 := by omega
      rw [e5]
      simp only [n1, decide_false, Bool.false_or]
      by_cases q : a % 9223372036854775808 = 0
      · rw [q]; rfl
      · have : findO [gbo] (a % 9223372036854775808) = none := by
          simp [findO, q]
        rw [this]; simp [q]
    rw [List.all_cons, List.all_cons, e3, e4]; simp
  have hat : ∀ (h : H) K, C 85 [.int .u64 (a * 2 % 18446744073709551616)] h K = K (.int .i64 (a % 9223372036854775808)) h := fun h K => by
    rw [at_c pr.1 pr.2, show a * 2 % 18446744073709551616 / 2 = a % 9223372036854775808 by omega]
  obtain ⟨R, hR⟩ := reach_bool gb [gbo] [7, a * 2 % 18446744073709551616]
  refine collect_h (rts := [7, a * 2 % 18446744073709551616]) T7 fit wh r7 hrr (by simp) R hR (fun q h8 f8 => ?_) fun q h8 v8 m8 f8 hm8 T8 o8 => ?_
  · rw [hfit] at q
    have q : ¬ (a % 9223372036854775808 = 0) := by simpa using q
    have qa : ¬ a = 0 := fun e => q (by rw [e]; rfl)
    have T8 := T7.fr0 f8
    have e3 : (((rowOf [gbo]).length : Nat) : Int) = 3 := rfl
    simp only [go_sem, reduceIte, Nat.reduceAdd, Nat.reduceSub, Nat.reduceMul, Nat.reducePow, Nat.reduceLT, Nat.reduceLeDiff, Nat.reduceEqDiff, Int.reduceAdd, Int.reduceSub, Int.reduceMul, Int.reduceNeg, Int.reducePow, Int.reduceLT, Int.reduceLE, Int.reduceEq, Int.reduceNe, Int.reduceToNat, Int.toNat_natCast, Nat.zero_add, Nat.add_zero, Nat.mul_one, Nat.one_mul, Bool.not_true, Bool.not_false, ne_eq, not_true_eq_false, not_false_eq_true, Bool.false_eq_true, t0, t1, qa, ptr_c, hat, q, lenA_n, top_h T8, e3]
    exact gcLives_c fun h' _ => rfl
  · rw [hfit] at q
    have q : a % 9223372036854775808 = 0 := by simpa using q
    have hlen : lenA false v8 = some (.int .i64 2) := o8.row.len
    by_cases qa : a = 0
    · subst qa
      simp only [go_sem, reduceIte, Nat.reduceAdd, Nat.reduceSub, Nat.reduceMul, Nat.reducePow, Nat.reduceLT, Nat.reduceLeDiff, Nat.reduceEqDiff, Int.reduceAdd, Int.reduceSub, Int.reduceMul, Int.reduceNeg, Int.reducePow, Int.reduceLT, Int.reduceLE, Int.reduceEq, Int.reduceNe, Int.reduceToNat, Int.toNat_natCast, Nat.zero_add, Nat.add_zero, Nat.mul_one, Nat.one_mul, Bool.not_true, Bool.not_false, ne_eq, not_true_eq_false, not_false_eq_true, Bool.false_eq_true, t0, t1, hlen]
      exact gcLives_c fun h' _ => rfl
    · simp only [go_sem, reduceIte, Nat.reduceAdd, Nat.reduceSub, Nat.reduceMul, Nat.reducePow, Nat.reduceLT, Nat.reduceLeDiff, Nat.reduceEqDiff, Int.reduceAdd, Int.reduceSub, Int.reduceMul, Int.reduceNeg, Int.reducePow, Int.reduceLT, Int.reduceLE, Int.reduceEq, Int.reduceNe, Int.reduceToNat, Int.toNat_natCast, Nat.zero_add, Nat.add_zero, Nat.mul_one, Nat.one_mul, Bool.not_true, Bool.not_false, ne_eq, not_true_eq_false, not_false_eq_true, Bool.false_eq_true, t0, t1, qa, ptr_c, hat, q, hlen]
      exact gcLives_c fun h' _ => rfl
end Go.Proofs.Ytljkkfcokpimkaa.X
