/- What the law law9 needs: texts of one's own, put together; functions' contracts and plain facts. -/
import Derived.Test.YtgcnliikibbcnaaT9D
set_option linter.unusedVariables false
set_option linter.unusedSimpArgs false
set_option maxRecDepth 20000
namespace Go.Proofs.Ytgcnliikibbcnaa.X
open Go Go.RowKit
section
variable {h : H}
/-- A row of one element. -/
theorem one_r {α : Type} {Rel : H → α → List AV → Prop} (hmono : ∀ {h h' : H} {x c}, Fr [] h h' → Rel h x c → Rel h' x c) {n ty : Nat} {Z c : List AV} {x : α} (hz : Z.length = n) (hc : c.length = n) (lc : leaves c = true) (r : Rel h x c) {K : AV → H → Prop}
    (hK : ∀ m h', Fr [] h h' → RowOf h' n (Rel h') (.sl m 0 1 (.exact 1)) [x] → K (.sl m 0 1 (.exact 1)) h') : mkslA h ty 1 (fillV Z [(0, n, .agg c)]) K := by
  rw [fill_agg hz hc lc]
  refine ⟨lc, fun m hm => ?_⟩
  have f : Fr [] h (h.set m (.live c ty true)) := (Fr.refl _ _).set' hm
  refine hK m _ f ⟨[c], rfl, fun i y d hy hd => ?_, by simp [hc], by simp [hc], .inr ⟨m, 0, _, rfl, rfl, H.read_eq (H.get_same ..) (by simp [hc]) (by simp [← hc])⟩⟩
  cases i with
  | zero => simp at hy hd; subst hy; subst hd; exact hmono f r
  | succ i => simp at hy
def imgX (x : Ins) : Img := ⟨[], [], [], [], [⟨[], 0, 0, [⟨[], [x]⟩]⟩], 0, 0⟩
theorem rgs_nil : rgs [] := ⟨by simp, by simp⟩
theorem imgX_ok {x : Ins} (ok : x.ok) : (imgX x).ok := by
  have h1 : 1 ≤ reachBytes := by decide
  refine ⟨⟨by simp [imgX], by simp [imgX]⟩, ⟨by simp [imgX], by simp [imgX]⟩, ⟨by simp [imgX], by simp [imgX]⟩, ⟨by simp [imgX], by simp [imgX]⟩, ⟨h1, ?_⟩, rg0, rg0⟩
  intro f hf
  simp only [imgX, List.mem_singleton] at hf
  subst hf
  refine ⟨rgs_nil, rg0, rg0, h1, fun b hb => ?_⟩
  simp only [List.mem_singleton] at hb
  subst hb
  refine ⟨rgs_nil, h1, fun y hy => ?_⟩
  simp only [List.mem_singleton] at hy
  subst hy; exact ok
theorem imgX_check {x : Ins} (h1 : x.l.length ≤ 200) (h2 : x.m.length ≤ 200) (h3 : x.live.length ≤ 200) : checkN (imgX x) = if plainN x then 0 else 1 := by
  have hi : bigIns x = false := by
    unfold bigIns
    simp only [Bool.or_eq_false_iff, decide_eq_false_iff_not]; omega
  have hb : bigN (imgX x) = false := by simp [bigN, bigTop, imgX, bigFns, bigBlks, hi]
  unfold checkN
  rw [hb]
  cases hp : plainN x <;> simp [imgX, badFn, badBlk, notPlain, hp]
theorem imgX_le {x : Ins} (ok : x.ok) (h1 : x.l.length ≤ 200) (h2 : x.m.length ≤ 200) (h3 : x.live.length ≤ 200) : (bytesI (imgX x)).length ≤ 100000 := by
  have := img_le (imgX_ok ok)
  have e : wImg (imgX x) = 3 + wIns x := by simp [wImg, imgX, sumN, wFn, wBlk]; omega
  rw [e] at this
  unfold wIns at this; omega
theorem chunk2 {p : Bool} {b off n : Nat} {v : AV} {k : Int} (hc : h.cell b off = some v) (hn : lenA false v = some (.int .i64 n)) {K : AV → H → Prop} (hK : K (.bool (p || decide (k < (n : Int)))) h) :
    whenA (.bool p) false (fun K => valA (faA off (.ptr b 0)) h K) h fun t14 h => whenA (.bool p) false (fun K => valA (ldA h none t14) h K) h fun t15 h => whenA (.bool p) false (fun K => valA (lenA false t15) h K) h fun t16 h =>
    whenA (.bool p) false (fun K => valA (binOp .gtr .num t16 (.int .i64 k)) h K) h fun t17 h => valA (pickA (.bool p) (.bool true) t17) h K := by
  cases p with
  | true => simp only [go_sem, reduceIte, Nat.reduceAdd, Nat.reduceSub, Nat.reduceMul, Nat.reducePow, Nat.reduceLT, Nat.reduceLeDiff, Nat.reduceEqDiff, Int.reduceAdd, Int.reduceSub, Int.reduceMul, Int.reduceNeg, Int.reducePow, Int.reduceLT, Int.reduceLE, Int.reduceEq, Int.reduceNe, Int.reduceToNat, Int.toNat_natCast, Nat.zero_add, Nat.add_zero, Nat.mul_one, Nat.one_mul, Bool.not_true, Bool.not_false, ne_eq, not_true_eq_false, not_false_eq_true, Bool.false_eq_true]; exact hK
  | false => simp only [go_sem, reduceIte, Nat.reduceAdd, Nat.reduceSub, Nat.reduceMul, Nat.reducePow, Nat.reduceLT, Nat.reduceLeDiff, Nat.reduceEqDiff, Int.reduceAdd, Int.reduceSub, Int.reduceMul, Int.reduceNeg, Int.reducePow, Int.reduceLT, Int.reduceLE, Int.reduceEq, Int.reduceNe, Int.reduceToNat, Int.toNat_natCast, Nat.zero_add, Nat.add_zero, Nat.mul_one, Nat.one_mul, Bool.not_true, Bool.not_false, ne_eq, not_true_eq_false, not_false_eq_true, Bool.false_eq_true, hc, hn]; simpa using hK
theorem law9 (h : H) (ls : List (List AV)) (hl : LiesA h [shI] ls) : C 9 (argsOf [shI] ls) h yes := by
  obtain ⟨l0, ls, rfl, h0, hl⟩ := liesA_cons hl
  obtain rfl := liesA_nil hl
  obtain ⟨x, r, ok, len⟩ := lies_instr h0
  show C 9 [.agg l0] h yes
  refine run9 ?_
  unfold sh9
  refine box_r r.leaves fun b hb => ?_
  have f1 : Fr [] h (h.set b (.live l0 24 true)) := (Fr.refl _ _).set' hb
  have gb : (h.set b (.live l0 24 true)).get b = some (.live l0 24 true) := H.get_same ..
  have r1 := r.fr f1
  change valA _ (h.set b (.live l0 24 true)) _
  generalize h.set b (.live l0 24 true) = h1 at *
  have rl := r1.leaves
  obtain ⟨vl, vm, vv, rfl, q1, q2, q3⟩ := id r1
  have cb : ∀ {h2 : H}, Fr [] h1 h2 → ∀ o v, ([AV.int .i64 x.op, .int .i64 x.d, .int .i64 x.a, .int .i64 x.b, .int .i64 x.c, .int .i64 x.n, vl, vm, vv] : List AV)[o]? = some v → h2.cell b o = some v := fun f o v e => by rw [cell_of (f b _ (by simp) gb)]; exact e
  have rd : ∀ {h2 : H}, Fr [] h1 h2 → h2.read b 0 9 = some (insC x vl vm vv) := fun f => H.read_eq (f b _ (by simp) gb) (by simp [insC]) rfl
  have fR := Fr.refl [] h1
  refine fld_r (cb fR 6 _ rfl) ?_
  rw [q1.len, valA_some, show binOp .gtr .num (.int .i64 (x.l.length : Int)) (.int .i64 200) = some (.bool (decide (200 < (x.l.length : Int)))) by simp only [go_sem, reduceIte, Nat.reduceAdd, Nat.reduceSub, Nat.reduceMul, Nat.reducePow, Nat.reduceLT, Nat.reduceLeDiff, Nat.reduceEqDiff, Int.reduceAdd, Int.reduceSub, Int.reduceMul, Int.reduceNeg, Int.reducePow, Int.reduceLT, Int.reduceLE, Int.reduceEq, Int.reduceNe, Int.reduceToNat, Int.toNat_natCast, Nat.zero_add, Nat.add_zero, Nat.mul_one, Nat.one_mul, Bool.not_true, Bool.not_false, ne_eq, not_true_eq_false, not_false_eq_true, Bool.false_eq_true], valA_some]
  refine chunk2 (cb fR 7 _ rfl) q2.len ?_
  refine chunk2 (cb fR 8 _ rfl) q3.len ?_
  by_cases hq : ((decide (200 < (x.l.length : Int)) || decide (200 < (x.m.length : Int))) || decide (200 < (x.live.length : Int))) = true
  · rw [hq, condA_t]; exact lives_c fun _ _ => rfl
  rw [Bool.eq_false_iff.2 hq, condA_f]
  have hq : (x.l.length ≤ 200 ∧ x.m.length ≤ 200) ∧ x.live.length ≤ 200 := by
    simp only [Bool.or_eq_true, decide_eq_true_eq, not_or] at hq; omega
  obtain ⟨⟨n1, n2⟩, n3⟩ := hq
  have hck := imgX_check n1 n2 n3
  have hle := imgX_le ok n1 n2 n3
  have okX := imgX_ok ok
  rw [ldA_read (rd fR), valA_some]
  refine one_r (Rel := insR) (fun f r => r.fr f) (x := x) rfl rfl rl r1 fun m1 h2 f2 w2 => ?_
  rw [show buildA (fillV [AV.nilsl, .nilsl] [(1, 1, .sl m1 0 1 (.exact 1))]) = some (.agg [.nilsl, .sl m1 0 1 (.exact 1)]) from rfl, valA_some]
  refine one_r (Rel := blkR) (fun f r => r.fr f) (x := ⟨[], [x]⟩) rfl rfl rfl ⟨_, _, rfl, Row.nil .., w2⟩ fun m2 h3 f3 w3 => ?_
  rw [show buildA (fillV [AV.nilsl, .int .i64 0, .int .i64 0, .nilsl] [(3, 1, .sl m2 0 1 (.exact 1))]) = some (.agg [.nilsl, .int .i64 0, .int .i64 0, .sl m2 0 1 (.exact 1)]) from rfl, valA_some]
  refine one_r (Rel := fnR) (fun f r => r.fr f) (x := ⟨[], 0, 0, [⟨[], [x]⟩]⟩) rfl rfl rfl ⟨_, _, rfl, Row.nil .., w3⟩ fun m3 h4 f4 w4 => ?_
  rw [show buildA (fillV [AV.nilsl, .nilsl, .nilsl, .nilsl, .nilsl, .int .i64 0, .int .i64 0] [(4, 1, .sl m3 0 1 (.exact 1))]) = some (.agg [.nilsl, .nilsl, .nilsl, .nilsl, .sl m3 0 1 (.exact 1), .int .i64 0, .int .i64 0]) from rfl, valA_some]
  have i4 : imgR h4 (imgX x) [.nilsl, .nilsl, .nilsl, .nilsl, .sl m3 0 1 (.exact 1), .int .i64 0, .int .i64 0] := ⟨_, _, _, _, _, rfl, RowOf.nil .., RowOf.nil .., RowOf.nil .., RowOf.nil .., w4⟩
  refine imgbox_r i4 rfl rfl rfl fun e h5 f5 he ge re => ?_
  have f15 := ((f2.trans f3).trans f4).trans f5
  have i5 := i4.fr f5
  rw [ldA_read re, valA_some]
  cases hp : plainN x with
  | false =>
    rw [hp] at hck
    refine encode_c i5 okX (by rw [most_47]; omega) (fun _ h6 f6 => ?_) (fun q => by rw [hck] at q; cases q)
    rw [ext2, ldA_read (rd (f15.trans f6)), valA_some]
    refine rplain_c (r1.fr (f15.trans f6)) fun h7 f7 => ?_
    rw [hp, hck]
    simp only [go_sem, reduceIte, Nat.reduceAdd, Nat.reduceSub, Nat.reduceMul, Nat.reducePow, Nat.reduceLT, Nat.reduceLeDiff, Nat.reduceEqDiff, Int.reduceAdd, Int.reduceSub, Int.reduceMul, Int.reduceNeg, Int.reducePow, Int.reduceLT, Int.reduceLE, Int.reduceEq, Int.reduceNe, Int.reduceToNat, Int.toNat_natCast, Nat.zero_add, Nat.add_zero, Nat.mul_one, Nat.one_mul, Bool.not_true, Bool.not_false, ne_eq, not_true_eq_false, not_false_eq_true, Bool.false_eq_true]
    exact lives_c fun _ _ => rfl
  | true =>
    rw [hp] at hck
    refine encode_c i5 okX (by rw [most_47]; omega) (fun q => absurd hck q) fun _ v h6 f6 w6 => ?_
    rw [ext2, ldA_read (rd (f15.trans f6)), valA_some]
    refine rplain_c (r1.fr (f15.trans f6)) fun h7 f7 => ?_
    rw [hp, u_not, valA_some, show (!true) = false from rfl, condA_f]
    refine decode_c (w6.row.fr f7) (bytes_lt _) (by omega) fun h8 c8 f8 i8 o8 => ?_
    rw [decode_fw okX hck] at i8 o8 ⊢
    rw [ext2]
    refine imgbox_r i8 rfl rfl rfl fun d h9 f9 hd gd rd9 => ?_
    have f59 := ((f6.trans f7).trans f8).trans f9
    have f19 := f15.trans f59
    have i9 := i8.fr f9
    obtain ⟨_, _, _, _, vf, rfl, _, _, _, _, rf⟩ := id i9
    have cd : h9.cell d 4 = some vf := by rw [cell_of gd]; rfl
    obtain ⟨b1, o1, c1, e1, ⟨_, vb, rfl, _, rb⟩, _, _, g1⟩ := rf.el (i := 0) (x := ⟨[], 0, 0, [⟨[], [x]⟩]⟩) rfl
    have e1 : iaA 4 vf (.int .i64 0) = some (.ptr b1 o1) := by simpa using e1 .i64
    have g1 := g1 3 (by decide)
    obtain ⟨b2, o2, c2, e2, ⟨_, vc, rfl, _, rc⟩, _, _, g2⟩ := rb.el (i := 0) (x := ⟨[], [x]⟩) rfl
    have e2 : iaA 2 vb (.int .i64 0) = some (.ptr b2 o2) := by simpa using e2 .i64
    have g2 := g2 1 (by decide)
    obtain ⟨b3, o3, c3, e3, rx, l3, g3, _⟩ := rc.el (i := 0) (x := x) rfl
    have e3 : iaA 9 vc (.int .i64 0) = some (.ptr b3 o3) := by simpa using e3 .i64
    have g1 : h9.cell b1 (o1 + 3) = some vb := g1
    have g2 : h9.cell b2 (o2 + 1) = some vc := g2
    have nf : lenA false vf = some (.int .i64 1) := rf.len
    have nb : lenA false vb = some (.int .i64 1) := rb.len
    have nc : lenA false vc = some (.int .i64 1) := rc.len
    simp only [go_sem, reduceIte, Nat.reduceAdd, Nat.reduceSub, Nat.reduceMul, Nat.reducePow, Nat.reduceLT, Nat.reduceLeDiff, Nat.reduceEqDiff, Int.reduceAdd, Int.reduceSub, Int.reduceMul, Int.reduceNeg, Int.reducePow, Int.reduceLT, Int.reduceLE, Int.reduceEq, Int.reduceNe, Int.reduceToNat, Int.toNat_natCast, Nat.zero_add, Nat.add_zero, Nat.mul_one, Nat.one_mul, Bool.not_true, Bool.not_false, ne_eq, not_true_eq_false, not_false_eq_true, Bool.false_eq_true, cd, nf, e1, g1, nb, e2, g2, nc, e3, g3]
    refine box_r rfl fun z hz => ?_
    rw [copy_st l3 rfl rx.leaves, memA_some]
    have fz : Fr [] h9 (h9.set z (.live c3 24 true)) := (Fr.refl _ _).set' hz
    have gz : (h9.set z (.live c3 24 true)).get z = some (.live c3 24 true) := H.get_same ..
    have i10 := i9.fr fz
    have rd10 : (h9.set z (.live c3 24 true)).read d 0 7 = some [_, _, _, _, vf, .int .i64 0, .int .i64 0] := H.read_eq (fz d _ (by simp) gd) (by simp) rfl
    have re10 := H.read_eq ((f59.trans fz) e _ (by simp) ge) (off := 0) (n := 7) (by simp) rfl
    generalize h9.set z (.live c3 24 true) = h10 at *
    obtain ⟨_, _, _, rfl, p1, p2, p3⟩ := id rx
    have cz : ∀ o v, (insC x _ _ _)[o]? = some v → h10.cell z o = some v := fun o v e => by rw [cell_of gz]; exact e
    have y0 := cz 0 _ rfl
    have y1 := cz 1 _ rfl
    have y2 := cz 2 _ rfl
    have y3 := cz 3 _ rfl
    have y4 := cz 4 _ rfl
    have y5 := cz 5 _ rfl
    have y6 := cz 6 _ rfl
    have y7 := cz 7 _ rfl
    have y8 := cz 8 _ rfl
    have f110 := f19.trans fz
    have x0 := cb f110 0 _ rfl
    have x1 := cb f110 1 _ rfl
    have x2 := cb f110 2 _ rfl
    have x3 := cb f110 3 _ rfl
    have x4 := cb f110 4 _ rfl
    have x5 := cb f110 5 _ rfl
    have x6 := cb f110 6 _ rfl
    have x7 := cb f110 7 _ rfl
    have x8 := cb f110 8 _ rfl
    simp only [go_sem, reduceIte, Nat.reduceAdd, Nat.reduceSub, Nat.reduceMul, Nat.reducePow, Nat.reduceLT, Nat.reduceLeDiff, Nat.reduceEqDiff, Int.reduceAdd, Int.reduceSub, Int.reduceMul, Int.reduceNeg, Int.reducePow, Int.reduceLT, Int.reduceLE, Int.reduceEq, Int.reduceNe, Int.reduceToNat, Int.toNat_natCast, Nat.zero_add, Nat.add_zero, Nat.mul_one, Nat.one_mul, Bool.not_true, Bool.not_false, ne_eq, not_true_eq_false, not_false_eq_true, Bool.false_eq_true, y0, y1, y2, y3, y4, y5, y6, y7, y8, x0, x1, x2, x3, x4, x5, x6, x7, x8, p1.len, p2.len, p3.len, q1.len, q2.len, q3.len, rd10, re10]
    refine same_c i10 (i5.fr (f59.trans fz)) okX okX fun h11 f11 => ?_
    rw [eqB_self]
    simp only [go_sem, reduceIte, Nat.reduceAdd, Nat.reduceSub, Nat.reduceMul, Nat.reducePow, Nat.reduceLT, Nat.reduceLeDiff, Nat.reduceEqDiff, Int.reduceAdd, Int.reduceSub, Int.reduceMul, Int.reduceNeg, Int.reducePow, Int.reduceLT, Int.reduceLE, Int.reduceEq, Int.reduceNe, Int.reduceToNat, Int.toNat_natCast, Nat.zero_add, Nat.add_zero, Nat.mul_one, Nat.one_mul, Bool.not_true, Bool.not_false, ne_eq, not_true_eq_false, not_false_eq_true, Bool.false_eq_true]
    exact lives_c fun _ _ => rfl
end
end Go.Proofs.Ytgcnliikibbcnaa.X
