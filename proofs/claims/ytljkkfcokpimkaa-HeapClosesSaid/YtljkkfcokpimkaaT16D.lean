/- What the law law16 needs: texts of one's own, put together; functions' contracts and plain facts. -/
import Derived.Test.YtljkkfcokpimkaaT16C
set_option linter.unusedVariables false
set_option linter.unusedSimpArgs false
set_option maxRecDepth 20000
namespace Go.Proofs.Ytljkkfcokpimkaa.X
open Go Go.RowKit
section
variable {h0 h : H} {b bw bd bx : Nat} {B BL : List Nat} {s : Hs} {os : List Ob} {l : List RV}
theorem same_c (t : Both h0 h b bw bd B s os bx BL l) (hl : l.length ≤ 900) {K : AV → H → Prop} (hK : ∀ h', Fr [] h h' → K (.bool true) h') : C 76 [.ptr b 0, .ptr bx 0] h K := by
  refine run76 ?_
  have A := t.A
  have gw := A.good.wlen
  have ht := t.top
  unfold sh76
  simp only [top_c t.hh]
  refine rtop_c t.R (by omega) fun h1 f1 => ?_
  have t1 := t.keep0 f1
  obtain ⟨lv1, Lv1, cx1, rl1, ov1⟩ := t1.R.cells
  simp only [go_sem, reduceIte, Nat.reduceAdd, Nat.reduceSub, Nat.reduceMul, Nat.reducePow, Nat.reduceLT, Nat.reduceLeDiff, Nat.reduceEqDiff, Int.reduceAdd, Int.reduceSub, Int.reduceMul, Int.reduceNeg, Int.reducePow, Int.reduceLT, Int.reduceLE, Int.reduceEq, Int.reduceNe, Int.reduceToNat, Int.toNat_natCast, Nat.zero_add, Nat.add_zero, Nat.mul_one, Nat.one_mul, Bool.not_true, Bool.not_false, ne_eq, not_true_eq_false, not_false_eq_true, Bool.false_eq_true, ht, cx1, size_c t1.hh]
  refine join_r (fun (J : H → Prop) => ∀ h', Fr [] h h' → J h') ?_ fun J hJ => ?_
  · intro h2 f2
    have t2 := t.keep0 f2
    refine objects_p t2.hh A.pre fun v h3 f3 r => ?_
    have t3 := t2.keep0 f3
    obtain ⟨lv3, Lv3, cx3, rl3, ov3⟩ := t3.R.cells
    have hol := t.r.len
    simp only [go_sem, reduceIte, Nat.reduceAdd, Nat.reduceSub, Nat.reduceMul, Nat.reducePow, Nat.reduceLT, Nat.reduceLeDiff, Nat.reduceEqDiff, Int.reduceAdd, Int.reduceSub, Int.reduceMul, Int.reduceNeg, Int.reducePow, Int.reduceLT, Int.reduceLE, Int.reduceEq, Int.reduceNe, Int.reduceToNat, Int.toNat_natCast, Nat.zero_add, Nat.add_zero, Nat.mul_one, Nat.one_mul, Bool.not_true, Bool.not_false, ne_eq, not_true_eq_false, not_false_eq_true, Bool.false_eq_true, r.len, cx3, ov3.row.len, hol]
    refine join_r (fun (J : H → Prop) => ∀ h', Fr [] h h' → J h') (fun h' f => hK h' f) fun J hJ => ?_
    refine loop_r (l.length + 1) (fun c ls h4 => ∃ i : Nat, ls = [.int .i64 i] ∧ i ≤ l.length ∧ Fr [] h3 h4 ∧ c = l.length + 1 - i) ⟨0, rfl, by omega, Fr.refl _ _, rfl⟩ ?_
    rintro c ls h4 ⟨i, rfl, hi, f4, rfl⟩
    by_cases q1 : (i : Int) < l.length
    · have hi' : i < l.length := by omega
      obtain ⟨x, hx⟩ : ∃ x, l[i]? = some x := ⟨l[i], by simp [hi']⟩
      obtain ⟨ob, a, p1, p2, p3, p4, p5⟩ := t.r.get i x hx
      have p5 : findO os a = some ob := by simpa using p5
      have t4 := t3.keep0 f4
      have hok := t4.R.el x (List.mem_of_getElem? hx)
      obtain ⟨b', q, z1, z2, z3⟩ := (ov3.fr f4 (by simp)).obj hx
      simp only [go_sem, reduceIte, Nat.reduceAdd, Nat.reduceSub, Nat.reduceMul, Nat.reducePow, Nat.reduceLT, Nat.reduceLeDiff, Nat.reduceEqDiff, Int.reduceAdd, Int.reduceSub, Int.reduceMul, Int.reduceNeg, Int.reducePow, Int.reduceLT, Int.reduceLE, Int.reduceEq, Int.reduceNe, Int.reduceToNat, Int.toNat_natCast, Nat.zero_add, Nat.add_zero, Nat.mul_one, Nat.one_mul, Bool.not_true, Bool.not_false, ne_eq, not_true_eq_false, not_false_eq_true, Bool.false_eq_true, q1, z1, z3]
      refine ⟨rfl, fun d hd => ?_⟩
      have f5 : Fr [] h4 (h4.set d (.live x.cells 89 true)) := (Fr.refl _ _).set' hd
      have hw := RV.leaves hok
      have ec : (AV.agg x.cells).cells = x.cells := rfl
      have el : x.cells.length = 5 := rfl
      have cd : ∀ off, (h4.set d (.live x.cells 89 true)).cell d off = [AV.int .i64 x.r.a, .int .i64 x.r.sh, .int .i64 x.r.n, x.fv, x.bv][off]? := fun off => cell_set
      have t5 := t4.keep0 f5
      obtain ⟨bo, qo, m1, m2⟩ := (r.fr (f4.trans f5)).at (i := i) (x := .int .i64 a) (by omega) (by rw [hol]; exact q1) (by rw [Int.toNat_natCast]; unfold nc; rw [List.getElem?_map, p2]; rfl)
      have en : IntKind.i64.wrap ((i : Int) + 1) = ((i + 1 : Nat) : Int) := by rw [i64_id (by omega) (by omega)]; rfl
      simp only [go_sem, reduceIte, Nat.reduceAdd, Nat.reduceSub, Nat.reduceMul, Nat.reducePow, Nat.reduceLT, Nat.reduceLeDiff, Nat.reduceEqDiff, Int.reduceAdd, Int.reduceSub, Int.reduceMul, Int.reduceNeg, Int.reducePow, Int.reduceLT, Int.reduceLE, Int.reduceEq, Int.reduceNe, Int.reduceToNat, Int.toNat_natCast, Nat.zero_add, Nat.add_zero, Nat.mul_one, Nat.one_mul, Bool.not_true, Bool.not_false, ne_eq, not_true_eq_false, not_false_eq_true, Bool.false_eq_true, stA_p, ec, el, agg5_write hw, cd, p3, len_a t5.hh A, shape_a t5.hh A, p5, m1, m2, p4.1, p4.2.1, en]
      exact ⟨l.length + 1 - (i + 1), by omega, i + 1, rfl, by omega, f4.trans f5, rfl⟩
    · simp only [go_sem, reduceIte, Nat.reduceAdd, Nat.reduceSub, Nat.reduceMul, Nat.reducePow, Nat.reduceLT, Nat.reduceLeDiff, Nat.reduceEqDiff, Int.reduceAdd, Int.reduceSub, Int.reduceMul, Int.reduceNeg, Int.reducePow, Int.reduceLT, Int.reduceLE, Int.reduceEq, Int.reduceNe, Int.reduceToNat, Int.toNat_natCast, Nat.zero_add, Nat.add_zero, Nat.mul_one, Nat.one_mul, Bool.not_true, Bool.not_false, ne_eq, not_true_eq_false, not_false_eq_true, Bool.false_eq_true, q1]
      exact hJ h4 ((f2.trans f3).trans f4)
  · refine rrow_c t1 fun v h2 f2 o => ?_
    simp only [go_sem, reduceIte, Nat.reduceAdd, Nat.reduceSub, Nat.reduceMul, Nat.reducePow, Nat.reduceLT, Nat.reduceLeDiff, Nat.reduceEqDiff, Int.reduceAdd, Int.reduceSub, Int.reduceMul, Int.reduceNeg, Int.reducePow, Int.reduceLT, Int.reduceLE, Int.reduceEq, Int.reduceNe, Int.reduceToNat, Int.toNat_natCast, Nat.zero_add, Nat.add_zero, Nat.mul_one, Nat.one_mul, Bool.not_true, Bool.not_false, ne_eq, not_true_eq_false, not_false_eq_true, Bool.false_eq_true, o.row.len]
    refine loop_r (s.words.length + 1) (fun c ls h3 => ∃ i : Nat, ls = [.int .i64 i] ∧ i ≤ s.words.length ∧ h3 = h2 ∧ c = s.words.length + 1 - i) ⟨0, rfl, by omega, rfl, rfl⟩ ?_
    rintro c ls h3 ⟨i, rfl, hi, he, rfl⟩
    rw [he]
    by_cases q1 : (i : Int) < (s.words.length : Nat)
    · have hg : (wc s.words)[(i : Int).toNat]? = some (.int .u64 (s.wd i)) := by
        rw [wc_get]
        unfold Hs.wd
        rw [Int.toNat_natCast, List.getD_eq_getElem?_getD, List.getElem?_eq_getElem (by omega)]
        rfl
      obtain ⟨bo, qo, m1, m2⟩ := o.row.at (i := i) (by omega) q1 hg
      have c1 : ¬ ((i : Int) < 0 ∨ (s.words.length : Int) ≤ i) := by omega
      have en : IntKind.i64.wrap ((i : Int) + 1) = ((i + 1 : Nat) : Int) := by rw [i64_id (by omega) (by omega)]; rfl
      simp only [go_sem, reduceIte, Nat.reduceAdd, Nat.reduceSub, Nat.reduceMul, Nat.reducePow, Nat.reduceLT, Nat.reduceLeDiff, Nat.reduceEqDiff, Int.reduceAdd, Int.reduceSub, Int.reduceMul, Int.reduceNeg, Int.reducePow, Int.reduceLT, Int.reduceLE, Int.reduceEq, Int.reduceNe, Int.reduceToNat, Int.toNat_natCast, Nat.zero_add, Nat.add_zero, Nat.mul_one, Nat.one_mul, Bool.not_true, Bool.not_false, ne_eq, not_true_eq_false, not_false_eq_true, Bool.false_eq_true, q1, m1, m2, load_c (t1.keep0 f2).hh, c1, en]
      exact ⟨s.words.length + 1 - (i + 1), by omega, i + 1, rfl, by omega, rfl⟩
    · simp only [go_sem, reduceIte, Nat.reduceAdd, Nat.reduceSub, Nat.reduceMul, Nat.reducePow, Nat.reduceLT, Nat.reduceLeDiff, Nat.reduceEqDiff, Int.reduceAdd, Int.reduceSub, Int.reduceMul, Int.reduceNeg, Int.reducePow, Int.reduceLT, Int.reduceLE, Int.reduceEq, Int.reduceNe, Int.reduceToNat, Int.toNat_natCast, Nat.zero_add, Nat.add_zero, Nat.mul_one, Nat.one_mul, Bool.not_true, Bool.not_false, ne_eq, not_true_eq_false, not_false_eq_true, Bool.false_eq_true, q1]
      exact hJ h2 (f1.trans f2)
end
end Go.Proofs.Ytljkkfcokpimkaa.X
set_option linter.unusedVariables false
set_option linter.unusedSimpArgs false
set_option maxRecDepth 20000
namespace Go.Proofs.Ytljkkfcokpimkaa.X
open Go Go.RowKit
theorem parse_go {lays : List (Int × Int)} (hl : lays.length ≤ 512) {ws : List Int} {top : Nat} : ∀ (post acc : List Ob) (r : List Int) (k : Nat), ws = rowOf (acc ++ post) ++ r → (rowOf (acc ++ post)).length ≤ top → (∀ o ∈ post, needN lays o.sh o.n = ((o.row.length : Int), 0)) → top + 1 ≤ k + (rowOf acc).length →
    ∃ k', parse lays ws top k acc = parse lays ws top k' (acc ++ post) ∧ top + 1 ≤ k' + (rowOf (acc ++ post)).length
  | [], acc, r, k, _, _, _, hk => ⟨k, by rw [List.append_nil], by rw [List.append_nil]; exact hk⟩
  | o :: post, acc, r, k, hw, ht, he, hk => by
    have hp := row_pos o
    have hlen : (rowOf (acc ++ o :: post)).length = (rowOf acc).length + o.row.length + (rowOf post).length := by rw [rowOf_append, rowOf_cons]; simp; omega
    obtain ⟨k, rfl⟩ : ∃ k', k = k' + 1 := ⟨k - 1, by omega⟩
    have hr : o.row = headN o.sh o.n :: o.body := rfl
    have hw2 : ws = rowOf acc ++ (headN o.sh o.n :: (o.body ++ (rowOf post ++ r))) := by rw [hw, rowOf_append, rowOf_cons, hr]; simp
    have hwd : wdL ws (rowOf acc).length = headN o.sh o.n := by
      unfold wdL
      rw [hw2, List.getD_eq_getElem?_getD, List.getElem?_append_right (Nat.le_refl _), Nat.sub_self]; rfl
    have ho := he o (by simp)
    obtain ⟨p1, p2, p3, p4, p5, p6⟩ := need_pos (lays := lays) (i := o.sh) (n := o.n) (by rw [ho])
    have e1 : shapeOf (wdL ws (rowOf acc).length) = o.sh := by rw [hwd, headN_shape (by omega) (by omega)]
    have e2 : lenOf (wdL ws (rowOf acc).length) = o.n := by rw [hwd, headN_len (by omega) (by omega)]
    have eN : needL lays ws (rowOf acc).length = ((o.row.length : Int), 0) := by unfold needL; rw [e1, e2, ho]
    have eO : obL lays ws (rowOf acc).length = o := by
      unfold obL
      rw [e1, e2, eN]
      have : (ws.drop ((rowOf acc).length + 1)).take (((o.row.length : Int)).toNat - 1) = o.body := by
        rw [hw2, ← List.drop_drop, List.drop_left]
        simp only [List.drop_succ_cons, List.drop_zero, Int.toNat_natCast, hr, List.length_cons, Nat.add_sub_cancel]
        rw [List.take_left]
      rw [this]
    have nb : ¬ badL lays ws top (rowOf acc).length := by
      unfold badL
      rw [eN, e1, e2, hwd]
      simp only [ne_eq, not_true_eq_false, false_or]
      omega
    have ha : (rowOf (acc ++ [o])).length = (rowOf acc).length + o.row.length := by rw [rowOf_append]; simp [rowOf]
    have hc : acc ++ o :: post = acc ++ [o] ++ post := by simp
    obtain ⟨k', q1, q2⟩ := parse_go (ws := ws) hl post (acc ++ [o]) r k (by rw [← hc, hw]) (by rw [← hc]; exact ht) (fun o' h' => he o' (by simp [h'])) (by omega)
    refine ⟨k', ?_, by rw [hc]; exact q2⟩
    rw [parse, if_pos (by omega), if_neg nb, eO, q1, ← hc]
theorem parse_all {s : Hs} {os : List Ob} (A : Abs s os) : parse s.lays s.words s.top (s.top + 1) [] = some os := by
  obtain ⟨k, h1, h2⟩ := parse_go (ws := s.words) (top := s.top) A.good.llen os [] _ (s.top + 1) (by rw [List.nil_append]; exact A.words) (by rw [List.nil_append, A.top]; exact Nat.le_refl _) A.each (by omega)
  rw [List.nil_append] at h1 h2
  rw [← A.top] at h2
  obtain ⟨k, rfl⟩ : ∃ k', k = k' + 1 := ⟨k - 1, by omega⟩
  rw [h1, parse, if_neg (by rw [A.top]; omega)]
theorem close_none {lays : List (Int × Int)} {ws : List Int} {n : Nat} (h : parse lays ws n (n + 1) [] = none) : closeO lays ws n = none := by
  unfold closeO
  split
  · rfl
  · rw [Int.toNat_natCast, h]
theorem tail_zero {W : Int} (h0 : 0 ≤ W) (h1 : W < 18446744073709551616) {m : Nat} (hm : m ≤ 8) (hz : ∀ k, m ≤ k → k < 8 → byteW W k = 0) : W / 2 ^ (8 * m) = 0 := by
  have : ∀ j, j + m ≤ 8 → W / 2 ^ (8 * (8 - j)) = 0 := by
    intro j
    induction j with
    | zero => intro _; exact Int.ediv_eq_zero_of_lt h0 (by simpa using h1)
    | succ j ih =>
      intro hj
      have := pow8_step W (8 - (j + 1))
      rw [show 8 - (j + 1) + 1 = 8 - j by omega, ih (by omega), hz _ (by omega) (by omega)] at this
      rw [← this]; rfl
  have := this (8 - m) (by omega)
  rwa [show 8 - (8 - m) = m by omega] at this
section
variable {h0 h : H} {b bw bd bx : Nat} {B BL : List Nat} {s : Hs} {os : List Ob} {l : List RV}
theorem Both.whole (t : Both h0 h b bw bd B s os bx BL l) : wholeO s.lays os = true := by
  unfold wholeO
  rw [List.all_eq_true]
  intro o ho
  obtain ⟨i, hi⟩ := List.getElem?_of_mem ho
  have hil : i < l.length := by rw [← t.r.len]; exact (List.getElem?_eq_some_iff.1 hi).1
  obtain ⟨x, hx⟩ : ∃ x, l[i]? = some x := ⟨l[i], by simp [hil]⟩
  obtain ⟨o', a, p1, p2, p3, p4, p5⟩ := t.r.get i x hx
  rw [hi] at p1; injection p1 with p1; subst p1
  have p5 : findO os a = some o := by simpa using p5
  unfold okO
  split
  · rename_i k
    obtain ⟨q1, q2, q3⟩ := p4
    rw [if_pos k] at q3
    obtain ⟨_, q3, q4⟩ := q3
    obtain ⟨bw', y1, y2, y3, y4, y5⟩ := RelO.row t.A p5 ⟨q1, q2, by rw [if_pos k]; exact ⟨by assumption, q3, q4⟩⟩
    have hb : bw' = o.body := by
      rename_i hfs
      rw [hfs] at y1
      have : o.row = headN o.sh o.n :: o.body := rfl
      rw [this] at y1; injection y1 with _ y1; exact y1.symm
    subst hb
    unfold tailO
    by_cases z : o.n % 8 = 0
    · simp [z]
    · have hl := q4.1
      have hj : (o.n / 8).toNat < o.body.length := by omega
      obtain ⟨W, hW⟩ : ∃ W, o.body[(o.n / 8).toNat]? = some W := ⟨o.body[(o.n / 8).toNat], by simp [hj]⟩
      have hWr := y3 W (List.mem_of_getElem? hW)
      have : W / 2 ^ (8 * (o.n % 8).toNat) = 0 := by
        refine tail_zero hWr.1 hWr.2 (by omega) fun k k1 k2 => ?_
        have := q4.2 (8 * (o.n / 8).toNat + k) (by omega)
        rw [show (8 * (o.n / 8).toNat + k) / 8 = (o.n / 8).toNat by omega, show (8 * (o.n / 8).toNat + k) % 8 = k by omega, List.getD_eq_getElem?_getD, hW] at this
        rw [List.getD_eq_getElem?_getD, List.getElem?_eq_none (by omega)] at this
        exact this
      rw [List.getD_eq_getElem?_getD, hW]
      simp only [Option.getD_some, this, decide_true, Bool.or_true]
  · rename_i k
    rw [List.all_eq_true]
    exact t.fit o ho k
theorem Both.closeO (t : Both h0 h b bw bd B s os bx BL l) : closeO s.lays s.words s.top = some os := by
  unfold Go.Proofs.Ytljkkfcokpimkaa.X.closeO
  have := t.A.good.top
  rw [if_neg (by omega), Int.toNat_natCast, parse_all t.A]
  simp only [t.whole, if_true]
end
end Go.Proofs.Ytljkkfcokpimkaa.X
set_option linter.unusedVariables false
set_option linter.unusedSimpArgs false
set_option maxRecDepth 20000
namespace Go.Proofs.Ytljkkfcokpimkaa.X
open Go Go.RowKit
section
variable {h0 h : H} {bx : Nat} {words : Int} {lays : List (Int × Int)} {BL : List Nat} {l : List RV}
theorem push_c {h1 h' : H} (R1 : RefAt h0 h1 bx words lays BL l) (hl : l.length ≤ 65536) (f' : Fr [] h1 h') {fv bv : AV} {r : RO} (of : Own h1 h' 25 1 fv r.fs.length (wc r.fs)) (ob : Own h1 h' 5 1 bv r.bs.length (bc r.bs)) {Lv2 : AV} (hc2 : h'.cell bx 2 = some Lv2) {K : AV → H → Prop}
    (hK : ∀ v h3 h4 BL' x, stA h3 1 (.ptr bx 2) v = some h4 → RefAt h0 h4 bx words lays BL' (l ++ [x]) → x.r = r → h4.cell bx 1 = h'.cell bx 1 → K v h3) :
    mkslA h' 89 1 (some [AV.int .i64 r.a, .int .i64 r.sh, .int .i64 r.n, fv, bv]) (fun t h => appendA h 89 5 72 Lv2 t K) := by
  have R2 := R1.keep0 f'
  obtain ⟨lv2, Lv2', s1, s2, s3⟩ := R2.st
  obtain rfl : Lv2' = Lv2 := by rw [cell_of s1 2] at hc2; injection hc2
  have hleaf : fv.leaf = true ∧ fv.cells = [fv] := of.row.one
  have bleaf : bv.leaf = true ∧ bv.cells = [bv] := ob.row.one
  have elv : leaves [AV.int .i64 r.a, .int .i64 r.sh, .int .i64 r.n, fv, bv] = true := by simp only [leaves, hleaf.1, bleaf.1]; rfl
  have hown : Own h0 h' 89 5 Lv2' l.length (cellsR l) := by
    refine ⟨s3.1, ?_⟩
    rcases s3.2 with ⟨z1, z2, _⟩ | ⟨bL, z1, z2, z3⟩
    · exact .inl ⟨z1, z2⟩
    · exact .inr ⟨bL, z1, R1.new bL (by simp [blocksR, z2]), z3⟩
  refine append_one' (h0 := h0) hown rfl (by decide) ?_ elv R2.fr ?_ fun v3 h3 o3 f3 k3 w3 => ?_
  · have : ∀ l : List RV, (∀ x ∈ l, x.ok h') → leaves (cellsR l) = true := by
      intro l
      induction l with
      | nil => intro _; rfl
      | cons x l ih =>
        intro hx
        have e : cellsR (x :: l) = x.cells ++ cellsR l := by simp [cellsR]
        rw [e, leaves_append, RV.leaves (hx x (by simp)), ih fun y hy => hx y (by simp [hy])]; rfl
    exact this l R2.el
  · unfold most; omega
  · have hLne : ∀ c, (∀ n' p, Lv2' ≠ .sl c 0 n' p) ↔ c ∉ BL := fun c => by
      rcases s3.2 with ⟨_, z2, z3⟩ | ⟨bL, z1, z2, _⟩
      · rw [z2, z3]; simp
      · rw [z1, z2]
        constructor
        · intro q hc; simp at hc; subst hc; exact q _ _ rfl
        · intro hc n' p q; injection q with q _; exact hc (by simp [q])
    have hnd := R1.nd
    unfold blocksR at hnd
    rw [List.nodup_cons, List.nodup_append] at hnd
    have gx3 := k3 bx _ s1 ((hLne bx).2 fun q => hnd.1 (by simp [q]))
    have v3l := o3.row.one
    have st3 := st_val gx3 (off := 2) (by simp) v3l.1 v3l.2
    obtain ⟨b3, y1, y2⟩ := w3
    subst y1
    have y3 : h3.get b3 = some (.live (cellsR l ++ [AV.int .i64 r.a, .int .i64 r.sh, .int .i64 r.n, fv, bv]) 89 true) := by
      rcases o3.2 with ⟨z, _⟩ | ⟨b', z1, _, z3⟩
      · omega
      · injection z1 with z1 _; rw [z1]; exact z3
    obtain ⟨Bf, sf, hBf, ndf⟩ := of.slv
    obtain ⟨Bb, sb, hBb, ndb⟩ := ob.slv
    have al1 := R1.alive
    have al2 := R2.alive
    have nf : ∀ c ∈ Bf, c ∉ blocksR bx BL l := fun c hc q => al1 c q (hBf c hc).1
    have nb : ∀ c ∈ Bb, c ∉ blocksR bx BL l := fun c hc q => al1 c q (hBb c hc).1
    have nfb : ∀ c ∈ Bf, c ∉ Bb := fun c hc q => by
      have e1 := (hBf c hc).2; have e2 := (hBb c q).2
      rw [e1] at e2; injection e2 with e2; injection e2 with _ e2 _; cases e2
    have n3 : ∀ c o, h'.get c = some o → c ≠ b3 := fun c o hc e => by rw [e, y2] at hc; cases hc
    have hget : ∀ c o, c ≠ bx → c ∉ BL → h'.get c = some o → (h3.set bx (.live ([AV.int .i64 words, lv2, Lv2'].set 2 (.sl b3 0 (l.length + 1) (.more 5))) 56 true)).get c = some o := fun c o h1' h2' hc => by
      rw [H.get_other _ _ h1']
      exact k3 c o hc ((hLne c).2 h2')
    have inL : ∀ x ∈ l, ∀ c ∈ x.blocks, c ≠ bx ∧ c ∉ BL ∧ c ∈ blocksR bx BL l := fun x hx c hc => by
      have hm : c ∈ l.flatMap RV.blocks := List.mem_flatMap.2 ⟨x, hx, hc⟩
      refine ⟨fun e => hnd.1 (by rw [← e]; exact List.mem_append_right _ hm), fun q => hnd.2.2.2 c q c hm rfl, ?_⟩
      simp only [blocksR, List.mem_cons, List.mem_append]
      exact .inr (.inr hm)
    have sl' : ∀ {ty esz v B n cs}, SlV h' ty esz v B n cs → (∀ c ∈ B, c ≠ bx ∧ c ∉ BL) → SlV (h3.set bx (.live ([AV.int .i64 words, lv2, Lv2'].set 2 (.sl b3 0 (l.length + 1) (.more 5))) 56 true)) ty esz v B n cs := fun o hB => by
      refine ⟨o.1, ?_⟩
      rcases o.2 with q | ⟨b', q1, q2, q3⟩
      · exact .inl q
      · exact .inr ⟨b', q1, q2, hget b' _ (hB b' (by simp [q2])).1 (hB b' (by simp [q2])).2 q3⟩
    have out : ∀ {B : List Nat}, (∀ c ∈ B, c ∉ blocksR bx BL l) → ∀ c ∈ B, c ≠ bx ∧ c ∉ BL := fun hB c hc => ⟨fun e => hB c hc (by simp [blocksR, e]), fun q => hB c hc (by simp [blocksR, q])⟩
    refine hK _ h3 _ [b3] ⟨r, fv, bv, Bf, Bb⟩ st3 ⟨f3.set' (R1.new bx (by simp [blocksR])), ⟨lv2, .sl b3 0 (l.length + 1) (.more 5), by rw [H.get_same]; rfl, s2, ?_⟩, ?_, ?_, ?_⟩ rfl (by rw [cell_set, cell_of s1 1]; rfl)
    · have ec : cellsR (l ++ [⟨r, fv, bv, Bf, Bb⟩]) = cellsR l ++ [AV.int .i64 r.a, .int .i64 r.sh, .int .i64 r.n, fv, bv] := by simp [cellsR, RV.cells]
      refine ⟨by rw [cellsR_length], .inr ⟨b3, by simp, rfl, ?_⟩⟩
      rw [H.get_other _ _ (fun e => n3 bx _ s1 e.symm), ec]
      exact y3
    · intro x hx
      rcases List.mem_append.1 hx with hx | hx
      · have hok := R2.el x hx
        exact ⟨sl' hok.1 fun c hc => by have := inL x hx c (by simp [RV.blocks, hc]); exact ⟨this.1, this.2.1⟩, sl' hok.2 fun c hc => by have := inL x hx c (by simp [RV.blocks, hc]); exact ⟨this.1, this.2.1⟩⟩
      · simp only [List.mem_singleton] at hx
        subst hx
        exact ⟨sl' sf (out nf), sl' sb (out nb)⟩
    · have hb3 : ∀ c ∈ blocksR bx BL l, c ≠ b3 := fun c hc => by
        obtain ⟨o, ho⟩ := Option.ne_none_iff_exists'.1 (al2 c hc)
        exact n3 c o ho
      have hb3f : b3 ∉ Bf := fun q => n3 b3 _ (hBf b3 q).2 rfl
      have hb3b : b3 ∉ Bb := fun q => n3 b3 _ (hBb b3 q).2 rfl
      have hflat : (l ++ [(⟨r, fv, bv, Bf, Bb⟩ : RV)]).flatMap RV.blocks = l.flatMap RV.blocks ++ (Bf ++ Bb) := by simp [RV.blocks]
      unfold blocksR
      rw [hflat, List.nodup_cons, List.nodup_append, List.nodup_append, List.nodup_append]
      have inF : ∀ c ∈ l.flatMap RV.blocks, c ∈ blocksR bx BL l := fun c hc => by simp only [blocksR, List.mem_cons, List.mem_append]; exact .inr (.inr hc)
      refine ⟨?_, by simp, ⟨hnd.2.2.1, ⟨ndf, ndb, fun x hx y hy e => nfb x hx (by rw [e]; exact hy)⟩, ?_⟩, ?_⟩
      · intro q
        simp only [List.mem_append, List.mem_singleton] at q
        rcases q with q | q | q | q
        · exact n3 bx _ s1 q
        · exact hnd.1 (List.mem_append_right _ q)
        · exact nf bx q (by simp [blocksR])
        · exact nb bx q (by simp [blocksR])
      · intro x hx y hy e
        subst e
        rcases List.mem_append.1 hy with hy | hy
        · exact nf x hy (inF x hx)
        · exact nb x hy (inF x hx)
      · intro x hx y hy e
        simp only [List.mem_singleton] at hx
        subst hx; subst e
        rcases List.mem_append.1 hy with hy | hy
        · exact hb3 x (inF x hy) rfl
        · rcases List.mem_append.1 hy with hy | hy
          · exact hb3f hy
          · exact hb3b hy
    · intro c hc
      simp only [blocksR, List.mem_cons, List.mem_append, List.flatMap_append, List.flatMap_cons, List.flatMap_nil, List.append_nil, List.not_mem_nil, or_false, RV.blocks] at hc
      rcases hc with rfl | rfl | hc | hc | hc
      · exact R1.new _ (by simp [blocksR])
      · exact R2.fr.free y2
      · exact R1.new c (by simp only [blocksR, List.mem_cons, List.mem_append]; exact .inr (.inr hc))
      · exact R1.fr.free (hBf c hc).1
      · exact R1.fr.free (hBb c hc).1
end
theorem cell_fr {h h' : H} (f : Fr [] h h') {b o : Nat} {x : AV} (hx : h.cell b o = some x) : h'.cell b o = some x := by
  unfold H.cell at hx ⊢
  cases hg : h.get b with
  | none => rw [hg] at hx; cases hx
  | some ob => rw [f b ob (by simp) hg]; rw [hg] at hx; exact hx
theorem rlast_c {h : H} {p fv bv : AV} {a sh : Int} {bs : List Nat} (hb : Row h bv bs.length 1 (bc bs)) (hf : fv.leaf = true) (hbl : bs.length ≤ 65536) {j m : Nat} (hn : bs.length = 8 * j + m) (hm : m < 8) {X : Int} (x0 : 0 ≤ X) (x1 : X < 2 ^ (8 * m)) (hby : ∀ k, k < m → byteW X k = ((bs.getD (8 * j + k) 0 : Nat) : Int))
    {K : AV → H → Prop} (hK : ∀ h', Fr [] h h' → K (.int .u64 X) h') : C 105 [p, .agg [.int .i64 a, .int .i64 sh, .int .i64 bs.length, fv, bv]] h K := by
  refine run105 ?_
  have elv : leaves [AV.int .i64 a, .int .i64 sh, .int .i64 bs.length, fv, bv] = true := by simp only [leaves, hf, hb.one.1]; rfl
  have ec : (AV.agg [AV.int .i64 a, .int .i64 sh, .int .i64 bs.length, fv, bv]).cells = [AV.int .i64 a, .int .i64 sh, .int .i64 bs.length, fv, bv] := rfl
  have x64 : X < 18446744073709551616 := by
    have : (2 : Int) ^ (8 * m) ≤ 2 ^ 64 := by exact_mod_cast Nat.pow_le_pow_right (by decide) (show 8 * m ≤ 64 by omega)
    simp only [Int.reducePow] at this
    omega
  simp only [sh105, ec]
  refine ⟨elv, fun d hd => ?_⟩
  have f1 : Fr [] h (h.set d (.live [AV.int .i64 a, .int .i64 sh, .int .i64 bs.length, fv, bv] 89 true)) := (Fr.refl _ _).set' hd
  have cd : ∀ off, (h.set d (.live [AV.int .i64 a, .int .i64 sh, .int .i64 bs.length, fv, bv] 89 true)).cell d off = [AV.int .i64 a, .int .i64 sh, .int .i64 bs.length, fv, bv][off]? := fun off => cell_set
  have hb1 := hb.fr f1
  generalize h.set d (.live [AV.int .i64 a, .int .i64 sh, .int .i64 bs.length, fv, bv] 89 true) = h1 at *
  refine join_r (fun (J : AV → H → Prop) => J (.int .u64 X) h1) (hK h1 f1) fun J hJ => ?_
  have e1 : IntKind.i64.wrap ((bs.length : Int) - 1) = (bs.length : Int) - 1 := i64_id (by omega) (by omega)
  have e2 : (bs.length : Int).tmod 8 = m := by rw [Int.tmod_eq_emod_of_nonneg (by omega)]; omega
  have e3 : IntKind.i64.wrap ((bs.length : Int) - m) = ((8 * j : Nat) : Int) := by rw [i64_id (by omega) (by omega)]; omega
  simp only [go_sem, reduceIte, Nat.reduceAdd, Nat.reduceSub, Nat.reduceMul, Nat.reducePow, Nat.reduceLT, Nat.reduceLeDiff, Nat.reduceEqDiff, Int.reduceAdd, Int.reduceSub, Int.reduceMul, Int.reduceNeg, Int.reducePow, Int.reduceLT, Int.reduceLE, Int.reduceEq, Int.reduceNe, Int.reduceToNat, Int.toNat_natCast, Nat.zero_add, Nat.add_zero, Nat.mul_one, Nat.one_mul, Bool.not_true, Bool.not_false, ne_eq, not_true_eq_false, not_false_eq_true, Bool.false_eq_true, cd, e1]
  refine loop_r (m + 1) (fun c ls h2 => ∃ k : Nat, ls = [.int .u64 (X / 2 ^ (8 * k)), .int .i64 (((8 * j + k : Nat) : Int) - 1)] ∧ k ≤ m ∧ h2 = h1 ∧ c = k + 1) ⟨m, by rw [Int.ediv_eq_zero_of_lt x0 x1, hn], by omega, rfl, rfl⟩ ?_
  rintro c ls h2 ⟨k, rfl, hk, he, rfl⟩
  rw [he]
  cases k with
  | zero =>
    have q : ¬ ((8 * j : Nat) : Int) ≤ ((8 * j : Nat) : Int) - 1 := by omega
    simp only [go_sem, reduceIte, Nat.reduceAdd, Nat.reduceSub, Nat.reduceMul, Nat.reducePow, Nat.reduceLT, Nat.reduceLeDiff, Nat.reduceEqDiff, Int.reduceAdd, Int.reduceSub, Int.reduceMul, Int.reduceNeg, Int.reducePow, Int.reduceLT, Int.reduceLE, Int.reduceEq, Int.reduceNe, Int.reduceToNat, Int.toNat_natCast, Nat.zero_add, Nat.add_zero, Nat.mul_one, Nat.one_mul, Bool.not_true, Bool.not_false, ne_eq, not_true_eq_false, not_false_eq_true, Bool.false_eq_true, cd, e2, e3, q, Int.ediv_one]
    simpa using hJ
  | succ k =>
    have q : ((8 * j : Nat) : Int) ≤ ((8 * j + (k + 1) : Nat) : Int) - 1 := by omega
    have hs := pow8_step X k
    have hbk := hby k (by omega)
    have hr0 := div_pow_range (8 * k) x0 x64
    have hr8 := div_pow_range (8 * (k + 1)) x0 x64
    have br := byteW_range X k
    have w1 : IntKind.u64.wrap (X / 2 ^ (8 * (k + 1)) * 256) = X / 2 ^ (8 * (k + 1)) * 256 := u64_id (by omega) (by omega)
    have ei : ((8 * j + (k + 1) : Nat) : Int) - 1 = ((8 * j + k : Nat) : Int) := by omega
    have w3 : IntKind.i64.wrap (((8 * j + k : Nat) : Int) - 1) = ((8 * j + k : Nat) : Int) - 1 := i64_id (by omega) (by omega)
    have hg : (bc bs)[(((8 * j + k : Nat) : Int)).toNat]? = some (.int .u8 ((bs.getD (8 * j + k) 0 : Nat) : Int)) := by
      unfold bc
      rw [Int.toNat_natCast, List.getElem?_map, List.getD_eq_getElem?_getD, List.getElem?_eq_getElem (by omega)]
      rfl
    obtain ⟨bb, qb, m1, m2⟩ := hb1.at (i := ((8 * j + k : Nat) : Int)) (by omega) (by omega) hg
    have w4 : IntKind.u64.wrap ((bs.getD (8 * j + k) 0 : Nat) : Int) = ((bs.getD (8 * j + k) 0 : Nat) : Int) := u64_id (by omega) (by omega)
    have w5 : IntKind.u64.wrap (X / 2 ^ (8 * (k + 1)) * 256 + ((bs.getD (8 * j + k) 0 : Nat) : Int)) = X / 2 ^ (8 * k) := by rw [← hbk, hs]; exact u64_id hr0.1 (by omega)
    rw [ei] at q ⊢
    simp only [go_sem, reduceIte, Nat.reduceAdd, Nat.reduceSub, Nat.reduceMul, Nat.reducePow, Nat.reduceLT, Nat.reduceLeDiff, Nat.reduceEqDiff, Int.reduceAdd, Int.reduceSub, Int.reduceMul, Int.reduceNeg, Int.reducePow, Int.reduceLT, Int.reduceLE, Int.reduceEq, Int.reduceNe, Int.reduceToNat, Int.toNat_natCast, Nat.zero_add, Nat.add_zero, Nat.mul_one, Nat.one_mul, Bool.not_true, Bool.not_false, ne_eq, not_true_eq_false, not_false_eq_true, Bool.false_eq_true, cd, e2, e3, q, w1, m1, m2, w4, w5, w3]
    exact ⟨k + 1, by omega, k, rfl, by omega, rfl⟩
end Go.Proofs.Ytljkkfcokpimkaa.X
set_option linter.unusedVariables false
set_option linter.unusedSimpArgs false
set_option maxRecDepth 20000
namespace Go.Proofs.Ytljkkfcokpimkaa.X
open Go Go.RowKit
def bytesN (ws : List Int) (a n : Nat) : List Nat := (List.range n).map fun i => (byteW (wdL ws (a + 1 + i / 8)) (i % 8)).toNat
theorem bytesN_length (ws : List Int) (a n : Nat) : (bytesN ws a n).length = n := by simp [bytesN]
theorem bytesN_succ (ws : List Int) (a n : Nat) : bytesN ws a (n + 1) = bytesN ws a n ++ [(byteW (wdL ws (a + 1 + n / 8)) (n % 8)).toNat] := by simp [bytesN, List.range_succ]
theorem bytesN_get (ws : List Int) (a : Nat) {n i : Nat} (hi : i < n) : (((bytesN ws a n).getD i 0 : Nat) : Int) = byteW (wdL ws (a + 1 + i / 8)) (i % 8) := by
  have := byteW_range (wdL ws (a + 1 + i / 8)) (i % 8)
  simp only [bytesN, List.getD_eq_getElem?_getD, List.getElem?_map, List.getElem?_range hi, Option.map_some, Option.getD_some]
  omega
theorem parse_mem {lays : List (Int × Int)} {ws : List Int} {top : Nat} : ∀ (k : Nat) (acc os : List Ob), parse lays ws top k acc = some os → ∀ o ∈ acc, o ∈ os
  | 0, _, _, h, _, _ => by cases h
  | k + 1, acc, os, h, o, ho => by
    rw [parse] at h
    split at h
    · split at h
      · cases h
      · exact parse_mem k _ os h o (by simp [ho])
    · injection h with h; subst h; exact ho
theorem byteW_mod (W : Int) {m k : Nat} (hm : m < 8) (hk : k < m) : byteW (W % 2 ^ (8 * m)) k = byteW W k := by
  unfold byteW
  have h1 : m = 1 ∨ m = 2 ∨ m = 3 ∨ m = 4 ∨ m = 5 ∨ m = 6 ∨ m = 7 := by omega
  have h2 : k = 0 ∨ k = 1 ∨ k = 2 ∨ k = 3 ∨ k = 4 ∨ k = 5 ∨ k = 6 := by omega
  rcases h1 with rfl | rfl | rfl | rfl | rfl | rfl | rfl <;> rcases h2 with rfl | rfl | rfl | rfl | rfl | rfl | rfl <;> first | (exfalso; omega) | (simp only [Nat.reduceMul, Int.reducePow]; omega)
theorem mod_same {W : Int} (m : Nat) : W = W % 2 ^ (8 * m) ↔ W / 2 ^ (8 * m) = 0 := by
  have hp : (0 : Int) < 2 ^ (8 * m) := Int.pow_pos (by decide)
  have := Int.mul_ediv_add_emod W (2 ^ (8 * m))
  constructor
  · intro h
    have h0 : (2 : Int) ^ (8 * m) * (W / 2 ^ (8 * m)) = 0 := by omega
    rcases Int.mul_eq_zero.1 h0 with q | q
    · omega
    · exact q
  · intro h
    rw [h] at this
    simpa using this.symm
theorem div_up {W : Int} {m k : Nat} (h : W / 2 ^ (8 * m) = 0) (hk : m ≤ k) : byteW W k = 0 := by
  have : W / 2 ^ (8 * k) = 0 := by
    have e : (2 : Int) ^ (8 * k) = 2 ^ (8 * m) * 2 ^ (8 * (k - m)) := by rw [← Int.pow_add]; congr 1; omega
    rw [e, ← Int.ediv_ediv_of_nonneg (Int.pow_nonneg (by decide)), h, Int.zero_ediv]
  unfold byteW
  rw [this]; rfl
theorem wdL_range {ws : List Int} (h : ∀ w ∈ ws, 0 ≤ w ∧ w < 18446744073709551616) (a : Nat) : 0 ≤ wdL ws a ∧ wdL ws a < 18446744073709551616 := getD_range h a
theorem obL_body (lays : List (Int × Int)) (ws : List Int) (a j : Nat) (hj : j < (obL lays ws a).body.length) : (obL lays ws a).body.getD j 0 = wdL ws (a + 1 + j) := by
  simp only [obL] at hj ⊢
  unfold wdL
  rw [List.getD_eq_getElem?_getD, List.getD_eq_getElem?_getD, List.getElem?_take, List.getElem?_drop]
  rw [List.length_take] at hj
  rw [if_pos (by omega)]
/-- What is read is the object. -/
theorem obL_rel {lays : List (Int × Int)} {ws : List Int} {top a : Nat} (ht : top ≤ ws.length) (ha : a < top) (nb : ¬ badL lays ws top a) (htl : kindAt lays (obL lays ws a).sh = 3 → tailO (obL lays ws a) = true) :
    RelO lays (obL lays ws a) ⟨a, (obL lays ws a).sh, (obL lays ws a).n, if kindAt lays (obL lays ws a).sh = 3 then [] else (ws.drop (a + 1)).take (obL lays ws a).n.toNat, if kindAt lays (obL lays ws a).sh = 3 then bytesN ws a (obL lays ws a).n.toNat else []⟩ := by
  unfold badL at nb
  obtain ⟨h2, h2'⟩ := not_or.1 nb
  obtain ⟨h3, h4⟩ := not_or.1 h2'
  have he : (needL lays ws a).2 = 0 := by simpa using h2
  obtain ⟨p1, p2, p3, p4, p5, p6⟩ := need_pos he
  have esh : (obL lays ws a).sh = shapeOf (wdL ws a) := rfl
  have en : (obL lays ws a).n = lenOf (wdL ws a) := rfl
  have eb : (obL lays ws a).body = (ws.drop (a + 1)).take ((needL lays ws a).1.toNat - 1) := rfl
  have p6 : (needL lays ws a).1 = _ := p6
  have hbl : (obL lays ws a).body.length = (needL lays ws a).1.toNat - 1 := by rw [eb, List.length_take, List.length_drop]; omega
  refine ⟨rfl, rfl, ?_⟩
  rw [esh] at htl
  simp only [esh, en]
  by_cases k : kindAt lays (shapeOf (wdL ws a)) = 3
  · rw [if_pos k] at p6
    have htl := htl k
    simp only [k, if_true]
    refine ⟨trivial, by rw [bytesN_length]; omega, ?_, fun i hi => ?_⟩
    · rw [hbl, bytesN_length]; omega
    · have hj : i / 8 < (obL lays ws a).body.length := by omega
      rw [obL_body lays ws a _ hj]
      by_cases hn : i < (lenOf (wdL ws a)).toNat
      · rw [bytesN_get ws a hn]
      · rw [List.getD_eq_getElem?_getD, List.getElem?_eq_none (by rw [bytesN_length]; omega)]
        show byteW _ _ = 0
        unfold tailO at htl
        rw [en] at htl
        by_cases m : lenOf (wdL ws a) % 8 = 0
        · omega
        · rw [decide_eq_false m, Bool.false_or, decide_eq_true_eq] at htl
          have e1 : (lenOf (wdL ws a) / 8).toNat = i / 8 := by omega
          rw [e1, obL_body lays ws a _ hj] at htl
          exact div_up htl (by omega)
  · rw [if_neg k] at p6
    simp only [k, if_false]
    have : (needL lays ws a).1.toNat - 1 = (lenOf (wdL ws a)).toNat := by omega
    rw [this] at eb hbl
    refine ⟨eb.symm, trivial, ?_⟩
    rw [← eb, hbl]; omega
section
variable {h : H}
theorem field8 {w : Int} (h0 : 0 ≤ w) (h1 : w < 18446744073709551616) {k : Nat} (hk : k < 8) (K : AV → H → Prop) : C 34 [.int .u64 w, .int .i64 ((k : Int) * 8), .int .i64 8] h K = K (.int .u64 (byteW w k)) h := by
  rw [field_c h0 h1 (by omega) (by omega) (by decide) (by decide)]
  have : ((k : Int) * 8).toNat = 8 * k := by omega
  rw [this]; rfl
theorem shapeF {w : Int} (h0 : 0 ≤ w) (h1 : w < 18446744073709551616) (K : AV → H → Prop) : C 34 [.int .u64 w, .int .i64 1, .int .i64 20] h K = K (.int .u64 (shapeOf w)) h := by
  rw [field_c h0 h1 (by omega) (by omega) (by decide) (by decide)]; rfl
theorem lenF {w : Int} (h0 : 0 ≤ w) (h1 : w < 18446744073709551616) (K : AV → H → Prop) : C 34 [.int .u64 w, .int .i64 21, .int .i64 20] h K = K (.int .u64 (lenOf w)) h := by
  rw [field_c h0 h1 (by omega) (by omega) (by decide) (by decide)]; rfl
set_option maxHeartbeats 1000000 in
theorem rread_c {v lv : AV} {ws : List Int} {lays : List (Int × Int)} (hr : Row h v ws.length 1 (wc ws)) (hwr : ∀ w ∈ ws, 0 ≤ w ∧ w < 18446744073709551616) (hwl : ws.length ≤ 1000) (hl : Row h lv lays.length 2 (lc lays)) (hll : lays.length ≤ 512) (t : Int) {K : AV → H → Prop}
    (hno : closeO lays ws t = none → ∀ h', Fr [] h h' → K (.tup [.nilp, .bool false]) h')
    (hyes : ∀ os, closeO lays ws t = some os → ∀ h' bx BL l, RefAt h h' bx ws.length lays BL l → h'.cell bx 1 = some lv → Rel lays 0 os l → l.length ≤ 1000 → K (.tup [.ptr bx 0, .bool true]) h') : C 79 [v, .int .i64 t, lv] h K := by
  refine run79 ?_
  have ev : fillV [.int .i64 0, .nilsl, .nilsl] [(0, 1, .int .i64 ws.length), (1, 1, lv)] = some [.int .i64 ws.length, lv, .nilsl] := by
    rcases hl.2 with ⟨_, e⟩ | ⟨_, _, _, e, _⟩ <;> subst e <;> rfl
  have elv : leaves [.int .i64 ws.length, lv, .nilsl] = true := by simp only [leaves, hl.one.1]; rfl
  simp only [sh79, go_sem, reduceIte, Nat.reduceAdd, Nat.reduceSub, Nat.reduceMul, Nat.reducePow, Nat.reduceLT, Nat.reduceLeDiff, Nat.reduceEqDiff, Int.reduceAdd, Int.reduceSub, Int.reduceMul, Int.reduceNeg, Int.reducePow, Int.reduceLT, Int.reduceLE, Int.reduceEq, Int.reduceNe, Int.reduceToNat, Int.toNat_natCast, Nat.zero_add, Nat.add_zero, Nat.mul_one, Nat.one_mul, Bool.not_true, Bool.not_false, ne_eq, not_true_eq_false, not_false_eq_true, Bool.false_eq_true, hr.len, ev, AV.cells]
  refine ⟨elv, fun bx hbx => ?_⟩
  have f1 : Fr [] h (h.set bx (.live [.int .i64 ws.length, lv, .nilsl] 56 true)) := (Fr.refl _ _).set' hbx
  have R0 : RefAt h (h.set bx (.live [.int .i64 ws.length, lv, .nilsl] 56 true)) bx ws.length lays [] [] := by
    refine ⟨f1, ⟨lv, .nilsl, H.get_same .., hl, rfl, .inl ⟨rfl, rfl, rfl⟩⟩, by simp, by simp [blocksR], fun c hc => ?_⟩
    simp [blocksR] at hc; subst hc
    exact hbx
  have hcx0 : (h.set bx (.live [.int .i64 ws.length, lv, .nilsl] 56 true)).cell bx 1 = some lv := cell_set
  generalize h.set bx (.live [.int .i64 ws.length, lv, .nilsl] 56 true) = h1 at *
  by_cases c1 : t < 0
  · simp only [go_sem, reduceIte, Nat.reduceAdd, Nat.reduceSub, Nat.reduceMul, Nat.reducePow, Nat.reduceLT, Nat.reduceLeDiff, Nat.reduceEqDiff, Int.reduceAdd, Int.reduceSub, Int.reduceMul, Int.reduceNeg, Int.reducePow, Int.reduceLT, Int.reduceLE, Int.reduceEq, Int.reduceNe, Int.reduceToNat, Int.toNat_natCast, Nat.zero_add, Nat.add_zero, Nat.mul_one, Nat.one_mul, Bool.not_true, Bool.not_false, ne_eq, not_true_eq_false, not_false_eq_true, Bool.false_eq_true, c1]
    exact hno (by unfold closeO; rw [if_pos (.inl c1)]) h1 f1
  by_cases c2 : (ws.length : Int) < t
  · simp only [go_sem, reduceIte, Nat.reduceAdd, Nat.reduceSub, Nat.reduceMul, Nat.reducePow, Nat.reduceLT, Nat.reduceLeDiff, Nat.reduceEqDiff, Int.reduceAdd, Int.reduceSub, Int.reduceMul, Int.reduceNeg, Int.reducePow, Int.reduceLT, Int.reduceLE, Int.reduceEq, Int.reduceNe, Int.reduceToNat, Int.toNat_natCast, Nat.zero_add, Nat.add_zero, Nat.mul_one, Nat.one_mul, Bool.not_true, Bool.not_false, ne_eq, not_true_eq_false, not_false_eq_true, Bool.false_eq_true, c1, c2, hr.len]
    exact hno (by unfold closeO; rw [if_pos (.inr c2)]) h1 f1
  obtain ⟨n, rfl⟩ := Int.eq_ofNat_of_zero_le (show 0 ≤ t by omega)
  have hn : n ≤ ws.length := by omega
  have eN : parse lays ws n (n + 1) [] = none → closeO lays ws n = none := close_none
  have eS : ∀ os, parse lays ws n (n + 1) [] = some os → closeO lays ws n = if wholeO lays os = true then some os else none := fun os e => by
    unfold closeO; rw [if_neg (by omega), Int.toNat_natCast, e]
  simp only [go_sem, reduceIte, Nat.reduceAdd, Nat.reduceSub, Nat.reduceMul, Nat.reducePow, Nat.reduceLT, Nat.reduceLeDiff, Nat.reduceEqDiff, Int.reduceAdd, Int.reduceSub, Int.reduceMul, Int.reduceNeg, Int.reducePow, Int.reduceLT, Int.reduceLE, Int.reduceEq, Int.reduceNe, Int.reduceToNat, Int.toNat_natCast, Nat.zero_add, Nat.add_zero, Nat.mul_one, Nat.one_mul, Bool.not_true, Bool.not_false, ne_eq, not_true_eq_false, not_false_eq_true, Bool.false_eq_true, c1, c2, hr.len]
  refine join_r (fun (J : H → Prop) => ∀ h' os BL l, RefAt h h' bx ws.length lays BL l → h'.cell bx 1 = some lv → Rel lays 0 os l → parse lays ws n (n + 1) [] = some os → Got lays ws n os → (∀ o ∈ os, kindAt lays o.sh = 3 → tailO o = true) → J h') ?_ fun J hJ => ?_
  · intro h2 os BL l R hcx r ep gt htl
    have eS := eS os ep
    have hol := r.len
    have hln : l.length ≤ 1000 := by have := os_le os; have := gt.le; omega
    refine join_r (fun (J : H → Prop) => ∀ h', RefAt h h' bx ws.length lays BL l → Fr [] h2 h' → wholeO lays os = true → J h') (fun h' R' f' hw => hyes os (by rw [eS, if_pos hw]) h' bx BL l R' (cell_fr f' hcx) r hln) fun J hJ => ?_
    obtain ⟨lv2, Lv2, cx, rl, ov⟩ := R.cells
    simp only [go_sem, reduceIte, Nat.reduceAdd, Nat.reduceSub, Nat.reduceMul, Nat.reducePow, Nat.reduceLT, Nat.reduceLeDiff, Nat.reduceEqDiff, Int.reduceAdd, Int.reduceSub, Int.reduceMul, Int.reduceNeg, Int.reducePow, Int.reduceLT, Int.reduceLE, Int.reduceEq, Int.reduceNe, Int.reduceToNat, Int.toNat_natCast, Nat.zero_add, Nat.add_zero, Nat.mul_one, Nat.one_mul, Bool.not_true, Bool.not_false, ne_eq, not_true_eq_false, not_false_eq_true, Bool.false_eq_true, cx, ov.row.len]
    refine loop_r (l.length + 1) (fun c ls h3 => ∃ i : Nat, ls = [.int .i64 i] ∧ i ≤ l.length ∧ RefAt h h3 bx ws.length lays BL l ∧ Fr [] h2 h3 ∧ wholeO lays os = (os.drop i).all (okO lays os) ∧ c = l.length + 1 - i) ⟨0, rfl, by omega, R, Fr.refl _ _, rfl, rfl⟩ ?_
    rintro c ls h3 ⟨i, rfl, hi, R3, f3, hw, rfl⟩
    by_cases q1 : (i : Int) < l.length
    · have hi' : i < l.length := by omega
      obtain ⟨x, hx⟩ : ∃ x, l[i]? = some x := ⟨l[i], by simp [hi']⟩
      obtain ⟨o, a, p1, p2, p3, p4, p5⟩ := r.get i x hx
      have hio : i < os.length := by omega
      have hdrop : os.drop i = o :: os.drop (i + 1) := by
        rw [List.drop_eq_getElem_cons hio]; congr 1
        rw [List.getElem?_eq_getElem hio] at p1; injection p1
      rw [hdrop, List.all_cons] at hw
      have hmo : o ∈ os := List.mem_of_getElem? p1
      have hbw : ∀ w ∈ o.body, 0 ≤ w ∧ w < 18446744073709551616 := fun w hw => by
        have : w ∈ rowOf os := by
          unfold rowOf
          rw [List.mem_flatMap]
          exact ⟨o, hmo, by simp [Ob.row, hw]⟩
        rw [gt.row] at this
        exact hwr w (List.mem_of_mem_take this)
      have hok : okO lays os o = x.r.fs.all (fitsO os) ∧ (∀ w ∈ x.r.fs, 0 ≤ w ∧ w < 18446744073709551616) := by
        obtain ⟨z1, z2, z3⟩ := p4
        unfold okO
        by_cases k : kindAt lays o.sh = 3
        · rw [if_pos k] at z3 ⊢
          rw [z3.1, htl o hmo k]; exact ⟨rfl, by simp⟩
        · rw [if_neg k] at z3 ⊢
          rw [z3.1]; exact ⟨rfl, hbw⟩
      rw [hok.1] at hw
      have hfr := hok.2
      obtain ⟨b', q, y1, y2, y3⟩ := (ov.fr f3 (by simp)).obj hx
      simp only [joinA, go_sem, reduceIte, Nat.reduceAdd, Nat.reduceSub, Nat.reduceMul, Nat.reducePow, Nat.reduceLT, Nat.reduceLeDiff, Nat.reduceEqDiff, Int.reduceAdd, Int.reduceSub, Int.reduceMul, Int.reduceNeg, Int.reducePow, Int.reduceLT, Int.reduceLE, Int.reduceEq, Int.reduceNe, Int.reduceToNat, Int.toNat_natCast, Nat.zero_add, Nat.add_zero, Nat.mul_one, Nat.one_mul, Bool.not_true, Bool.not_false, ne_eq, not_true_eq_false, not_false_eq_true, Bool.false_eq_true, q1, y1, y3]
      refine ⟨rfl, fun d hd => ?_⟩
      have f4 : Fr [] h3 (h3.set d (.live x.cells 89 true)) := (Fr.refl _ _).set' hd
      have R4 := R3.keep0 f4
      have hxo := R3.el x (List.mem_of_getElem? hx)
      have hwv := RV.leaves hxo
      have ec : (AV.agg x.cells).cells = x.cells := rfl
      have el : x.cells.length = 5 := rfl
      have cd : ∀ off, (h3.set d (.live x.cells 89 true)).cell d off = [AV.int .i64 x.r.a, .int .i64 x.r.sh, .int .i64 x.r.n, x.fv, x.bv][off]? := fun off => cell_set
      simp only [go_sem, reduceIte, Nat.reduceAdd, Nat.reduceSub, Nat.reduceMul, Nat.reducePow, Nat.reduceLT, Nat.reduceLeDiff, Nat.reduceEqDiff, Int.reduceAdd, Int.reduceSub, Int.reduceMul, Int.reduceNeg, Int.reducePow, Int.reduceLT, Int.reduceLE, Int.reduceEq, Int.reduceNe, Int.reduceToNat, Int.toNat_natCast, Nat.zero_add, Nat.add_zero, Nat.mul_one, Nat.one_mul, Bool.not_true, Bool.not_false, ne_eq, not_true_eq_false, not_false_eq_true, Bool.false_eq_true, stA_p, ec, el, agg5_write hwv, cd, hxo.1.row.len]
      have en : IntKind.i64.wrap ((i : Int) + 1) = ((i + 1 : Nat) : Int) := by rw [i64_id (by omega) (by omega)]; rfl
      have f24 := f3.trans f4
      generalize h3.set d (.live x.cells 89 true) = h4 at *
      have hfl : x.r.fs.length ≤ 1000 := by
        obtain ⟨z1, z2, z3⟩ := p4
        by_cases k : kindAt lays o.sh = 3
        · rw [if_pos k] at z3; rw [z3.1]; simp
        · rw [if_neg k] at z3
          rw [z3.1]
          have h1 : o.row.length = o.body.length + 1 := by simp [Ob.row]
          have h2 := findO_lt os _ o p5
          have h3 := gt.le
          omega
      refine loop_r (x.r.fs.length + 1) (fun c ls h5 => ∃ j : Nat, ls = [.int .i64 j] ∧ j ≤ x.r.fs.length ∧ RefAt h h5 bx ws.length lays BL l ∧ Fr [] h2 h5 ∧ x.r.fs.all (fitsO os) = (x.r.fs.drop j).all (fitsO os) ∧ c = x.r.fs.length + 1 - j) ⟨0, rfl, by omega, R4, f24, rfl, rfl⟩ ?_
      rintro c ls h5 ⟨j, rfl, hj, R5, f5, hall, rfl⟩
      by_cases q2 : (j : Int) < x.r.fs.length
      · have hj' : j < x.r.fs.length := by omega
        obtain ⟨w, hwj⟩ : ∃ w, x.r.fs[j]? = some w := ⟨x.r.fs[j], by simp [hj']⟩
        have hwm := List.mem_of_getElem? hwj
        have hwr2 := hfr w hwm
        have hd2 : x.r.fs.drop j = w :: x.r.fs.drop (j + 1) := by
          rw [List.drop_eq_getElem_cons hj']; congr 1
          rw [List.getElem?_eq_getElem hj'] at hwj; injection hwj
        rw [hd2, List.all_cons] at hall
        obtain ⟨bo, oo, m1, m2⟩ := (R5.el x (List.mem_of_getElem? hx)).1.row.at (i := j) (x := .int .u64 w) (by omega) q2 (by rw [Int.toNat_natCast, wc_get, hwj]; rfl)
        simp only [go_sem, reduceIte, Nat.reduceAdd, Nat.reduceSub, Nat.reduceMul, Nat.reducePow, Nat.reduceLT, Nat.reduceLeDiff, Nat.reduceEqDiff, Int.reduceAdd, Int.reduceSub, Int.reduceMul, Int.reduceNeg, Int.reducePow, Int.reduceLT, Int.reduceLE, Int.reduceEq, Int.reduceNe, Int.reduceToNat, Int.toNat_natCast, Nat.zero_add, Nat.add_zero, Nat.mul_one, Nat.one_mul, Bool.not_true, Bool.not_false, ne_eq, not_true_eq_false, not_false_eq_true, Bool.false_eq_true, q2, m1, m2]
        refine rfits_c R5 hln hwr2.1 hwr2.2 fun h6 f6 => ?_
        rw [← r.fits]
        have en2 : IntKind.i64.wrap ((j : Int) + 1) = ((j + 1 : Nat) : Int) := by rw [i64_id (by omega) (by omega)]; rfl
        cases z : fitsO os w with
        | true =>
          rw [z, Bool.true_and] at hall
          simp only [go_sem, reduceIte, Nat.reduceAdd, Nat.reduceSub, Nat.reduceMul, Nat.reducePow, Nat.reduceLT, Nat.reduceLeDiff, Nat.reduceEqDiff, Int.reduceAdd, Int.reduceSub, Int.reduceMul, Int.reduceNeg, Int.reducePow, Int.reduceLT, Int.reduceLE, Int.reduceEq, Int.reduceNe, Int.reduceToNat, Int.toNat_natCast, Nat.zero_add, Nat.add_zero, Nat.mul_one, Nat.one_mul, Bool.not_true, Bool.not_false, ne_eq, not_true_eq_false, not_false_eq_true, Bool.false_eq_true, en2]
          exact ⟨x.r.fs.length + 1 - (j + 1), by omega, j + 1, rfl, by omega, R5.keep0 f6, f5.trans f6, hall, rfl⟩
        | false =>
          rw [z, Bool.false_and] at hall
          rw [hall, Bool.false_and] at hw
          simp only [go_sem, reduceIte, Nat.reduceAdd, Nat.reduceSub, Nat.reduceMul, Nat.reducePow, Nat.reduceLT, Nat.reduceLeDiff, Nat.reduceEqDiff, Int.reduceAdd, Int.reduceSub, Int.reduceMul, Int.reduceNeg, Int.reducePow, Int.reduceLT, Int.reduceLE, Int.reduceEq, Int.reduceNe, Int.reduceToNat, Int.toNat_natCast, Nat.zero_add, Nat.add_zero, Nat.mul_one, Nat.one_mul, Bool.not_true, Bool.not_false, ne_eq, not_true_eq_false, not_false_eq_true, Bool.false_eq_true]
          exact hno (by rw [eS, hw]; rfl) h6 (R5.fr.trans f6)
      · have : x.r.fs.drop j = [] := List.drop_eq_nil_of_le (by omega)
        rw [this] at hall
        rw [hall] at hw
        simp only [go_sem, reduceIte, Nat.reduceAdd, Nat.reduceSub, Nat.reduceMul, Nat.reducePow, Nat.reduceLT, Nat.reduceLeDiff, Nat.reduceEqDiff, Int.reduceAdd, Int.reduceSub, Int.reduceMul, Int.reduceNeg, Int.reducePow, Int.reduceLT, Int.reduceLE, Int.reduceEq, Int.reduceNe, Int.reduceToNat, Int.toNat_natCast, Nat.zero_add, Nat.add_zero, Nat.mul_one, Nat.one_mul, Bool.not_true, Bool.not_false, ne_eq, not_true_eq_false, not_false_eq_true, Bool.false_eq_true, q2, en]
        exact ⟨l.length + 1 - (i + 1), by omega, i + 1, rfl, by omega, R5, f5, by rw [hw]; rfl, rfl⟩
    · simp only [go_sem, reduceIte, Nat.reduceAdd, Nat.reduceSub, Nat.reduceMul, Nat.reducePow, Nat.reduceLT, Nat.reduceLeDiff, Nat.reduceEqDiff, Int.reduceAdd, Int.reduceSub, Int.reduceMul, Int.reduceNeg, Int.reducePow, Int.reduceLT, Int.reduceLE, Int.reduceEq, Int.reduceNe, Int.reduceToNat, Int.toNat_natCast, Nat.zero_add, Nat.add_zero, Nat.mul_one, Nat.one_mul, Bool.not_true, Bool.not_false, ne_eq, not_true_eq_false, not_false_eq_true, Bool.false_eq_true, q1]
      have : os.drop i = [] := List.drop_eq_nil_of_le (by omega)
      rw [this] at hw
      exact hJ h3 R3 f3 hw
  · refine loop_r (n + 1) (fun c ls h2 => ∃ (acc : List Ob) (BL : List Nat) (l : List RV) (k : Nat), ls = [.int .i64 (rowOf acc).length] ∧ Got lays ws n acc ∧ parse lays ws n (n + 1) [] = parse lays ws n k acc ∧ n + 1 ≤ k + (rowOf acc).length ∧ RefAt h h2 bx ws.length lays BL l ∧ h2.cell bx 1 = some lv ∧ Rel lays 0 acc l ∧
      (∀ o ∈ acc, kindAt lays o.sh = 3 → tailO o = true) ∧ c = n + 1 - (rowOf acc).length)
      ⟨[], [], [], n + 1, rfl, got_nil .., rfl, by simp, R0, hcx0, trivial, by simp, by simp [rowOf]⟩ ?_
    rintro c ls h2 ⟨acc, BL, l, k, rfl, gt, ep, hk, R, hcx, r, htl, rfl⟩
    have hle := gt.le
    obtain ⟨k, rfl⟩ : ∃ k', k = k' + 1 := ⟨k - 1, by omega⟩
    conv at ep => rhs; rw [parse]
    by_cases q1 : ((rowOf acc).length : Int) < n
    · have q1' : (rowOf acc).length < n := by omega
      rw [if_pos q1'] at ep
      have hln : l.length ≤ 1000 := by have := os_le acc; have := r.len; omega
      have hrow := hr.fr R.fr
      have hwd : ∀ j : Nat, j < ws.length → (wc ws)[(j : Int).toNat]? = some (.int .u64 (wdL ws j)) := fun j hj => by
        rw [wc_get, Int.toNat_natCast]
        unfold wdL
        rw [List.getD_eq_getElem?_getD, List.getElem?_eq_getElem hj]; rfl
      have i1 : ((rowOf acc).length : Int) < (ws.length : Nat) := by omega
      obtain ⟨bo, oo, m1, m2⟩ := hrow.at (i := (rowOf acc).length) (by omega) i1 (hwd (rowOf acc).length (by omega))
      obtain ⟨lv2, Lv2, cx, rl, ov⟩ := R.cells
      have wr := wdL_range hwr (rowOf acc).length
      have sr : 0 ≤ shapeOf (wdL ws (rowOf acc).length) ∧ shapeOf (wdL ws (rowOf acc).length) < 1048576 := by unfold shapeOf; omega
      have lr : 0 ≤ lenOf (wdL ws (rowOf acc).length) ∧ lenOf (wdL ws (rowOf acc).length) < 1048576 := by unfold lenOf; omega
      have ws1 : IntKind.i64.wrap (shapeOf (wdL ws (rowOf acc).length)) = shapeOf (wdL ws (rowOf acc).length) := i64_id (by omega) (by omega)
      have ws2 : IntKind.i64.wrap (lenOf (wdL ws (rowOf acc).length)) = lenOf (wdL ws (rowOf acc).length) := i64_id (by omega) (by omega)
      have n53 := fun K => rneed_c (h := h2) (bx := bx) (by rw [cx]; rfl) rl (shapeOf (wdL ws (rowOf acc).length)) (lenOf (wdL ws (rowOf acc).length)) K
      have eL : needN lays (shapeOf (wdL ws (rowOf acc).length)) (lenOf (wdL ws (rowOf acc).length)) = needL lays ws (rowOf acc).length := rfl
      rw [eL] at n53
      have es : IntKind.i64.wrap ((n : Int) - (rowOf acc).length) = n - (rowOf acc).length := i64_id (by omega) (by omega)
      have bad : badL lays ws n (rowOf acc).length → K (.tup [.nilp, .bool false]) h2 := fun q => by
        rw [if_pos q] at ep
        exact hno (eN ep) h2 R.fr
      by_cases e1 : (needL lays ws (rowOf acc).length).2 = 0
      · by_cases e2 : headN (shapeOf (wdL ws (rowOf acc).length)) (lenOf (wdL ws (rowOf acc).length)) = wdL ws (rowOf acc).length
        · by_cases e3 : (n : Int) - (rowOf acc).length < (needL lays ws (rowOf acc).length).1
          · simp only [go_sem, reduceIte, Nat.reduceAdd, Nat.reduceSub, Nat.reduceMul, Nat.reducePow, Nat.reduceLT, Nat.reduceLeDiff, Nat.reduceEqDiff, Int.reduceAdd, Int.reduceSub, Int.reduceMul, Int.reduceNeg, Int.reducePow, Int.reduceLT, Int.reduceLE, Int.reduceEq, Int.reduceNe, Int.reduceToNat, Int.toNat_natCast, Nat.zero_add, Nat.add_zero, Nat.mul_one, Nat.one_mul, Bool.not_true, Bool.not_false, ne_eq, not_true_eq_false, not_false_eq_true, Bool.false_eq_true, q1, m1, m2, shapeF wr.1 wr.2, lenF wr.1 wr.2, ws1, ws2, n53, rhead_c, e1, e2, es, e3]
            exact bad (.inr (.inr e3))
          · have nb : ¬ badL lays ws n (rowOf acc).length := by
              rintro (q | q | q)
              · exact q e1
              · exact q e2
              · exact e3 q
            rw [if_neg nb] at ep
            obtain ⟨g2, gl2⟩ := got_step gt hn q1' nb
            have hle2 := g2.le
            obtain ⟨p1, p2, p3, p4, p5, p6⟩ := need_pos (lays := lays) (i := shapeOf (wdL ws (rowOf acc).length)) (n := lenOf (wdL ws (rowOf acc).length)) e1
            rw [eL] at p1 p6
            have hrel := obL_rel (a := (rowOf acc).length) hn q1' nb
            have esh : (obL lays ws (rowOf acc).length).sh = shapeOf (wdL ws (rowOf acc).length) := rfl
            have enn : (obL lays ws (rowOf acc).length).n = lenOf (wdL ws (rowOf acc).length) := rfl
            have hbody := obL_body lays ws (rowOf acc).length
            have hblen : (obL lays ws (rowOf acc).length).body.length = (needL lays ws (rowOf acc).length).1.toNat - 1 := by
              show ((ws.drop ((rowOf acc).length + 1)).take ((needL lays ws (rowOf acc).length).1.toNat - 1)).length = _
              rw [List.length_take, List.length_drop]; omega
            have hsnoc := fun x => r.snoc (obL lays ws (rowOf acc).length) x
            generalize hob : obL lays ws (rowOf acc).length = ob at *
            have ef : fillV [.int .i64 0, .int .i64 0, .int .i64 0, .nilsl, .nilsl] [(0, 1, .int .i64 (rowOf acc).length), (1, 1, .int .i64 (shapeOf (wdL ws (rowOf acc).length))), (2, 1, .int .i64 (lenOf (wdL ws (rowOf acc).length)))] = some [.int .i64 (rowOf acc).length, .int .i64 (shapeOf (wdL ws (rowOf acc).length)), .int .i64 (lenOf (wdL ws (rowOf acc).length)), .nilsl, .nilsl] := rfl
            simp only [go_sem, reduceIte, Nat.reduceAdd, Nat.reduceSub, Nat.reduceMul, Nat.reducePow, Nat.reduceLT, Nat.reduceLeDiff, Nat.reduceEqDiff, Int.reduceAdd, Int.reduceSub, Int.reduceMul, Int.reduceNeg, Int.reducePow, Int.reduceLT, Int.reduceLE, Int.reduceEq, Int.reduceNe, Int.reduceToNat, Int.toNat_natCast, Nat.zero_add, Nat.add_zero, Nat.mul_one, Nat.one_mul, Bool.not_true, Bool.not_false, ne_eq, not_true_eq_false, not_false_eq_true, Bool.false_eq_true, q1, m1, m2, shapeF wr.1 wr.2, lenF wr.1 wr.2, ws1, ws2, n53, rhead_c, e1, e2, es, e3, ef]
            clear m1 m2 bo oo
            have hkg : ∀ x, findO (acc ++ [ob]) x = findO (acc ++ [ob]) x := fun _ => rfl
            generalize hsh : shapeOf (wdL ws (rowOf acc).length) = sh at *
            generalize hnn : lenOf (wdL ws (rowOf acc).length) = nn at *
            generalize hnd : (needL lays ws (rowOf acc).length).1 = nd at *
            have hal : (acc ++ [ob]).length = acc.length + 1 := by simp
            generalize hac : (rowOf acc).length = a0 at *
            obtain ⟨m, rfl⟩ := Int.eq_ofNat_of_zero_le p4
            refine ⟨rfl, fun d hd => ?_⟩
            have hst : stA (h2.set d (.live [.int .i64 0, .int .i64 0, .int .i64 0, .nilsl, .nilsl] 89 true)) 5 (.ptr d 0) (.agg [.int .i64 a0, .int .i64 sh, .int .i64 (m : Nat), .nilsl, .nilsl]) = some (h2.set d (.live [.int .i64 a0, .int .i64 sh, .int .i64 (m : Nat), .nilsl, .nilsl] 89 true)) := by
              simp only [stA_p, AV.cells, List.length_cons, List.length_nil, Nat.reduceAdd, if_true]
              exact write_new rfl rfl
            simp only [hst, memA_some]
            have hi : ((sh.toNat : Nat) : Int) = sh := by omega
            let St : H → Nat → Prop := fun h' j => ∃ fv bv, h'.get d = some (.live [.int .i64 a0, .int .i64 sh, .int .i64 (m : Nat), fv, bv] 89 true) ∧ Fr [] h2 h' ∧
              Own h2 h' 25 1 fv (if kindAt lays sh = 3 then [] else (ws.drop (a0 + 1)).take j).length (wc (if kindAt lays sh = 3 then [] else (ws.drop (a0 + 1)).take j)) ∧
              Own h2 h' 5 1 bv (if kindAt lays sh = 3 then bytesN ws a0 j else []).length (bc (if kindAt lays sh = 3 then bytesN ws a0 j else []))
            refine join_r (fun (J : H → Prop) => ∀ h', St h' m → J h') ?_ fun J hJ => ?_
            · rintro h5 ⟨fv, bv, gd, f5, of, ob5⟩
              have R5 := R.keep0 f5
              obtain ⟨bl, q, y1, y2, y3, y4⟩ := (hl.fr R5.fr).lay (lay_get (L := lays) (i := sh) p2 p3)
              rw [hi] at y1
              have e8 : (m : Int).tmod 8 = (m : Int) % 8 := Int.tmod_eq_emod_of_nonneg p4
              have hno' : tailO ob = false → kindAt lays sh = 3 → closeO lays ws n = none := fun z1 z2 => by
                cases e : parse lays ws n (n + 1) [] with
                | none => exact eN e
                | some os =>
                  rw [eS os e]
                  have hmem := parse_mem k _ os (by rw [← ep]; exact e) ob (by simp)
                  have : wholeO lays os = false := by
                    rw [Bool.eq_false_iff]
                    intro q
                    have := List.all_eq_true.1 q ob hmem
                    unfold okO at this
                    rw [if_pos (by rw [esh]; exact z2), z1] at this
                    cases this
                  rw [this]; rfl
              have e9 : ((m : Int) % 8) = ((m % 8 : Nat) : Int) := by omega
              have cases3 : (kindAt lays sh = 3 ∧ (m : Int) % 8 = 0) ∨ (kindAt lays sh = 3 ∧ ¬ (m : Int) % 8 = 0) ∨ ¬ kindAt lays sh = 3 := by omega
              rcases cases3 with ⟨k3, m0⟩ | ⟨k3, m0⟩ | k3
              case' inl =>
                have gd6 := gd; have f6 := f5; have of6 := of; have ob6 := ob5
                have okT : kindAt lays ob.sh = 3 → tailO ob = true := fun _ => by unfold tailO; rw [enn, m0]; rfl
                simp only [go_sem, reduceIte, Nat.reduceAdd, Nat.reduceSub, Nat.reduceMul, Nat.reducePow, Nat.reduceLT, Nat.reduceLeDiff, Nat.reduceEqDiff, Int.reduceAdd, Int.reduceSub, Int.reduceMul, Int.reduceNeg, Int.reducePow, Int.reduceLT, Int.reduceLE, Int.reduceEq, Int.reduceNe, Int.reduceToNat, Int.toNat_natCast, Nat.zero_add, Nat.add_zero, Nat.mul_one, Nat.one_mul, Bool.not_true, Bool.not_false, ne_eq, not_true_eq_false, not_false_eq_true, Bool.false_eq_true, y1, y2, k3, e8, m0]
              case' inr.inl =>
                rw [if_pos k3] at p6
                have u1 : IntKind.i64.wrap (IntKind.i64.wrap ((a0 : Int) + nd) - 1) = ((a0 + 1 + m / 8 : Nat) : Int) := by rw [i64_id (n := (a0 : Int) + nd) (by omega) (by omega), i64_id (by omega) (by omega)]; omega
                have u2 : a0 + 1 + m / 8 < ws.length := by omega
                obtain ⟨bo, oo, m1, m2⟩ := (hr.fr R5.fr).at (i := ((a0 + 1 + m / 8 : Nat) : Int)) (by omega) (by omega) (hwd (a0 + 1 + m / 8) u2)
                have rd : h5.read d 0 5 = some [.int .i64 a0, .int .i64 sh, .int .i64 (m : Nat), fv, bv] := H.read_eq gd (by simp) (by simp)
                have wr5 := wdL_range hwr (a0 + 1 + m / 8)
                have hpw : (0 : Int) < 2 ^ (8 * (m % 8)) := Int.pow_pos (by decide)
                have ob5' := ob5
                rw [if_pos k3] at ob5'
                have hbl := bytesN_length ws a0 m
                simp only [go_sem, reduceIte, Nat.reduceAdd, Nat.reduceSub, Nat.reduceMul, Nat.reducePow, Nat.reduceLT, Nat.reduceLeDiff, Nat.reduceEqDiff, Int.reduceAdd, Int.reduceSub, Int.reduceMul, Int.reduceNeg, Int.reducePow, Int.reduceLT, Int.reduceLE, Int.reduceEq, Int.reduceNe, Int.reduceToNat, Int.toNat_natCast, Nat.zero_add, Nat.add_zero, Nat.mul_one, Nat.one_mul, Bool.not_true, Bool.not_false, ne_eq, not_true_eq_false, not_false_eq_true, Bool.false_eq_true, y1, y2, k3, e8, m0, u1, m1, m2, rd]
                have hlast := fun K => rlast_c (h := h5) (p := .ptr bx 0) (a := a0) (sh := sh) (fv := fv) ob5'.row of.row.one.1 (by omega) (j := m / 8) (m := m % 8) (by omega) (by omega) (X := wdL ws (a0 + 1 + m / 8) % 2 ^ (8 * (m % 8))) (Int.emod_nonneg _ (by omega)) (Int.emod_lt_of_pos _ hpw) (fun kk hkk => by
                  rw [byteW_mod _ (by omega) hkk, bytesN_get ws a0 (by omega), show (8 * (m / 8) + kk) / 8 = m / 8 by omega, show (8 * (m / 8) + kk) % 8 = kk by omega]) (K := K)
                rw [hbl] at hlast
                refine hlast _ fun h6 f56 => ?_
                have c6 := cell_fr f56 m2
                have tl : tailO ob = decide (wdL ws (a0 + 1 + m / 8) / 2 ^ (8 * (m % 8)) = 0) := by
                  unfold tailO
                  rw [enn, decide_eq_false m0, Bool.false_or, show ((m : Int) / 8).toNat = m / 8 by omega, show ((m : Int) % 8).toNat = m % 8 by omega, hbody _ (by omega)]
                rcases Decidable.em (wdL ws (a0 + 1 + m / 8) = wdL ws (a0 + 1 + m / 8) % 2 ^ (8 * (m % 8))) with z | z
                case' inr.inl.inr =>
                  simp only [go_sem, reduceIte, Nat.reduceAdd, Nat.reduceSub, Nat.reduceMul, Nat.reducePow, Nat.reduceLT, Nat.reduceLeDiff, Nat.reduceEqDiff, Int.reduceAdd, Int.reduceSub, Int.reduceMul, Int.reduceNeg, Int.reducePow, Int.reduceLT, Int.reduceLE, Int.reduceEq, Int.reduceNe, Int.reduceToNat, Int.toNat_natCast, Nat.zero_add, Nat.add_zero, Nat.mul_one, Nat.one_mul, Bool.not_true, Bool.not_false, ne_eq, not_true_eq_false, not_false_eq_true, Bool.false_eq_true, c6, z]
                  exact hno (hno' (by rw [tl, decide_eq_false]; exact fun q => z ((mod_same _).2 q)) k3) h6 (R5.fr.trans f56)
                have gd6 := f56 d _ (by simp) gd
                have f6 := f5.trans f56
                have of6 := of.keep fun c n' p _ ob hg => f56 c ob (by simp) hg
                have ob6 := ob5.keep fun c n' p _ ob hg => f56 c ob (by simp) hg
                have okT : kindAt lays ob.sh = 3 → tailO ob = true := fun _ => by rw [tl, decide_eq_true]; exact (mod_same _).1 z
                simp only [go_sem, reduceIte, Nat.reduceAdd, Nat.reduceSub, Nat.reduceMul, Nat.reducePow, Nat.reduceLT, Nat.reduceLeDiff, Nat.reduceEqDiff, Int.reduceAdd, Int.reduceSub, Int.reduceMul, Int.reduceNeg, Int.reducePow, Int.reduceLT, Int.reduceLE, Int.reduceEq, Int.reduceNe, Int.reduceToNat, Int.toNat_natCast, Nat.zero_add, Nat.add_zero, Nat.mul_one, Nat.one_mul, Bool.not_true, Bool.not_false, ne_eq, not_true_eq_false, not_false_eq_true, Bool.false_eq_true, c6, ← z]
              case' inr.inr =>
                have gd6 := gd; have f6 := f5; have of6 := of; have ob6 := ob5
                have okT : kindAt lays ob.sh = 3 → tailO ob = true := fun q => absurd (by rw [← esh]; exact q) k3
                simp only [go_sem, reduceIte, Nat.reduceAdd, Nat.reduceSub, Nat.reduceMul, Nat.reducePow, Nat.reduceLT, Nat.reduceLeDiff, Nat.reduceEqDiff, Int.reduceAdd, Int.reduceSub, Int.reduceMul, Int.reduceNeg, Int.reducePow, Int.reduceLT, Int.reduceLE, Int.reduceEq, Int.reduceNe, Int.reduceToNat, Int.toNat_natCast, Nat.zero_add, Nat.add_zero, Nat.mul_one, Nat.one_mul, Bool.not_true, Bool.not_false, ne_eq, not_true_eq_false, not_false_eq_true, Bool.false_eq_true, y1, y2, k3]
              all_goals
                obtain ⟨lv6, Lv6, cx6, rl6, ov6⟩ := (R.keep0 f6).cells
                have rd6 := H.read_eq (off := 0) (n := 5) (cs := [AV.int .i64 a0, .int .i64 sh, .int .i64 (m : Nat), fv, bv]) gd6 (by simp) (by simp)
                have hleaf := of6.row.one
                have bleaf := ob6.row.one
                have elv5 : leaves [AV.int .i64 a0, .int .i64 sh, .int .i64 (m : Nat), fv, bv] = true := by simp only [leaves, hleaf.1, bleaf.1]; rfl
                have ef5 : fillV [.int .i64 0, .int .i64 0, .int .i64 0, .nilsl, .nilsl] [(0, 5, .agg [AV.int .i64 a0, .int .i64 sh, .int .i64 (m : Nat), fv, bv])] = some [AV.int .i64 a0, .int .i64 sh, .int .i64 (m : Nat), fv, bv] := by
                  simp only [fillV, AV.cells, elv5]; rfl
                simp only [go_sem, reduceIte, Nat.reduceAdd, Nat.reduceSub, Nat.reduceMul, Nat.reducePow, Nat.reduceLT, Nat.reduceLeDiff, Nat.reduceEqDiff, Int.reduceAdd, Int.reduceSub, Int.reduceMul, Int.reduceNeg, Int.reducePow, Int.reduceLT, Int.reduceLE, Int.reduceEq, Int.reduceNe, Int.reduceToNat, Int.toNat_natCast, Nat.zero_add, Nat.add_zero, Nat.mul_one, Nat.one_mul, Bool.not_true, Bool.not_false, ne_eq, not_true_eq_false, not_false_eq_true, Bool.false_eq_true, cx6, rd6, ef5]
                refine push_c R (by omega) f6 (r := ⟨a0, sh, (m : Nat), _, _⟩) of6 ob6 (by rw [cx6]; rfl) fun v7 h7 h8 BL8 x st R8 hx hc8 => ?_
                have ea : IntKind.i64.wrap ((a0 : Int) + nd) = ((rowOf (acc ++ [ob])).length : Int) := by rw [gl2, i64_id (by omega) (by omega)]
                simp only [go_sem, reduceIte, Nat.reduceAdd, Nat.reduceSub, Nat.reduceMul, Nat.reducePow, Nat.reduceLT, Nat.reduceLeDiff, Nat.reduceEqDiff, Int.reduceAdd, Int.reduceSub, Int.reduceMul, Int.reduceNeg, Int.reducePow, Int.reduceLT, Int.reduceLE, Int.reduceEq, Int.reduceNe, Int.reduceToNat, Int.toNat_natCast, Nat.zero_add, Nat.add_zero, Nat.mul_one, Nat.one_mul, Bool.not_true, Bool.not_false, ne_eq, not_true_eq_false, not_false_eq_true, Bool.false_eq_true, st, ea]
                have hro := hrel okT
                rw [esh, enn, Int.toNat_natCast] at hro
                refine ⟨n + 1 - (rowOf (acc ++ [ob])).length, by omega, acc ++ [ob], BL8, l ++ [x], k, rfl, g2, ep, by omega, R8, by rw [hc8]; exact cell_fr f6 hcx, hsnoc x (by rw [hx]; show (a0 : Int) = ((0 + a0 : Nat) : Int); simp) (by rw [hx]; exact hro), fun o ho => ?_, rfl⟩
                rcases List.mem_append.1 ho with ho | ho
                · exact htl o ho
                · simp at ho; subst ho; exact okT
            · refine loop_r (m + 1) (fun c ls h' => ∃ j : Nat, ls = [.int .i64 j] ∧ j ≤ m ∧ St h' j ∧ c = m + 1 - j) ⟨0, rfl, by omega, ⟨.nilsl, .nilsl, H.get_same .., Fr.new hd, by have := Own.nil h2 (h2.set d (.live [.int .i64 a0, .int .i64 sh, .int .i64 (m : Nat), .nilsl, .nilsl] 89 true)) 25 1; split <;> simpa [wc] using this, by have := Own.nil h2 (h2.set d (.live [.int .i64 a0, .int .i64 sh, .int .i64 (m : Nat), .nilsl, .nilsl] 89 true)) 5 1; split <;> simpa [bc, bytesN] using this⟩, rfl⟩ ?_
              rintro c ls h' ⟨j, rfl, hj, ⟨fv, bv, gd, f', of, ob5⟩, rfl⟩
              by_cases hlt : (j : Int) < (m : Nat)
              · have R5 := R.keep0 f'
                obtain ⟨bl, q, y1, y2, y3, y4⟩ := (hl.fr R5.fr).lay (lay_get (L := lays) (i := sh) p2 p3)
                rw [hi] at y1
                have cd : ∀ off, h'.cell d off = [AV.int .i64 a0, .int .i64 sh, .int .i64 (m : Nat), fv, bv][off]? := fun off => cell_of gd off
                have e4 : IntKind.i64.wrap ((j : Int) + 1) = ((j + 1 : Nat) : Int) := by rw [i64_id (by omega) (by omega)]; rfl
                by_cases k3 : kindAt lays sh = 3
                · rw [if_pos k3] at p6
                  simp only [k3, if_true] at of ob5
                  have d1 : IntKind.i64.wrap ((j : Int).tdiv 8) = ((j / 8 : Nat) : Int) := by rw [Int.tdiv_eq_ediv_of_nonneg (by omega), i64_id (by omega) (by omega)]; rfl
                  have d2 : (j : Int).tmod 8 = ((j % 8 : Nat) : Int) := by rw [Int.tmod_eq_emod_of_nonneg (by omega)]; rfl
                  have d3 : IntKind.i64.wrap (((j % 8 : Nat) : Int) * 8) = ((j % 8 : Nat) : Int) * 8 := i64_id (by omega) (by omega)
                  have u1 : IntKind.i64.wrap (IntKind.i64.wrap ((a0 : Int) + 1) + ((j / 8 : Nat) : Int)) = ((a0 + 1 + j / 8 : Nat) : Int) := by rw [i64_id (n := (a0 : Int) + 1) (by omega) (by omega), i64_id (by omega) (by omega)]; omega
                  have u2 : a0 + 1 + j / 8 < ws.length := by omega
                  obtain ⟨bo, oo, m1, m2⟩ := (hr.fr R5.fr).at (i := ((a0 + 1 + j / 8 : Nat) : Int)) (by omega) (by omega) (hwd (a0 + 1 + j / 8) u2)
                  have wr5 := wdL_range hwr (a0 + 1 + j / 8)
                  have br := byteW_range (wdL ws (a0 + 1 + j / 8)) (j % 8)
                  have hf8 := fun (h : H) K => field8 (h := h) wr5.1 wr5.2 (k := j % 8) (by omega) K
                  have hsucc := bytesN_succ ws a0 j
                  obtain ⟨cN, hcN⟩ := Int.eq_ofNat_of_zero_le br.1
                  rw [hcN] at hf8
                  rw [hcN, Int.toNat_natCast] at hsucc
                  have u8 : IntKind.u8.wrap (cN : Int) = (cN : Int) := by simp [IntKind.wrap, IntKind.bits, IntKind.signed]; omega
                  have ef1 : fillV [.int .u8 0] [(0, 1, .int .u8 (cN : Int))] = some [.int .u8 (cN : Int)] := rfl
                  simp only [go_sem, reduceIte, Nat.reduceAdd, Nat.reduceSub, Nat.reduceMul, Nat.reducePow, Nat.reduceLT, Nat.reduceLeDiff, Nat.reduceEqDiff, Int.reduceAdd, Int.reduceSub, Int.reduceMul, Int.reduceNeg, Int.reducePow, Int.reduceLT, Int.reduceLE, Int.reduceEq, Int.reduceNe, Int.reduceToNat, Int.toNat_natCast, Nat.zero_add, Nat.add_zero, Nat.mul_one, Nat.one_mul, Bool.not_true, Bool.not_false, ne_eq, not_true_eq_false, not_false_eq_true, Bool.false_eq_true, joinA, hlt, y1, y2, k3, cd, d1, d2, d3, u1, m1, m2, hf8, u8, ef1]
                  refine append_one' ob5 rfl (by decide) (bc_leaves _) rfl f' (by rw [bytesN_length]; unfold most; omega) fun v' h3 o3 f3 m3 w3 => ?_
                  have gd3 := m3 d _ gd (ob5.ne gd (by decide))
                  have v3l := o3.row.one
                  have st3 := st_val gd3 (off := 4) (by simp) v3l.1 v3l.2
                  simp only [go_sem, reduceIte, Nat.reduceAdd, Nat.reduceSub, Nat.reduceMul, Nat.reducePow, Nat.reduceLT, Nat.reduceLeDiff, Nat.reduceEqDiff, Int.reduceAdd, Int.reduceSub, Int.reduceMul, Int.reduceNeg, Int.reducePow, Int.reduceLT, Int.reduceLE, Int.reduceEq, Int.reduceNe, Int.reduceToNat, Int.toNat_natCast, Nat.zero_add, Nat.add_zero, Nat.mul_one, Nat.one_mul, Bool.not_true, Bool.not_false, ne_eq, not_true_eq_false, not_false_eq_true, Bool.false_eq_true, st3, e4]
                  refine ⟨m + 1 - (j + 1), by omega, j + 1, rfl, by omega, ⟨fv, v', by rw [H.get_same]; rfl, f3.set' hd, ?_, ?_⟩, rfl⟩
                  · simp only [k3, if_true]
                    refine of.keep fun c n' p e ob' hc => ?_
                    have ne1 : c ≠ d := fun q => of.ne gd (by decide) n' p (by rw [e, q])
                    rw [H.get_other _ _ ne1]
                    refine m3 c _ hc fun n2 p2 e2 => ?_
                    rcases of.2 with ⟨_, z⟩ | ⟨b', z1, _, z3⟩
                    · rw [e] at z; cases z
                    · rw [e] at z1; injection z1 with z1 _
                      exact ob5.ne (z1 ▸ z3) (by decide) n2 p2 e2
                  · simp only [k3, if_true]
                    rw [hsucc, bc_append, List.length_append]
                    refine Own.keep (h' := h3) (by simpa [bc] using o3) fun c n' p e ob' hc => ?_
                    rw [H.get_other _ _ (fun q => o3.ne gd3 (by decide) n' p (by rw [e, q]))]
                    exact hc
                · rw [if_neg k3] at p6
                  simp only [k3, if_false] at of ob5
                  have u1 : IntKind.i64.wrap (IntKind.i64.wrap ((a0 : Int) + 1) + (j : Int)) = ((a0 + 1 + j : Nat) : Int) := by rw [i64_id (n := (a0 : Int) + 1) (by omega) (by omega), i64_id (by omega) (by omega)]; omega
                  have u2 : a0 + 1 + j < ws.length := by omega
                  obtain ⟨bo, oo, m1, m2⟩ := (hr.fr R5.fr).at (i := ((a0 + 1 + j : Nat) : Int)) (by omega) (by omega) (hwd (a0 + 1 + j) u2)
                  have hsucc : (ws.drop (a0 + 1)).take (j + 1) = (ws.drop (a0 + 1)).take j ++ [wdL ws (a0 + 1 + j)] := by
                    rw [List.take_add_one, List.getElem?_drop]
                    unfold wdL
                    rw [List.getD_eq_getElem?_getD, List.getElem?_eq_getElem u2]; rfl
                  have ef1 : fillV [.int .u64 0] [(0, 1, .int .u64 (wdL ws (a0 + 1 + j)))] = some [.int .u64 (wdL ws (a0 + 1 + j))] := rfl
                  simp only [go_sem, reduceIte, Nat.reduceAdd, Nat.reduceSub, Nat.reduceMul, Nat.reducePow, Nat.reduceLT, Nat.reduceLeDiff, Nat.reduceEqDiff, Int.reduceAdd, Int.reduceSub, Int.reduceMul, Int.reduceNeg, Int.reducePow, Int.reduceLT, Int.reduceLE, Int.reduceEq, Int.reduceNe, Int.reduceToNat, Int.toNat_natCast, Nat.zero_add, Nat.add_zero, Nat.mul_one, Nat.one_mul, Bool.not_true, Bool.not_false, ne_eq, not_true_eq_false, not_false_eq_true, Bool.false_eq_true, joinA, hlt, y1, y2, k3, cd, u1, m1, m2, ef1]
                  refine append_one' of rfl (by decide) (wc_leaves _) rfl f' (by simp; unfold most; omega) fun v' h3 o3 f3 m3 w3 => ?_
                  have gd3 := m3 d _ gd (of.ne gd (by decide))
                  have v3l := o3.row.one
                  have st3 := st_val gd3 (off := 3) (by simp) v3l.1 v3l.2
                  simp only [go_sem, reduceIte, Nat.reduceAdd, Nat.reduceSub, Nat.reduceMul, Nat.reducePow, Nat.reduceLT, Nat.reduceLeDiff, Nat.reduceEqDiff, Int.reduceAdd, Int.reduceSub, Int.reduceMul, Int.reduceNeg, Int.reducePow, Int.reduceLT, Int.reduceLE, Int.reduceEq, Int.reduceNe, Int.reduceToNat, Int.toNat_natCast, Nat.zero_add, Nat.add_zero, Nat.mul_one, Nat.one_mul, Bool.not_true, Bool.not_false, ne_eq, not_true_eq_false, not_false_eq_true, Bool.false_eq_true, st3, e4]
                  refine ⟨m + 1 - (j + 1), by omega, j + 1, rfl, by omega, ⟨v', bv, by rw [H.get_same]; rfl, f3.set' hd, ?_, ?_⟩, rfl⟩
                  · simp only [k3, if_false]
                    rw [hsucc, wc_append, List.length_append]
                    refine Own.keep (h' := h3) (by simpa [wc] using o3) fun c n' p e ob' hc => ?_
                    rw [H.get_other _ _ (fun q => o3.ne gd3 (by decide) n' p (by rw [e, q]))]
                    exact hc
                  · simp only [k3, if_false]
                    refine ob5.keep fun c n' p e ob' hc => ?_
                    have ne1 : c ≠ d := fun q => ob5.ne gd (by decide) n' p (by rw [e, q])
                    rw [H.get_other _ _ ne1]
                    refine m3 c _ hc fun n2 p2 e2 => ?_
                    rcases ob5.2 with ⟨_, z⟩ | ⟨b', z1, _, z3⟩
                    · rw [e] at z; cases z
                    · rw [e] at z1; injection z1 with z1 _
                      exact of.ne (z1 ▸ z3) (by decide) n2 p2 e2
              · have e : j = m := by omega
                subst e
                simp only [go_sem, reduceIte, Nat.reduceAdd, Nat.reduceSub, Nat.reduceMul, Nat.reducePow, Nat.reduceLT, Nat.reduceLeDiff, Nat.reduceEqDiff, Int.reduceAdd, Int.reduceSub, Int.reduceMul, Int.reduceNeg, Int.reducePow, Int.reduceLT, Int.reduceLE, Int.reduceEq, Int.reduceNe, Int.reduceToNat, Int.toNat_natCast, Nat.zero_add, Nat.add_zero, Nat.mul_one, Nat.one_mul, Bool.not_true, Bool.not_false, ne_eq, not_true_eq_false, not_false_eq_true, Bool.false_eq_true, hlt]
                exact hJ h' ⟨fv, bv, gd, f', of, ob5⟩
        · simp only [go_sem, reduceIte, Nat.reduceAdd, Nat.reduceSub, Nat.reduceMul, Nat.reducePow, Nat.reduceLT, Nat.reduceLeDiff, Nat.reduceEqDiff, Int.reduceAdd, Int.reduceSub, Int.reduceMul, Int.reduceNeg, Int.reducePow, Int.reduceLT, Int.reduceLE, Int.reduceEq, Int.reduceNe, Int.reduceToNat, Int.toNat_natCast, Nat.zero_add, Nat.add_zero, Nat.mul_one, Nat.one_mul, Bool.not_true, Bool.not_false, ne_eq, not_true_eq_false, not_false_eq_true, Bool.false_eq_true, q1, m1, m2, shapeF wr.1 wr.2, lenF wr.1 wr.2, ws1, ws2, n53, rhead_c, e1, e2]
          exact bad (.inr (.inl e2))
      · simp only [go_sem, reduceIte, Nat.reduceAdd, Nat.reduceSub, Nat.reduceMul, Nat.reducePow, Nat.reduceLT, Nat.reduceLeDiff, Nat.reduceEqDiff, Int.reduceAdd, Int.reduceSub, Int.reduceMul, Int.reduceNeg, Int.reducePow, Int.reduceLT, Int.reduceLE, Int.reduceEq, Int.reduceNe, Int.reduceToNat, Int.toNat_natCast, Nat.zero_add, Nat.add_zero, Nat.mul_one, Nat.one_mul, Bool.not_true, Bool.not_false, ne_eq, not_true_eq_false, not_false_eq_true, Bool.false_eq_true, q1, m1, m2, shapeF wr.1 wr.2, lenF wr.1 wr.2, ws1, ws2, n53, e1]
        exact bad (.inl e1)
    · rw [if_neg (by omega)] at ep
      simp only [go_sem, reduceIte, Nat.reduceAdd, Nat.reduceSub, Nat.reduceMul, Nat.reducePow, Nat.reduceLT, Nat.reduceLeDiff, Nat.reduceEqDiff, Int.reduceAdd, Int.reduceSub, Int.reduceMul, Int.reduceNeg, Int.reducePow, Int.reduceLT, Int.reduceLE, Int.reduceEq, Int.reduceNe, Int.reduceToNat, Int.toNat_natCast, Nat.zero_add, Nat.add_zero, Nat.mul_one, Nat.one_mul, Bool.not_true, Bool.not_false, ne_eq, not_true_eq_false, not_false_eq_true, Bool.false_eq_true, q1]
      exact hJ h2 acc BL l R hcx r ep gt htl
end
end Go.Proofs.Ytljkkfcokpimkaa.X
set_option linter.unusedVariables false
set_option linter.unusedSimpArgs false
set_option maxRecDepth 20000
namespace Go.Proofs.Ytljkkfcokpimkaa.X
open Go Go.RowKit
theorem lies_words {h : H} {l : List AV} (hl : Lies h (.sl (.int .u64)) l) : ∃ v L, l = [v] ∧ Row h v L.length 1 (wc L) ∧ (∀ n ∈ L, 0 ≤ n ∧ n < 18446744073709551616) ∧ L.length ≤ reachBytes := by
  rw [Lies] at hl
  rcases hl with rfl | ⟨b, ei, css, rfl, hb, hm, hcs⟩
  · exact ⟨.nilsl, [], rfl, ⟨rfl, .inl ⟨rfl, rfl⟩⟩, by simp, by simp⟩
  · obtain ⟨L, hL, hfl, hlen⟩ : ∃ L : List Int, (∀ x ∈ L, 0 ≤ x ∧ x < 18446744073709551616) ∧ css.flatten = wc L ∧ css.length = L.length := by
      clear hb hm
      induction css with
      | nil => exact ⟨[], by simp, rfl, rfl⟩
      | cons c css ih =>
        obtain ⟨L, i1, i2, i3⟩ := ih fun c hc => hcs c (by simp [hc])
        obtain ⟨x, rfl, x0, x1⟩ := lies_u64 (hcs c (by simp))
        refine ⟨x :: L, ?_, by simp [i2, wc], by simp [i3]⟩
        intro d hd
        rcases List.mem_cons.1 hd with rfl | hd
        · exact ⟨x0, x1⟩
        · exact i1 d hd
    refine ⟨_, L, rfl, ⟨by rw [wc_length, Nat.mul_one], .inr ⟨b, 0, .any, by rw [hlen], rfl, ?_⟩⟩, hL, by omega⟩
    refine H.read_eq hb (by rw [hfl, wc_length]; omega) ?_
    rw [hfl, List.drop_zero, List.take_of_length_le (by rw [wc_length]; omega)]
theorem lies_closing {h : H} {l : List AV} (hl : Lies h (.st [.sl (.st [.int .i64, .int .i64]), .sl (.st [.int .i64, .int .i64, .int .i64, .int .u64, .bool]), .sl (.int .u64), .int .i64]) l) :
    ∃ v L vo ops vw W t, l = [v, vo, vw, .int .i64 t] ∧ Row h v L.length 2 (lc L) ∧ L.length ≤ reachBytes ∧ Row h vo ops.length 5 (opsC ops) ∧ (∀ x ∈ ops, x.ok) ∧ ops.length ≤ reachBytes ∧ Row h vw W.length 1 (wc W) ∧ (∀ n ∈ W, 0 ≤ n ∧ n < 18446744073709551616) ∧ W.length ≤ reachBytes := by
  rw [Lies, LiesL] at hl
  obtain ⟨l1, r1, rfl, g1, hl⟩ := hl
  rw [LiesL] at hl
  obtain ⟨l2, r2, rfl, g2, hl⟩ := hl
  rw [LiesL] at hl
  obtain ⟨l3, r3, rfl, g3, hl⟩ := hl
  rw [LiesL] at hl
  obtain ⟨l4, r4, rfl, g4, hl⟩ := hl
  rw [LiesL] at hl
  subst hl
  obtain ⟨v, L, rfl, hr, hL, hm⟩ := lies_lays g1
  obtain ⟨vo, ops, rfl, hro, hops, hmo⟩ := lies_ops g2
  obtain ⟨vw, W, rfl, hrw, hW, hmw⟩ := lies_words g3
  obtain ⟨t, rfl, _, _⟩ := lies_i64 g4
  exact ⟨v, L, vo, ops, vw, W, t, rfl, hr, hm, hro, hops, hmo, hrw, hW, hmw⟩
theorem wholeO_fit {lays : List (Int × Int)} {os : List Ob} (h : wholeO lays os = true) : fitAll lays os := by
  intro o ho hk w hw
  have := List.all_eq_true.1 h o ho
  unfold okO at this
  rw [if_neg hk, List.all_eq_true] at this
  exact this w hw
theorem closeO_whole {lays : List (Int × Int)} {ws : List Int} {t : Int} {os : List Ob} (h : closeO lays ws t = some os) : wholeO lays os = true := by
  unfold closeO at h
  split at h
  · cases h
  · cases hp : parse lays ws t.toNat (t.toNat + 1) [] with
    | none => rw [hp] at h; cases h
    | some os' =>
      rw [hp] at h
      simp only at h
      split at h
      · injection h with h; subst h; assumption
      · cases h
theorem RefAt.rebase {h0 h1 h : H} {bx : Nat} {words : Int} {lays : List (Int × Int)} {BL : List Nat} {l : List RV} (R : RefAt h1 h bx words lays BL l) {lv : AV} (hc : h.cell bx 1 = some lv) (f : Fr [] h0 h1) (r : Row h0 lv lays.length 2 (lc lays)) : RefAt h0 h bx words lays BL l := by
  obtain ⟨lv', Lv, s1, s2, s3⟩ := R.st
  obtain rfl : lv' = lv := by rw [cell_of s1 1] at hc; injection hc
  exact ⟨f.trans R.fr, ⟨lv', Lv, s1, r, s3⟩, R.el, R.nd, fun c hc => f.free (R.new c hc)⟩
theorem law16 (h : H) (ls : List (List AV)) (hl : LiesA h [.st [.sl (.st [.int .i64, .int .i64]), .sl (.st [.int .i64, .int .i64, .int .i64, .int .u64, .bool]), .sl (.int .u64), .int .i64]] ls) : C 16 (argsOf [.st [.sl (.st [.int .i64, .int .i64]), .sl (.st [.int .i64, .int .i64, .int .i64, .int .u64, .bool]), .sl (.int .u64), .int .i64]] ls) h yes := by
  obtain ⟨l0, ls, rfl, g0, hl⟩ := liesA_cons hl
  obtain rfl := liesA_nil hl
  obtain ⟨v, L, vo, ops, vw, W, t, rfl, hr, hm, hro, hops, hmo, hrw, hW, hmw⟩ := lies_closing g0
  show C 16 [.agg [v, vo, vw, .int .i64 t]] h yes
  refine run16 ?_
  have elv : leaves [v, vo, vw, AV.int .i64 t] = true := by simp only [leaves, hr.one.1, hro.one.1, hrw.one.1]; rfl
  have ec : (AV.agg [v, vo, vw, AV.int .i64 t]).cells = [v, vo, vw, .int .i64 t] := rfl
  simp only [sh16, ec]
  refine ⟨elv, fun d hd => ?_⟩
  have f1 : Fr [] h (h.set d (.live [v, vo, vw, .int .i64 t] 95 true)) := (Fr.refl _ _).set' hd
  have cd : ∀ off, (h.set d (.live [v, vo, vw, .int .i64 t] 95 true)).cell d off = [v, vo, vw, AV.int .i64 t][off]? := fun off => cell_set
  have hr1 := hr.fr f1; have hro1 := hro.fr f1; have hrw1 := hrw.fr f1
  generalize h.set d (.live [v, vo, vw, .int .i64 t] 95 true) = h1 at *
  simp only [go_sem, reduceIte, Nat.reduceAdd, Nat.reduceSub, Nat.reduceMul, Nat.reducePow, Nat.reduceLT, Nat.reduceLeDiff, Nat.reduceEqDiff, Int.reduceAdd, Int.reduceSub, Int.reduceMul, Int.reduceNeg, Int.reducePow, Int.reduceLT, Int.reduceLE, Int.reduceEq, Int.reduceNe, Int.reduceToNat, Int.toNat_natCast, Nat.zero_add, Nat.add_zero, Nat.mul_one, Nat.one_mul, Bool.not_true, Bool.not_false, ne_eq, not_true_eq_false, not_false_eq_true, Bool.false_eq_true, cd]
  refine join_r (fun (J : AV → H → Prop) => ∀ (v : AV) (W : List Int), Row h1 v W.length 1 (wc W) → (∀ n ∈ W, 0 ≤ n ∧ n < 18446744073709551616) → W.length ≤ 300 → J v h1) ?_ fun J hJ => ?_
  · clear hrw hrw1 hW hmw cd elv ec f1 hd hr hro g0
    intro vw W hrw hW hWl
    refine made_c hr1 hm hro1 hmo hops 300 (fun h' f => ?_) fun h2 b bx n lays l t2 n1 n2 l1 l2 => ?_
    · simp only [go_sem, reduceIte, Nat.reduceAdd, Nat.reduceSub, Nat.reduceMul, Nat.reducePow, Nat.reduceLT, Nat.reduceLeDiff, Nat.reduceEqDiff, Int.reduceAdd, Int.reduceSub, Int.reduceMul, Int.reduceNeg, Int.reducePow, Int.reduceLT, Int.reduceLE, Int.reduceEq, Int.reduceNe, Int.reduceToNat, Int.toNat_natCast, Nat.zero_add, Nat.add_zero, Nat.mul_one, Nat.one_mul, Bool.not_true, Bool.not_false, ne_eq, not_true_eq_false, not_false_eq_true, Bool.false_eq_true]
      exact exLives_c fun h' _ => rfl
    · have n2 := n2 (by decide)
      have hn : n = 300 := by omega
      subst hn
      obtain ⟨bw, bd, B, s, os, BL, t2, e1, e2⟩ := t2
      simp only [go_sem, reduceIte, Nat.reduceAdd, Nat.reduceSub, Nat.reduceMul, Nat.reducePow, Nat.reduceLT, Nat.reduceLeDiff, Nat.reduceEqDiff, Int.reduceAdd, Int.reduceSub, Int.reduceMul, Int.reduceNeg, Int.reducePow, Int.reduceLT, Int.reduceLE, Int.reduceEq, Int.reduceNe, Int.reduceToNat, Int.toNat_natCast, Nat.zero_add, Nat.add_zero, Nat.mul_one, Nat.one_mul, Bool.not_true, Bool.not_false, ne_eq, not_true_eq_false, not_false_eq_true, Bool.false_eq_true, b_pn]
      refine rrow_c t2 fun vr h3 f3 o3 => ?_
      obtain ⟨br, rfl, hbr, gbr⟩ : ∃ br, vr = .sl br 0 300 (.more 1) ∧ h2.get br = none ∧ h3.get br = some (.live (wc s.words) 25 true) := by
        rcases o3.2 with ⟨q, _⟩ | ⟨br, q1, q2, q3⟩
        · omega
        · rw [e1] at q1; exact ⟨br, q1, q2, q3⟩
      have t3 := t2.keep0 f3
      have hbn : ∀ c ∈ b :: bw :: bd :: B, c ≠ br := fun c hc q => by have := t2.hh.alive c hc; rw [q] at this; exact this hbr
      have g := t2.A.good
      have hx1 : h1.get br = none := t2.R.fr.free hbr
      have hx2 : h1.get bw = none := t2.new bw (by simp)
      have hbx : ∀ c ∈ blocksR bx BL l, c ∉ [bw, br] := fun c hc q => by
        simp at q
        rcases q with q | q
        · exact t2.ap bw (by simp) (q ▸ hc)
        · rw [q] at hc; exact t2.R.alive br hc hbr
      have fr13 : Fr [] h1 h3 := t3.R.fr
      have keepR : ∀ h4, Fr [bw, br] h3 h4 → RefAt h1 h4 bx 300 lays BL l := fun h4 f4 => by
        have := t3.R.keep f4 hbx (fr13.cons (fun c hc => by simp at hc; rcases hc with q | q <;> rw [q] <;> assumption) f4)
        rw [e1, e2] at this
        exact this
      refine join_r (fun (J : H → Prop) => ∀ h4 ws, ws.length = 300 → (∀ w ∈ ws, 0 ≤ w ∧ w < 18446744073709551616) → Fr [bw, br] h3 h4 → HeapAt h4 b bw bd B { s with words := ws } → h4.get br = some (.live (wc ws) 25 true) → J h4) ?_ fun J hJ => ?_
      · clear gbr
        intro h4 ws hwl hwr f4 hh4 gbr
        have R4 := keepR h4 f4
        obtain ⟨lv4, Lv4, s1, s2, s3⟩ := R4.st
        have cx4 : ∀ off, h4.cell bx off = [AV.int .i64 300, lv4, Lv4][off]? := fun off => cell_of s1 off
        have c1 : ¬ ((0 : Int) ≤ -1 ∧ (-1 : Int) < (ws.length : Nat)) := by omega
        have c2 : ¬ ((0 : Int) ≤ 300 ∧ (300 : Int) < (ws.length : Nat)) := by omega
        have g4 : Hs.good { s with words := ws } := ⟨by show ws.length ≤ _; omega, by show s.heads.length = ws.length / 64 + 1; rw [hwl, ← e1]; exact g.hlen, g.llen, g.kinds, hwr, g.hrange, by show s.top ≤ ws.length; have := g.top; omega⟩
        have hrow4 : Row h4 (.sl br 0 300 (.more 1)) ws.length 1 (wc ws) := ⟨by rw [wc_length, Nat.mul_one], .inr ⟨br, 0, .more 1, by rw [hwl], rfl, H.read_eq gbr (by rw [wc_length]; omega) (by rw [List.drop_zero, List.take_of_length_le (by rw [wc_length]; omega)])⟩⟩
        have hs1 := fun K => store_c hh4 (-1) 5 K
        have hs2 := fun K => store_c hh4 300 5 K
        have el : ({ s with words := ws } : Hs).words.length = ws.length := rfl
        rw [el, if_neg c1] at hs1
        rw [el, if_neg c2] at hs2
        simp only [go_sem, reduceIte, Nat.reduceAdd, Nat.reduceSub, Nat.reduceMul, Nat.reducePow, Nat.reduceLT, Nat.reduceLeDiff, Nat.reduceEqDiff, Int.reduceAdd, Int.reduceSub, Int.reduceMul, Int.reduceNeg, Int.reducePow, Int.reduceLT, Int.reduceLE, Int.reduceEq, Int.reduceNe, Int.reduceToNat, Int.toNat_natCast, Nat.zero_add, Nat.add_zero, Nat.mul_one, Nat.one_mul, Bool.not_true, Bool.not_false, ne_eq, not_true_eq_false, not_false_eq_true, Bool.false_eq_true, hs1, hs2, cx4]
        refine rread_c hrow4 hwr (by omega) (s2.fr R4.fr) (by rw [← e2]; exact g.llen) t (fun hnone h5 f5 => ?_) fun os5 hsome h5 bx5 BL5 l5 R5 hc5 r5 hl5 => ?_
        · have hh5 := hh4.fr0 f5
          simp only [go_sem, reduceIte, Nat.reduceAdd, Nat.reduceSub, Nat.reduceMul, Nat.reducePow, Nat.reduceLT, Nat.reduceLeDiff, Nat.reduceEqDiff, Int.reduceAdd, Int.reduceSub, Int.reduceMul, Int.reduceNeg, Int.reducePow, Int.reduceLT, Int.reduceLE, Int.reduceEq, Int.reduceNe, Int.reduceToNat, Int.toNat_natCast, Nat.zero_add, Nat.add_zero, Nat.mul_one, Nat.one_mul, Bool.not_true, Bool.not_false, ne_eq, not_true_eq_false, not_false_eq_true, Bool.false_eq_true]
          refine close_c hh5 g4 t (fun _ h6 f6 => ?_) fun os' q => by rw [show closeO ({ s with words := ws } : Hs).lays _ t = none by rw [show ({ s with words := ws } : Hs).lays = lays from e2]; exact hnone] at q; cases q
          have hh6 := hh5.fr0 f6
          have R6 := (R4.keep0 f5).keep0 f6
          simp only [go_sem, reduceIte, Nat.reduceAdd, Nat.reduceSub, Nat.reduceMul, Nat.reducePow, Nat.reduceLT, Nat.reduceLeDiff, Nat.reduceEqDiff, Int.reduceAdd, Int.reduceSub, Int.reduceMul, Int.reduceNeg, Int.reducePow, Int.reduceLT, Int.reduceLE, Int.reduceEq, Int.reduceNe, Int.reduceToNat, Int.toNat_natCast, Nat.zero_add, Nat.add_zero, Nat.mul_one, Nat.one_mul, Bool.not_true, Bool.not_false, ne_eq, not_true_eq_false, not_false_eq_true, Bool.false_eq_true, top_c hh6]
          refine rtop_c R6 (by omega) fun h7 f7 => ?_
          have ht : topR lays l = s.top := by rw [← e2]; exact t2.top
          have hh7 := hh6.fr0 f7
          have b1 : (-1 : Int) < 0 ∨ (({ s with words := ws } : Hs).words.length : Int) ≤ -1 := .inl (by decide)
          have b2 : (300 : Int) < 0 ∨ (({ s with words := ws } : Hs).words.length : Int) ≤ 300 := .inr (by rw [el, hwl]; decide)
          have hL1 := fun K => load_c hh7 (-1) K
          have hL2 := fun K => load_c hh7 300 K
          rw [if_pos b1] at hL1
          rw [if_pos b2] at hL2
          simp only [go_sem, reduceIte, Nat.reduceAdd, Nat.reduceSub, Nat.reduceMul, Nat.reducePow, Nat.reduceLT, Nat.reduceLeDiff, Nat.reduceEqDiff, Int.reduceAdd, Int.reduceSub, Int.reduceMul, Int.reduceNeg, Int.reducePow, Int.reduceLT, Int.reduceLE, Int.reduceEq, Int.reduceNe, Int.reduceToNat, Int.toNat_natCast, Nat.zero_add, Nat.add_zero, Nat.mul_one, Nat.one_mul, Bool.not_true, Bool.not_false, ne_eq, not_true_eq_false, not_false_eq_true, Bool.false_eq_true, ht, hL1, hL2]
          exact exLives_c fun h' _ => rfl
        · have hh5 := hh4.fr0 R5.fr
          rw [hwl] at R5
          simp only [go_sem, reduceIte, Nat.reduceAdd, Nat.reduceSub, Nat.reduceMul, Nat.reducePow, Nat.reduceLT, Nat.reduceLeDiff, Nat.reduceEqDiff, Int.reduceAdd, Int.reduceSub, Int.reduceMul, Int.reduceNeg, Int.reducePow, Int.reduceLT, Int.reduceLE, Int.reduceEq, Int.reduceNe, Int.reduceToNat, Int.toNat_natCast, Nat.zero_add, Nat.add_zero, Nat.mul_one, Nat.one_mul, Bool.not_true, Bool.not_false, ne_eq, not_true_eq_false, not_false_eq_true, Bool.false_eq_true]
          refine close_c hh5 g4 t (fun q => by rw [show closeO ({ s with words := ws } : Hs).lays ({ s with words := ws } : Hs).words t = some os5 by rw [show ({ s with words := ws } : Hs).lays = lays from e2]; exact hsome] at q; cases q) fun os' q h6 m s6 f6 hm6 hh6 A6 el6 ew6 => ?_
          have q' : closeO ({ s with words := ws } : Hs).lays ({ s with words := ws } : Hs).words t = some os5 := by rw [show ({ s with words := ws } : Hs).lays = lays from e2]; exact hsome
          rw [q'] at q; injection q with q; subst q
          have el6 : s6.lays = lays := by rw [el6]; exact e2
          have ew6 : s6.words.length = 300 := by rw [ew6]; exact hwl
          have f14 : Fr [] h1 h4 := R4.fr
          have R5' := R5.rebase hc5 f14 s2
          have al4 := hh4.alive
          have ap5 : ∀ c ∈ b :: bw :: bd :: B, c ∉ blocksR bx5 BL5 l5 := fun c hc q => al4 c hc (R5.new c q)
          have f06 : Fr [] h1 h6 := R5'.fr.cons (fun c hc => t2.new c (by simp at hc ⊢; rcases hc with q | q <;> simp [q])) f6
          have R6 := R5'.keep f6 (fun c hc q => ap5 c (by simp at q ⊢; rcases q with q | q <;> simp [q]) hc) f06
          have t6 : Both h1 h6 b bw m B s6 os5 bx5 BL5 l5 := by
            refine ⟨hh6, A6, by rw [ew6, el6]; exact R6, by rw [el6]; exact r5, fun c hc q => ?_, fun c hc => ?_, by rw [el6]; exact wholeO_fit (closeO_whole hsome)⟩
            · simp only [List.mem_cons] at hc
              rcases hc with hc | hc | hc | hc
              · exact ap5 c (by simp [hc]) q
              · exact ap5 c (by simp [hc]) q
              · rw [hc] at q; exact R5.alive m q hm6
              · exact ap5 c (by simp [hc]) q
            · simp only [List.mem_cons] at hc
              rcases hc with hc | hc | hc | hc
              · exact t2.new c (by simp [hc])
              · exact t2.new c (by simp [hc])
              · rw [hc]; exact R5'.fr.free hm6
              · exact t2.new c (by simp [hc])
          have hl5' : l5.length ≤ 900 := by
            have h1 := r5.len
            have h2 := os_le os5
            have h3 := A6.top
            have h4 := A6.good.top
            omega
          simp only [go_sem, reduceIte, Nat.reduceAdd, Nat.reduceSub, Nat.reduceMul, Nat.reducePow, Nat.reduceLT, Nat.reduceLeDiff, Nat.reduceEqDiff, Int.reduceAdd, Int.reduceSub, Int.reduceMul, Int.reduceNeg, Int.reducePow, Int.reduceLT, Int.reduceLE, Int.reduceEq, Int.reduceNe, Int.reduceToNat, Int.toNat_natCast, Nat.zero_add, Nat.add_zero, Nat.mul_one, Nat.one_mul, Bool.not_true, Bool.not_false, ne_eq, not_true_eq_false, not_false_eq_true, Bool.false_eq_true]
          refine same_c t6 hl5' fun h7 f7 => ?_
          simp only [go_sem, reduceIte, Nat.reduceAdd, Nat.reduceSub, Nat.reduceMul, Nat.reducePow, Nat.reduceLT, Nat.reduceLeDiff, Nat.reduceEqDiff, Int.reduceAdd, Int.reduceSub, Int.reduceMul, Int.reduceNeg, Int.reducePow, Int.reduceLT, Int.reduceLE, Int.reduceEq, Int.reduceNe, Int.reduceToNat, Int.toNat_natCast, Nat.zero_add, Nat.add_zero, Nat.mul_one, Nat.one_mul, Bool.not_true, Bool.not_false, ne_eq, not_true_eq_false, not_false_eq_true, Bool.false_eq_true]
          exact exLives_c fun h' _ => rfl
      · simp only [go_sem, reduceIte, Nat.reduceAdd, Nat.reduceSub, Nat.reduceMul, Nat.reducePow, Nat.reduceLT, Nat.reduceLeDiff, Nat.reduceEqDiff, Int.reduceAdd, Int.reduceSub, Int.reduceMul, Int.reduceNeg, Int.reducePow, Int.reduceLT, Int.reduceLE, Int.reduceEq, Int.reduceNe, Int.reduceToNat, Int.toNat_natCast, Nat.zero_add, Nat.add_zero, Nat.mul_one, Nat.one_mul, Bool.not_true, Bool.not_false, ne_eq, not_true_eq_false, not_false_eq_true, Bool.false_eq_true, hrw.len]
        have hh3 : HeapAt h3 b bw bd B { s with words := s.words } := t3.hh
        refine loop_r (W.length + 1) (fun c ls h4 => ∃ (i : Nat) (ws : List Int), ls = [.int .i64 i] ∧ i ≤ W.length ∧ ws.length = 300 ∧ (∀ w ∈ ws, 0 ≤ w ∧ w < 18446744073709551616) ∧ Fr [bw, br] h3 h4 ∧ HeapAt h4 b bw bd B { s with words := ws } ∧ h4.get br = some (.live (wc ws) 25 true) ∧ c = W.length + 1 - i)
          ⟨0, s.words, rfl, by omega, e1, g.wrange, Fr.refl _ _, hh3, gbr, rfl⟩ ?_
        rintro c ls h4 ⟨i, ws, rfl, hi, hwl, hwr, f4, hh4, gb4, rfl⟩
        by_cases q1 : (i : Int) < W.length
        · have hi' : i < W.length := by omega
          obtain ⟨w, hwi⟩ : ∃ w, W[i]? = some w := ⟨W[i], by simp [hi']⟩
          have hwi2 := hW w (List.mem_of_getElem? hwi)
          have f14 : Fr [] h1 h4 := (keepR h4 f4).fr
          obtain ⟨bo, oo, m1, m2⟩ := (hrw.fr f14).at (i := i) (x := .int .u64 w) (by omega) q1 (by rw [Int.toNat_natCast, wc_get, hwi]; rfl)
          have i0 : (0 : Int) ≤ i := by omega
          have i1 : (i : Int) < ((300 : Nat) : Int) := by omega
          have hs := fun K => store_c hh4 i w K
          have el : ({ s with words := ws } : Hs).words.length = ws.length := rfl
          have ep : (Hs.put { s with words := ws } i w) = { s with words := ws.set i w } := by simp [Hs.put]
          rw [el, if_pos (by omega), ep] at hs
          have hne : bw ≠ br := hbn bw (by simp)
          have gb5 : (h4.set bw (.live (wc (ws.set i w)) 25 true)).get br = some (.live (wc ws) 25 true) := by rw [H.get_other _ _ (fun e => hne e.symm)]; exact gb4
          have st := st_one (k := .u64) (n := w) gb5 (off := i) (by rw [wc_length]; omega)
          rw [wc_set] at st
          have en : IntKind.i64.wrap ((i : Int) + 1) = ((i + 1 : Nat) : Int) := by rw [i64_id (by omega) (by omega)]; rfl
          have hh5 := hh4.put i w
          rw [ep] at hh5
          simp only [go_sem, reduceIte, Nat.reduceAdd, Nat.reduceSub, Nat.reduceMul, Nat.reducePow, Nat.reduceLT, Nat.reduceLeDiff, Nat.reduceEqDiff, Int.reduceAdd, Int.reduceSub, Int.reduceMul, Int.reduceNeg, Int.reducePow, Int.reduceLT, Int.reduceLE, Int.reduceEq, Int.reduceNe, Int.reduceToNat, Int.toNat_natCast, Nat.zero_add, Nat.add_zero, Nat.mul_one, Nat.one_mul, Bool.not_true, Bool.not_false, ne_eq, not_true_eq_false, not_false_eq_true, Bool.false_eq_true, q1, m1, m2, hs, i0, i1, st, en, Int.toNat_natCast]
          refine ⟨W.length + 1 - (i + 1), by omega, i + 1, ws.set i w, rfl, by omega, by simpa using hwl, fun x hx => ?_, (f4.trans (Fr.put (by simp))).trans (Fr.put (by simp)), hh5.fr (S := [br]) (Fr.put (by simp)) (fun c hc => by simpa using hbn c hc), H.get_same .., rfl⟩
          rcases List.mem_or_eq_of_mem_set hx with hx | rfl
          · exact hwr x hx
          · exact hwi2
        · simp only [go_sem, reduceIte, Nat.reduceAdd, Nat.reduceSub, Nat.reduceMul, Nat.reducePow, Nat.reduceLT, Nat.reduceLeDiff, Nat.reduceEqDiff, Int.reduceAdd, Int.reduceSub, Int.reduceMul, Int.reduceNeg, Int.reducePow, Int.reduceLT, Int.reduceLE, Int.reduceEq, Int.reduceNe, Int.reduceToNat, Int.toNat_natCast, Nat.zero_add, Nat.add_zero, Nat.mul_one, Nat.one_mul, Bool.not_true, Bool.not_false, ne_eq, not_true_eq_false, not_false_eq_true, Bool.false_eq_true, q1]
          exact hJ h4 ws hwl hwr f4 hh4 gb4
  · by_cases c : (300 : Int) < W.length
    · obtain ⟨v', w1, w2⟩ := sl_none hrw1 (j := 300) (by omega) (by omega)
      have w1 : sliceOp (.row 1) vw none (some (.int .i64 300)) none = some v' := w1
      simp only [go_sem, reduceIte, Nat.reduceAdd, Nat.reduceSub, Nat.reduceMul, Nat.reducePow, Nat.reduceLT, Nat.reduceLeDiff, Nat.reduceEqDiff, Int.reduceAdd, Int.reduceSub, Int.reduceMul, Int.reduceNeg, Int.reducePow, Int.reduceLT, Int.reduceLE, Int.reduceEq, Int.reduceNe, Int.reduceToNat, Int.toNat_natCast, Nat.zero_add, Nat.add_zero, Nat.mul_one, Nat.one_mul, Bool.not_true, Bool.not_false, ne_eq, not_true_eq_false, not_false_eq_true, Bool.false_eq_true, hrw1.len, c, w1]
      have e : (wc W).take (300 * 1) = wc (W.take 300) := by simp [wc, List.map_take]
      rw [e] at w2
      have hl : (W.take 300).length = 300 := by simp; omega
      exact hJ v' (W.take 300) (by rw [hl]; exact w2) (fun n hn => hW n (List.mem_of_mem_take hn)) (by omega)
    · simp only [go_sem, reduceIte, Nat.reduceAdd, Nat.reduceSub, Nat.reduceMul, Nat.reducePow, Nat.reduceLT, Nat.reduceLeDiff, Nat.reduceEqDiff, Int.reduceAdd, Int.reduceSub, Int.reduceMul, Int.reduceNeg, Int.reducePow, Int.reduceLT, Int.reduceLE, Int.reduceEq, Int.reduceNe, Int.reduceToNat, Int.toNat_natCast, Nat.zero_add, Nat.add_zero, Nat.mul_one, Nat.one_mul, Bool.not_true, Bool.not_false, ne_eq, not_true_eq_false, not_false_eq_true, Bool.false_eq_true, hrw1.len, c]
      exact hJ vw W hrw1 hW (by omega)
end Go.Proofs.Ytljkkfcokpimkaa.X
