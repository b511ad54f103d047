/- What the law law17 needs: texts of one's own, put together; functions' contracts and plain facts. -/
import Derived.Test.YtljkkfcokpimkaaT17C
set_option linter.unusedVariables false
set_option linter.unusedSimpArgs false
set_option maxRecDepth 20000
namespace Go.Proofs.Ytljkkfcokpimkaa.X
open Go Go.RowKit
section
variable {h0 h : H} {b bw bd bx : Nat} {B BL : List Nat} {s : Hs} {os : List Ob} {l : List RV}
theorem same_c (t : Both h0 h b bw bd B s os bx BL l) (hl : l.length ≤ 900) {K : AV → H → Prop} (hK : ∀ h', Fr [] h h' → K (.bool true) h') : C 76 [.ptr b 0, .ptr bx 0] h K := by
  refine run76 ?_
  have A := t.A
  have gw := A.good.wlen
  have ht := t.top
  unfold sh76
  simp only [top_c t.hh]
  refine rtop_c t.R (by omega) fun h1 f1 => ?_
  have t1 := t.keep0 f1
  obtain ⟨lv1, Lv1, cx1, rl1, ov1⟩ := t1.R.cells
  simp only [go_sem, reduceIte, Nat.reduceAdd, Nat.reduceSub, Nat.reduceMul, Nat.reducePow, Nat.reduceLT, Nat.reduceLeDiff, Nat.reduceEqDiff, Int.reduceAdd, Int.reduceSub, Int.reduceMul, Int.reduceNeg, Int.reducePow, Int.reduceLT, Int.reduceLE, Int.reduceEq, Int.reduceNe, Int.reduceToNat, Int.toNat_natCast, Nat.zero_add, Nat.add_zero, Nat.mul_one, Nat.one_mul, Bool.not_true, Bool.not_false, ne_eq, not_true_eq_false, not_false_eq_true, Bool.false_eq_true, ht, cx1, size_c t1.hh]
  refine join_r (fun (J : H → Prop) => ∀ h', Fr [] h h' → J h') ?_ fun J hJ => ?_
  · intro h2 f2
    have t2 := t.keep0 f2
    refine objects_p t2.hh A.pre fun v h3 f3 r => ?_
    have t3 := t2.keep0 f3
    obtain ⟨lv3, Lv3, cx3, rl3, ov3⟩ := t3.R.cells
    have hol := t.r.len
    simp only [go_sem, reduceIte, Nat.reduceAdd, Nat.reduceSub, Nat.reduceMul, Nat.reducePow, Nat.reduceLT, Nat.reduceLeDiff, Nat.reduceEqDiff, Int.reduceAdd, Int.reduceSub, Int.reduceMul, Int.reduceNeg, Int.reducePow, Int.reduceLT, Int.reduceLE, Int.reduceEq, Int.reduceNe, Int.reduceToNat, Int.toNat_natCast, Nat.zero_add, Nat.add_zero, Nat.mul_one, Nat.one_mul, Bool.not_true, Bool.not_false, ne_eq, not_true_eq_false, not_false_eq_true, Bool.false_eq_true, r.len, cx3, ov3.row.len, hol]
    refine join_r (fun (J : H → Prop) => ∀ h', Fr [] h h' → J h') (fun h' f => hK h' f) fun J hJ => ?_
    refine loop_r (l.length + 1) (fun c ls h4 => ∃ i : Nat, ls = [.int .i64 i] ∧ i ≤ l.length ∧ Fr [] h3 h4 ∧ c = l.length + 1 - i) ⟨0, rfl, by omega, Fr.refl _ _, rfl⟩ ?_
    rintro c ls h4 ⟨i, rfl, hi, f4, rfl⟩
    by_cases q1 : (i : Int) < l.length
    · have hi' : i < l.length := by omega
      obtain ⟨x, hx⟩ : ∃ x, l[i]? = some x := ⟨l[i], by simp [hi']⟩
      obtain ⟨ob, a, p1, p2, p3, p4, p5⟩ := t.r.get i x hx
      have p5 : findO os a = some ob := by simpa using p5
      have t4 := t3.keep0 f4
      have hok := t4.R.el x (List.mem_of_getElem? hx)
      obtain ⟨b', q, z1, z2, z3⟩ := (ov3.fr f4 (by simp)).obj hx
      simp only [go_sem, reduceIte, Nat.reduceAdd, Nat.reduceSub, Nat.reduceMul, Nat.reducePow, Nat.reduceLT, Nat.reduceLeDiff, Nat.reduceEqDiff, Int.reduceAdd, Int.reduceSub, Int.reduceMul, Int.reduceNeg, Int.reducePow, Int.reduceLT, Int.reduceLE, Int.reduceEq, Int.reduceNe, Int.reduceToNat, Int.toNat_natCast, Nat.zero_add, Nat.add_zero, Nat.mul_one, Nat.one_mul, Bool.not_true, Bool.not_false, ne_eq, not_true_eq_false, not_false_eq_true, Bool.false_eq_true, q1, z1, z3]
      refine ⟨rfl, fun d hd => ?_⟩
      have f5 : Fr [] h4 (h4.set d (.live x.cells 89 true)) := (Fr.refl _ _).set' hd
      have hw := RV.leaves hok
      have ec : (AV.agg x.cells).cells = x.cells := rfl
      have el : x.cells.length = 5 := rfl
      have cd : ∀ off, (h4.set d (.live x.cells 89 true)).cell d off = [AV.int .i64 x.r.a, .int .i64 x.r.sh, .int .i64 x.r.n, x.fv, x.bv][off]? := fun off => cell_set
      have t5 := t4.keep0 f5
      obtain ⟨bo, qo, m1, m2⟩ := (r.fr (f4.trans f5)).at (i := i) (x := .int .i64 a) (by omega) (by rw [hol]; exact q1) (by rw [Int.toNat_natCast]; unfold nc; rw [List.getElem?_map, p2]; rfl)
      have en : IntKind.i64.wrap ((i : Int) + 1) = ((i + 1 : Nat) : Int) := by rw [i64_id (by omega) (by omega)]; rfl
      simp only [go_sem, reduceIte, Nat.reduceAdd, Nat.reduceSub, Nat.reduceMul, Nat.reducePow, Nat.reduceLT, Nat.reduceLeDiff, Nat.reduceEqDiff, Int.reduceAdd, Int.reduceSub, Int.reduceMul, Int.reduceNeg, Int.reducePow, Int.reduceLT, Int.reduceLE, Int.reduceEq, Int.reduceNe, Int.reduceToNat, Int.toNat_natCast, Nat.zero_add, Nat.add_zero, Nat.mul_one, Nat.one_mul, Bool.not_true, Bool.not_false, ne_eq, not_true_eq_false, not_false_eq_true, Bool.false_eq_true, stA_p, ec, el, agg5_write hw, cd, p3, len_a t5.hh A, shape_a t5.hh A, p5, m1, m2, p4.1, p4.2.1, en]
      exact ⟨l.length + 1 - (i + 1), by omega, i + 1, rfl, by omega, f4.trans f5, rfl⟩
    · simp only [go_sem, reduceIte, Nat.reduceAdd, Nat.reduceSub, Nat.reduceMul, Nat.reducePow, Nat.reduceLT, Nat.reduceLeDiff, Nat.reduceEqDiff, Int.reduceAdd, Int.reduceSub, Int.reduceMul, Int.reduceNeg, Int.reducePow, Int.reduceLT, Int.reduceLE, Int.reduceEq, Int.reduceNe, Int.reduceToNat, Int.toNat_natCast, Nat.zero_add, Nat.add_zero, Nat.mul_one, Nat.one_mul, Bool.not_true, Bool.not_false, ne_eq, not_true_eq_false, not_false_eq_true, Bool.false_eq_true, q1]
      exact hJ h4 ((f2.trans f3).trans f4)
  · refine rrow_c t1 fun v h2 f2 o => ?_
    simp only [go_sem, reduceIte, Nat.reduceAdd, Nat.reduceSub, Nat.reduceMul, Nat.reducePow, Nat.reduceLT, Nat.reduceLeDiff, Nat.reduceEqDiff, Int.reduceAdd, Int.reduceSub, Int.reduceMul, Int.reduceNeg, Int.reducePow, Int.reduceLT, Int.reduceLE, Int.reduceEq, Int.reduceNe, Int.reduceToNat, Int.toNat_natCast, Nat.zero_add, Nat.add_zero, Nat.mul_one, Nat.one_mul, Bool.not_true, Bool.not_false, ne_eq, not_true_eq_false, not_false_eq_true, Bool.false_eq_true, o.row.len]
    refine loop_r (s.words.length + 1) (fun c ls h3 => ∃ i : Nat, ls = [.int .i64 i] ∧ i ≤ s.words.length ∧ h3 = h2 ∧ c = s.words.length + 1 - i) ⟨0, rfl, by omega, rfl, rfl⟩ ?_
    rintro c ls h3 ⟨i, rfl, hi, he, rfl⟩
    rw [he]
    by_cases q1 : (i : Int) < (s.words.length : Nat)
    · have hg : (wc s.words)[(i : Int).toNat]? = some (.int .u64 (s.wd i)) := by
        rw [wc_get]
        unfold Hs.wd
        rw [Int.toNat_natCast, List.getD_eq_getElem?_getD, List.getElem?_eq_getElem (by omega)]
        rfl
      obtain ⟨bo, qo, m1, m2⟩ := o.row.at (i := i) (by omega) q1 hg
      have c1 : ¬ ((i : Int) < 0 ∨ (s.words.length : Int) ≤ i) := by omega
      have en : IntKind.i64.wrap ((i : Int) + 1) = ((i + 1 : Nat) : Int) := by rw [i64_id (by omega) (by omega)]; rfl
      simp only [go_sem, reduceIte, Nat.reduceAdd, Nat.reduceSub, Nat.reduceMul, Nat.reducePow, Nat.reduceLT, Nat.reduceLeDiff, Nat.reduceEqDiff, Int.reduceAdd, Int.reduceSub, Int.reduceMul, Int.reduceNeg, Int.reducePow, Int.reduceLT, Int.reduceLE, Int.reduceEq, Int.reduceNe, Int.reduceToNat, Int.toNat_natCast, Nat.zero_add, Nat.add_zero, Nat.mul_one, Nat.one_mul, Bool.not_true, Bool.not_false, ne_eq, not_true_eq_false, not_false_eq_true, Bool.false_eq_true, q1, m1, m2, load_c (t1.keep0 f2).hh, c1, en]
      exact ⟨s.words.length + 1 - (i + 1), by omega, i + 1, rfl, by omega, rfl⟩
    · simp only [go_sem, reduceIte, Nat.reduceAdd, Nat.reduceSub, Nat.reduceMul, Nat.reducePow, Nat.reduceLT, Nat.reduceLeDiff, Nat.reduceEqDiff, Int.reduceAdd, Int.reduceSub, Int.reduceMul, Int.reduceNeg, Int.reducePow, Int.reduceLT, Int.reduceLE, Int.reduceEq, Int.reduceNe, Int.reduceToNat, Int.toNat_natCast, Nat.zero_add, Nat.add_zero, Nat.mul_one, Nat.one_mul, Bool.not_true, Bool.not_false, ne_eq, not_true_eq_false, not_false_eq_true, Bool.false_eq_true, q1]
      exact hJ h2 (f1.trans f2)
end
end Go.Proofs.Ytljkkfcokpimkaa.X
set_option linter.unusedVariables false
set_option linter.unusedSimpArgs false
set_option maxRecDepth 20000
namespace Go.Proofs.Ytljkkfcokpimkaa.X
open Go Go.RowKit
theorem parse_go {lays : List (Int × Int)} (hl : lays.length ≤ 512) {ws : List Int} {top : Nat} : ∀ (post acc : List Ob) (r : List Int) (k : Nat), ws = rowOf (acc ++ post) ++ r → (rowOf (acc ++ post)).length ≤ top → (∀ o ∈ post, needN lays o.sh o.n = ((o.row.length : Int), 0)) → top + 1 ≤ k + (rowOf acc).length →
    ∃ k', parse lays ws top k acc = parse lays ws top k' (acc ++ post) ∧ top + 1 ≤ k' + (rowOf (acc ++ post)).length
  | [], acc, r, k, _, _, _, hk => ⟨k, by rw [List.append_nil], by rw [List.append_nil]; exact hk⟩
  | o :: post, acc, r, k, hw, ht, he, hk => by
    have hp := row_pos o
    have hlen : (rowOf (acc ++ o :: post)).length = (rowOf acc).length + o.row.length + (rowOf post).length := by rw [rowOf_append, rowOf_cons]; simp; omega
    obtain ⟨k, rfl⟩ : ∃ k', k = k' + 1 := ⟨k - 1, by omega⟩
    have hr : o.row = headN o.sh o.n :: o.body := rfl
    have hw2 : ws = rowOf acc ++ (headN o.sh o.n :: (o.body ++ (rowOf post ++ r))) := by rw [hw, rowOf_append, rowOf_cons, hr]; simp
    have hwd : wdL ws (rowOf acc).length = headN o.sh o.n := by
      unfold wdL
      rw [hw2, List.getD_eq_getElem?_getD, List.getElem?_append_right (Nat.le_refl _), Nat.sub_self]; rfl
    have ho := he o (by simp)
    obtain ⟨p1, p2, p3, p4, p5, p6⟩ := need_pos (lays := lays) (i := o.sh) (n := o.n) (by rw [ho])
    have e1 : shapeOf (wdL ws (rowOf acc).length) = o.sh := by rw [hwd, headN_shape (by omega) (by omega)]
    have e2 : lenOf (wdL ws (rowOf acc).length) = o.n := by rw [hwd, headN_len (by omega) (by omega)]
    have eN : needL lays ws (rowOf acc).length = ((o.row.length : Int), 0) := by unfold needL; rw [e1, e2, ho]
    have eO : obL lays ws (rowOf acc).length = o := by
      unfold obL
      rw [e1, e2, eN]
      have : (ws.drop ((rowOf acc).length + 1)).take (((o.row.length : Int)).toNat - 1) = o.body := by
        rw [hw2, ← List.drop_drop, List.drop_left]
        simp only [List.drop_succ_cons, List.drop_zero, Int.toNat_natCast, hr, List.length_cons, Nat.add_sub_cancel]
        rw [List.take_left]
      rw [this]
    have nb : ¬ badL lays ws top (rowOf acc).length := by
      unfold badL
      rw [eN, e1, e2, hwd]
      simp only [ne_eq, not_true_eq_false, false_or]
      omega
    have ha : (rowOf (acc ++ [o])).length = (rowOf acc).length + o.row.length := by rw [rowOf_append]; simp [rowOf]
    have hc : acc ++ o :: post = acc ++ [o] ++ post := by simp
    obtain ⟨k', q1, q2⟩ := parse_go (ws := ws) hl post (acc ++ [o]) r k (by rw [← hc, hw]) (by rw [← hc]; exact ht) (fun o' h' => he o' (by simp [h'])) (by omega)
    refine ⟨k', ?_, by rw [hc]; exact q2⟩
    rw [parse, if_pos (by omega), if_neg nb, eO, q1, ← hc]
theorem parse_all {s : Hs} {os : List Ob} (A : Abs s os) : parse s.lays s.words s.top (s.top + 1) [] = some os := by
  obtain ⟨k, h1, h2⟩ := parse_go (ws := s.words) (top := s.top) A.good.llen os [] _ (s.top + 1) (by rw [List.nil_append]; exact A.words) (by rw [List.nil_append, A.top]; exact Nat.le_refl _) A.each (by omega)
  rw [List.nil_append] at h1 h2
  rw [← A.top] at h2
  obtain ⟨k, rfl⟩ : ∃ k', k = k' + 1 := ⟨k - 1, by omega⟩
  rw [h1, parse, if_neg (by rw [A.top]; omega)]
theorem parse_none {lays : List (Int × Int)} (hl : lays.length ≤ 512) {ws : List Int} {top : Nat} (pre : List Ob) (x : Int) (r : List Int) (hw : ws = rowOf pre ++ x :: r) (ht : (rowOf pre).length < top) (he : ∀ o ∈ pre, needN lays o.sh o.n = ((o.row.length : Int), 0)) (hx : headN (shapeOf x) (lenOf x) ≠ x) :
    parse lays ws top (top + 1) [] = none := by
  obtain ⟨k, h1, h2⟩ := parse_go (ws := ws) (top := top) hl pre [] (x :: r) (top + 1) (by rw [List.nil_append]; exact hw) (by rw [List.nil_append]; omega) he (by omega)
  rw [List.nil_append] at h1 h2
  obtain ⟨k, rfl⟩ : ∃ k', k = k' + 1 := ⟨k - 1, by omega⟩
  have hwd : wdL ws (rowOf pre).length = x := by
    unfold wdL
    rw [hw, List.getD_eq_getElem?_getD, List.getElem?_append_right (Nat.le_refl _), Nat.sub_self]; rfl
  rw [h1, parse, if_pos ht, if_pos (.inr (.inl (by rw [hwd]; exact hx)))]
theorem close_none {lays : List (Int × Int)} {ws : List Int} {n : Nat} (h : parse lays ws n (n + 1) [] = none) : closeO lays ws n = none := by
  unfold closeO
  split
  · rfl
  · rw [Int.toNat_natCast, h]
theorem tail_zero {W : Int} (h0 : 0 ≤ W) (h1 : W < 18446744073709551616) {m : Nat} (hm : m ≤ 8) (hz : ∀ k, m ≤ k → k < 8 → byteW W k = 0) : W / 2 ^ (8 * m) = 0 := by
  have : ∀ j, j + m ≤ 8 → W / 2 ^ (8 * (8 - j)) = 0 := by
    intro j
    induction j with
    | zero => intro _; exact Int.ediv_eq_zero_of_lt h0 (by simpa using h1)
    | succ j ih =>
      intro hj
      have := pow8_step W (8 - (j + 1))
      rw [show 8 - (j + 1) + 1 = 8 - j by omega, ih (by omega), hz _ (by omega) (by omega)] at this
      rw [← this]; rfl
  have := this (8 - m) (by omega)
  rwa [show 8 - (8 - m) = m by omega] at this
section
variable {h0 h : H} {b bw bd bx : Nat} {B BL : List Nat} {s : Hs} {os : List Ob} {l : List RV}
theorem Both.whole (t : Both h0 h b bw bd B s os bx BL l) : wholeO s.lays os = true := by
  unfold wholeO
  rw [List.all_eq_true]
  intro o ho
  obtain ⟨i, hi⟩ := List.getElem?_of_mem ho
  have hil : i < l.length := by rw [← t.r.len]; exact (List.getElem?_eq_some_iff.1 hi).1
  obtain ⟨x, hx⟩ : ∃ x, l[i]? = some x := ⟨l[i], by simp [hil]⟩
  obtain ⟨o', a, p1, p2, p3, p4, p5⟩ := t.r.get i x hx
  rw [hi] at p1; injection p1 with p1; subst p1
  have p5 : findO os a = some o := by simpa using p5
  unfold okO
  split
  · rename_i k
    obtain ⟨q1, q2, q3⟩ := p4
    rw [if_pos k] at q3
    obtain ⟨_, q3, q4⟩ := q3
    obtain ⟨bw', y1, y2, y3, y4, y5⟩ := RelO.row t.A p5 ⟨q1, q2, by rw [if_pos k]; exact ⟨by assumption, q3, q4⟩⟩
    have hb : bw' = o.body := by
      rename_i hfs
      rw [hfs] at y1
      have : o.row = headN o.sh o.n :: o.body := rfl
      rw [this] at y1; injection y1 with _ y1; exact y1.symm
    subst hb
    unfold tailO
    by_cases z : o.n % 8 = 0
    · simp [z]
    · have hl := q4.1
      have hj : (o.n / 8).toNat < o.body.length := by omega
      obtain ⟨W, hW⟩ : ∃ W, o.body[(o.n / 8).toNat]? = some W := ⟨o.body[(o.n / 8).toNat], by simp [hj]⟩
      have hWr := y3 W (List.mem_of_getElem? hW)
      have : W / 2 ^ (8 * (o.n % 8).toNat) = 0 := by
        refine tail_zero hWr.1 hWr.2 (by omega) fun k k1 k2 => ?_
        have := q4.2 (8 * (o.n / 8).toNat + k) (by omega)
        rw [show (8 * (o.n / 8).toNat + k) / 8 = (o.n / 8).toNat by omega, show (8 * (o.n / 8).toNat + k) % 8 = k by omega, List.getD_eq_getElem?_getD, hW] at this
        rw [List.getD_eq_getElem?_getD, List.getElem?_eq_none (by omega)] at this
        exact this
      rw [List.getD_eq_getElem?_getD, hW]
      simp only [Option.getD_some, this, decide_true, Bool.or_true]
  · rename_i k
    rw [List.all_eq_true]
    exact t.fit o ho k
theorem Both.closeO (t : Both h0 h b bw bd B s os bx BL l) : closeO s.lays s.words s.top = some os := by
  unfold Go.Proofs.Ytljkkfcokpimkaa.X.closeO
  have := t.A.good.top
  rw [if_neg (by omega), Int.toNat_natCast, parse_all t.A]
  simp only [t.whole, if_true]
theorem Both.closed (t : Both h0 h b bw bd B s os bx BL l) {h' : H} {m : Nat} {s' : Hs} (f : Fr [b, bw] h h') (hm : h.get m = none) (hh : HeapAt h' b bw m B s') (A : Abs s' os) (e1 : s'.lays = s.lays) (e2 : s'.words.length = s.words.length) : Both h0 h' b bw m B s' os bx BL l := by
  have f0 : Fr [] h0 h' := t.R.fr.cons (fun c hc => t.new c (by simp at hc ⊢; rcases hc with q | q <;> simp [q])) f
  have ap : ∀ c ∈ b :: bw :: m :: B, c ∉ blocksR bx BL l := fun c hc q => by
    simp only [List.mem_cons] at hc
    rcases hc with hc | hc | hc | hc
    · exact t.ap c (by simp [hc]) q
    · exact t.ap c (by simp [hc]) q
    · rw [hc] at q; exact t.R.alive m q hm
    · exact t.ap c (by simp [hc]) q
  refine ⟨hh, A, ?_, by rw [e1]; exact t.r, ap, fun c hc => ?_, by rw [e1]; exact t.fit⟩
  · rw [e1, e2]
    exact t.R.keep f (fun c hc q => t.ap c (by simp at q ⊢; rcases q with q | q <;> simp [q]) hc) f0
  · simp only [List.mem_cons] at hc
    rcases hc with hc | hc | hc | hc
    · exact t.new c (by simp [hc])
    · exact t.new c (by simp [hc])
    · rw [hc]; exact t.R.fr.free hm
    · exact t.new c (by simp [hc])
theorem Both.back (t : Both h0 h b bw bd B s os bx BL l) {h' : H} (f : Fr [bw] h h') (hh : HeapAt h' b bw bd B s) : Both h0 h' b bw bd B s os bx BL l :=
  ⟨hh, t.A, t.R.keep f (fun c hc q => t.ap c (by simp at q ⊢; simp [q]) hc) (t.R.fr.cons (fun c hc => t.new c (by simp at hc ⊢; simp [hc])) f), t.r, t.ap, t.new, t.fit⟩
end
theorem head_lt (s n : Int) : headN s n < 2199023255552 := by unfold headN; omega
theorem withN_hi {w : Int} {p l : Nat} {x : Int} (h0 : 0 ≤ w) (hw : w < 2199023255552) (hp : p = 41 ∧ l = 1 ∧ x = 1 ∨ p = 42 ∧ l = 20 ∧ x = 3) : 2199023255552 ≤ withN w p l x ∧ withN w p l x < 18446744073709551616 := by
  unfold withN
  rcases hp with ⟨rfl, rfl, rfl⟩ | ⟨rfl, rfl, rfl⟩
  · simp only [Int.reducePow]; omega
  · simp only [Int.reducePow]; omega
theorem put_back (s : Hs) {a : Int} (h0 : 0 ≤ a) (h1 : a < s.words.length) (w w' : Int) : ((s.put a w).put a w').put a (s.wd a) = s := by
  unfold Hs.put Hs.wd
  simp only [List.set_set]
  have : s.words.set a.toNat (s.words.getD a.toNat 0) = s.words := by
    apply List.ext_getElem?
    intro k
    rw [List.getElem?_set]
    split
    · rename_i e
      subst e
      rw [if_pos (by omega), List.getD_eq_getElem?_getD, List.getElem?_eq_getElem (by omega)]; rfl
    · rfl
  rw [this]
theorem put_bad {s : Hs} {os : List Ob} (A : Abs s os) {a : Int} {o : Ob} (hf : findO os a = some o) {w : Int} (hw : headN (shapeOf w) (lenOf w) ≠ w) : parse s.lays (s.words.set a.toNat w) s.top (s.top + 1) [] = none := by
  obtain ⟨pre, post, rfl, rfl⟩ := findO_split os a o hf
  have hp := row_pos o
  have ht : s.top = (rowOf pre).length + o.row.length + (rowOf post).length := by rw [A.top, rowOf_append, rowOf_cons]; simp; omega
  have hr : o.row = headN o.sh o.n :: o.body := rfl
  refine parse_none A.good.llen pre w (o.body ++ rowOf post ++ List.replicate (s.words.length - (rowOf (pre ++ o :: post)).length) 0) ?_ (by omega) (fun x hx => A.each x (by simp [hx])) hw
  conv => lhs; rw [A.words]
  rw [Int.toNat_natCast, rowOf_append, rowOf_cons, hr]
  simp only [List.append_assoc]
  rw [List.set_append_right _ _ (Nat.le_refl _), Nat.sub_self]
  simp [rowOf_append, rowOf_cons, hr]
theorem law17 (h : H) (ls : List (List AV)) (hl : LiesA h [.sl (.st [.int .i64, .int .i64]), .sl (.st [.int .i64, .int .i64, .int .i64, .int .u64, .bool]), .int .u64] ls) : C 17 (argsOf [.sl (.st [.int .i64, .int .i64]), .sl (.st [.int .i64, .int .i64, .int .i64, .int .u64, .bool]), .int .u64] ls) h yes := by
  obtain ⟨l0, ls, rfl, g0, hl⟩ := liesA_cons hl
  obtain ⟨l1, ls, rfl, g1, hl⟩ := liesA_cons hl
  obtain ⟨l2, ls, rfl, g2, hl⟩ := liesA_cons hl
  obtain rfl := liesA_nil hl
  obtain ⟨v, L, rfl, hr, hL, hm⟩ := lies_lays g0
  obtain ⟨vo, ops, rfl, hro, hops, hmo⟩ := lies_ops g1
  obtain ⟨u, rfl, u0, u1⟩ := lies_u64 g2
  show C 17 [v, vo, .int .u64 u] h yes
  refine run17 ?_
  unfold sh17
  refine made_c hr hm hro hmo hops 1000 (fun h' f => ?_) fun h' b bx n lays l t n1 n2 l1 l2 => ?_
  · simp only [go_sem, reduceIte, Nat.reduceAdd, Nat.reduceSub, Nat.reduceMul, Nat.reducePow, Nat.reduceLT, Nat.reduceLeDiff, Nat.reduceEqDiff, Int.reduceAdd, Int.reduceSub, Int.reduceMul, Int.reduceNeg, Int.reducePow, Int.reduceLT, Int.reduceLE, Int.reduceEq, Int.reduceNe, Int.reduceToNat, Int.toNat_natCast, Nat.zero_add, Nat.add_zero, Nat.mul_one, Nat.one_mul, Bool.not_true, Bool.not_false, ne_eq, not_true_eq_false, not_false_eq_true, Bool.false_eq_true]
    exact exLives_c fun h' _ => rfl
  · have n2 := n2 (by decide)
    have hn : n = 1000 := by omega
    subst hn
    obtain ⟨bw, bd, B, s, os, BL, t, e1, e2⟩ := t
    simp only [go_sem, reduceIte, Nat.reduceAdd, Nat.reduceSub, Nat.reduceMul, Nat.reducePow, Nat.reduceLT, Nat.reduceLeDiff, Nat.reduceEqDiff, Int.reduceAdd, Int.reduceSub, Int.reduceMul, Int.reduceNeg, Int.reducePow, Int.reduceLT, Int.reduceLE, Int.reduceEq, Int.reduceNe, Int.reduceToNat, Int.toNat_natCast, Nat.zero_add, Nat.add_zero, Nat.mul_one, Nat.one_mul, Bool.not_true, Bool.not_false, ne_eq, not_true_eq_false, not_false_eq_true, Bool.false_eq_true, b_pn, top_c t.hh]
    have g := t.A.good
    refine close_c t.hh g s.top (fun q => by rw [t.closeO] at q; cases q) fun os' q h1 m s1 f1 hm1 hh1 A1 el1 ew1 => ?_
    rw [t.closeO] at q; injection q with q; subst q
    have t1 := t.closed f1 hm1 hh1 A1 el1 ew1
    have etop : s1.top = s.top := by rw [t1.A.top, t.A.top]
    clear hh1 A1 f1
    simp only [go_sem, reduceIte, Nat.reduceAdd, Nat.reduceSub, Nat.reduceMul, Nat.reducePow, Nat.reduceLT, Nat.reduceLeDiff, Nat.reduceEqDiff, Int.reduceAdd, Int.reduceSub, Int.reduceMul, Int.reduceNeg, Int.reducePow, Int.reduceLT, Int.reduceLE, Int.reduceEq, Int.reduceNe, Int.reduceToNat, Int.toNat_natCast, Nat.zero_add, Nat.add_zero, Nat.mul_one, Nat.one_mul, Bool.not_true, Bool.not_false, ne_eq, not_true_eq_false, not_false_eq_true, Bool.false_eq_true]
    refine same_c t1 (by omega) fun h2 f2 => ?_
    have t2 := t1.keep0 f2
    have g1 := t1.A.good
    have ew : s1.words.length = 1000 := by rw [ew1, e1]
    simp only [go_sem, reduceIte, Nat.reduceAdd, Nat.reduceSub, Nat.reduceMul, Nat.reducePow, Nat.reduceLT, Nat.reduceLeDiff, Nat.reduceEqDiff, Int.reduceAdd, Int.reduceSub, Int.reduceMul, Int.reduceNeg, Int.reducePow, Int.reduceLT, Int.reduceLE, Int.reduceEq, Int.reduceNe, Int.reduceToNat, Int.toNat_natCast, Nat.zero_add, Nat.add_zero, Nat.mul_one, Nat.one_mul, Bool.not_true, Bool.not_false, ne_eq, not_true_eq_false, not_false_eq_true, Bool.false_eq_true]
    refine close_c t2.hh g1 (-1) (fun _ h3 f3 => ?_) fun os' q => by unfold closeO at q; rw [if_pos (.inl (by decide))] at q; cases q
    have t3 := t2.keep0 f3
    simp only [go_sem, reduceIte, Nat.reduceAdd, Nat.reduceSub, Nat.reduceMul, Nat.reducePow, Nat.reduceLT, Nat.reduceLeDiff, Nat.reduceEqDiff, Int.reduceAdd, Int.reduceSub, Int.reduceMul, Int.reduceNeg, Int.reducePow, Int.reduceLT, Int.reduceLE, Int.reduceEq, Int.reduceNe, Int.reduceToNat, Int.toNat_natCast, Nat.zero_add, Nat.add_zero, Nat.mul_one, Nat.one_mul, Bool.not_true, Bool.not_false, ne_eq, not_true_eq_false, not_false_eq_true, Bool.false_eq_true]
    refine close_c t3.hh g1 1001 (fun _ h4 f4 => ?_) fun os' q => by unfold closeO at q; rw [if_pos (.inr (by rw [ew]; decide))] at q; cases q
    have t4 := t3.keep0 f4
    simp only [go_sem, reduceIte, Nat.reduceAdd, Nat.reduceSub, Nat.reduceMul, Nat.reducePow, Nat.reduceLT, Nat.reduceLeDiff, Nat.reduceEqDiff, Int.reduceAdd, Int.reduceSub, Int.reduceMul, Int.reduceNeg, Int.reducePow, Int.reduceLT, Int.reduceLE, Int.reduceEq, Int.reduceNe, Int.reduceToNat, Int.toNat_natCast, Nat.zero_add, Nat.add_zero, Nat.mul_one, Nat.one_mul, Bool.not_true, Bool.not_false, ne_eq, not_true_eq_false, not_false_eq_true, Bool.false_eq_true]
    have gtop := g1.top
    have hll : l.length ≤ 150 := l1
    by_cases qt : (s.top : Int) < 1000
    case' pos =>
      have en : IntKind.i64.wrap ((s.top : Int) + 1) = ((s.top + 1 : Nat) : Int) := by rw [i64_id (by omega) (by omega)]; rfl
      have hnone : closeO s1.lays s1.words ((s.top + 1 : Nat) : Int) = none := by
        have hw := t4.A.words
        obtain ⟨r, hr⟩ : ∃ r, s1.words.length - (rowOf os).length = r + 1 := ⟨s1.words.length - (rowOf os).length - 1, by have := t4.A.top; omega⟩
        rw [hr, List.replicate_succ] at hw
        exact close_none (parse_none g1.llen os 0 _ hw (by have := t4.A.top; omega) t4.A.each (by decide))
      simp only [go_sem, reduceIte, Nat.reduceAdd, Nat.reduceSub, Nat.reduceMul, Nat.reducePow, Nat.reduceLT, Nat.reduceLeDiff, Nat.reduceEqDiff, Int.reduceAdd, Int.reduceSub, Int.reduceMul, Int.reduceNeg, Int.reducePow, Int.reduceLT, Int.reduceLE, Int.reduceEq, Int.reduceNe, Int.reduceToNat, Int.toNat_natCast, Nat.zero_add, Nat.add_zero, Nat.mul_one, Nat.one_mul, Bool.not_true, Bool.not_false, ne_eq, not_true_eq_false, not_false_eq_true, Bool.false_eq_true, qt, en]
      refine close_c t4.hh g1 ((s.top + 1 : Nat) : Int) (fun _ h5 f5 => ?_) fun os' q => by rw [hnone] at q; cases q
      have t5 := t4.keep0 f5
      simp only [go_sem, reduceIte, Nat.reduceAdd, Nat.reduceSub, Nat.reduceMul, Nat.reducePow, Nat.reduceLT, Nat.reduceLeDiff, Nat.reduceEqDiff, Int.reduceAdd, Int.reduceSub, Int.reduceMul, Int.reduceNeg, Int.reducePow, Int.reduceLT, Int.reduceLE, Int.reduceEq, Int.reduceNe, Int.reduceToNat, Int.toNat_natCast, Nat.zero_add, Nat.add_zero, Nat.mul_one, Nat.one_mul, Bool.not_true, Bool.not_false, ne_eq, not_true_eq_false, not_false_eq_true, Bool.false_eq_true]
    case' neg =>
      have t5 := t4
      simp only [go_sem, reduceIte, Nat.reduceAdd, Nat.reduceSub, Nat.reduceMul, Nat.reducePow, Nat.reduceLT, Nat.reduceLeDiff, Nat.reduceEqDiff, Int.reduceAdd, Int.reduceSub, Int.reduceMul, Int.reduceNeg, Int.reducePow, Int.reduceLT, Int.reduceLE, Int.reduceEq, Int.reduceNe, Int.reduceToNat, Int.toNat_natCast, Nat.zero_add, Nat.add_zero, Nat.mul_one, Nat.one_mul, Bool.not_true, Bool.not_false, ne_eq, not_true_eq_false, not_false_eq_true, Bool.false_eq_true, qt]
    all_goals
      obtain ⟨lv5, Lv5, cx5, rl5, ov5⟩ := t5.R.cells
      by_cases hz : (l.length : Int) = 0
      · simp only [go_sem, reduceIte, Nat.reduceAdd, Nat.reduceSub, Nat.reduceMul, Nat.reducePow, Nat.reduceLT, Nat.reduceLeDiff, Nat.reduceEqDiff, Int.reduceAdd, Int.reduceSub, Int.reduceMul, Int.reduceNeg, Int.reducePow, Int.reduceLT, Int.reduceLE, Int.reduceEq, Int.reduceNe, Int.reduceToNat, Int.toNat_natCast, Nat.zero_add, Nat.add_zero, Nat.mul_one, Nat.one_mul, Bool.not_true, Bool.not_false, ne_eq, not_true_eq_false, not_false_eq_true, Bool.false_eq_true, cx5, ov5.row.len, hz]
        exact exLives_c fun h' _ => rfl
      · have z1 : IntKind.u64.wrap (l.length : Int) = l.length := u64_id (by omega) (by omega)
        have z2 : u.tmod (l.length : Int) = u % l.length := Int.tmod_eq_emod_of_nonneg u0
        have m1 := Int.emod_lt_of_pos u (show (0 : Int) < l.length by omega)
        obtain ⟨k, hk⟩ := Int.eq_ofNat_of_zero_le (Int.emod_nonneg u hz)
        rw [hk] at m1 z2
        have z3 : IntKind.i64.wrap (k : Int) = k := i64_id (by omega) (by omega)
        have hkl : k < l.length := by omega
        obtain ⟨x, hx⟩ : ∃ x, l[k]? = some x := ⟨l[k], by simp [hkl]⟩
        obtain ⟨o, a, p1, p2, p3, p4, p5⟩ := t5.r.get k x hx
        have p5 : findO os a = some o := by simpa using p5
        obtain ⟨b', q, y1, y2, y3⟩ := ov5.obj hx
        have c0 := y2 0 (by decide)
        simp only [RV.cells, Nat.add_zero, List.getElem?_cons_zero, p3] at c0
        obtain ⟨u1', u2, u3, u4, u5, u6, u7, u8, u9, u10, u11⟩ := t5.A.at p5
        have hp := row_pos o
        have ha1 : (a : Int) < (s1.words.length : Nat) := by omega
        have c1 : ¬ ((a : Int) < 0 ∨ (s1.words.length : Int) ≤ a) := by omega
        have ifc : (0 : Int) ≤ a ∧ (a : Int) < (s1.words.length : Nat) := ⟨by omega, ha1⟩
        have wr := g1.wdr a
        have hlt : s1.wd a < 2199023255552 := by rw [u1']; exact head_lt ..
        have k1 := withN_hi (p := 41) (l := 1) (x := 1) wr.1 hlt (.inl ⟨rfl, rfl, rfl⟩)
        have k2 := withN_hi (p := 42) (l := 20) (x := 3) wr.1 hlt (.inr ⟨rfl, rfl, rfl⟩)
        have hpb := put_back s1 ifc.1 ifc.2 (withN (s1.wd a) 41 1 1) (withN (s1.wd a) 42 20 3)
        have n1 : closeO s1.lays (s1.put a (withN (s1.wd a) 41 1 1)).words s.top = none := by
          have := put_bad t5.A p5 (w := withN (s1.wd a) 41 1 1) (fun q => by have := head_lt (shapeOf (withN (s1.wd a) 41 1 1)) (lenOf (withN (s1.wd a) 41 1 1)); omega)
          rw [etop] at this
          exact close_none this
        have n2' : closeO s1.lays ((s1.put a (withN (s1.wd a) 41 1 1)).put a (withN (s1.wd a) 42 20 3)).words s.top = none := by
          have := put_bad t5.A p5 (w := withN (s1.wd a) 42 20 3) (fun q => by have := head_lt (shapeOf (withN (s1.wd a) 42 20 3)) (lenOf (withN (s1.wd a) 42 20 3)); omega)
          rw [etop] at this
          unfold Hs.put
          simp only [List.set_set]
          exact close_none this
        have g2 := good_put g1 a (w := withN (s1.wd a) 41 1 1) (by omega) (by omega)
        have g3 := good_put g2 a (w := withN (s1.wd a) 42 20 3) (by omega) (by omega)
        have hl2 : (s1.put a (withN (s1.wd a) 41 1 1)).words.length = s1.words.length := by simp [Hs.put]
        have hl3 : ((s1.put a (withN (s1.wd a) 41 1 1)).put a (withN (s1.wd a) 42 20 3)).words.length = s1.words.length := by simp [Hs.put]
        have hh6 := t5.hh.put a (withN (s1.wd a) 41 1 1)
        have tc := t5.closeO
        rw [etop] at tc
        simp only [go_sem, reduceIte, Nat.reduceAdd, Nat.reduceSub, Nat.reduceMul, Nat.reducePow, Nat.reduceLT, Nat.reduceLeDiff, Nat.reduceEqDiff, Int.reduceAdd, Int.reduceSub, Int.reduceMul, Int.reduceNeg, Int.reducePow, Int.reduceLT, Int.reduceLE, Int.reduceEq, Int.reduceNe, Int.reduceToNat, Int.toNat_natCast, Nat.zero_add, Nat.add_zero, Nat.mul_one, Nat.one_mul, Bool.not_true, Bool.not_false, ne_eq, not_true_eq_false, not_false_eq_true, Bool.false_eq_true, cx5, ov5.row.len, hz, z1, z2, z3, y1, c0, load_c t5.hh, c1, mark_c wr.1 wr.2, store_c t5.hh, ifc]
        refine close_c hh6 g2 s.top (fun _ h7 f7 => ?_) fun os' q => by rw [show closeO (s1.put a (withN (s1.wd a) 41 1 1)).lays _ _ = none from n1] at q; cases q
        have hh7 := hh6.fr0 f7
        have hh8 := hh7.put a (withN (s1.wd a) 42 20 3)
        simp only [go_sem, reduceIte, Nat.reduceAdd, Nat.reduceSub, Nat.reduceMul, Nat.reducePow, Nat.reduceLT, Nat.reduceLeDiff, Nat.reduceEqDiff, Int.reduceAdd, Int.reduceSub, Int.reduceMul, Int.reduceNeg, Int.reducePow, Int.reduceLT, Int.reduceLE, Int.reduceEq, Int.reduceNe, Int.reduceToNat, Int.toNat_natCast, Nat.zero_add, Nat.add_zero, Nat.mul_one, Nat.one_mul, Bool.not_true, Bool.not_false, ne_eq, not_true_eq_false, not_false_eq_true, Bool.false_eq_true, turn_c wr.1 wr.2, store_c hh7, hl2, ifc]
        refine close_c hh8 g3 s.top (fun _ h9 f9 => ?_) fun os' q => by rw [show closeO ((s1.put a (withN (s1.wd a) 41 1 1)).put a (withN (s1.wd a) 42 20 3)).lays _ _ = none from n2'] at q; cases q
        have hh9 := hh8.fr0 f9
        have hh10 := hh9.put a (s1.wd a)
        rw [hpb] at hh10
        have fr := (((Fr.put (S := [bw]) (b := bw) (by simp) : Fr [bw] _ _).trans f7.more).trans ((Fr.put (S := [bw]) (b := bw) (by simp)).trans f9.more)).trans (Fr.put (S := [bw]) (b := bw) (o := .live (wc s1.words) 25 true) (by simp))
        have t10 := t5.back fr hh10
        simp only [go_sem, reduceIte, Nat.reduceAdd, Nat.reduceSub, Nat.reduceMul, Nat.reducePow, Nat.reduceLT, Nat.reduceLeDiff, Nat.reduceEqDiff, Int.reduceAdd, Int.reduceSub, Int.reduceMul, Int.reduceNeg, Int.reducePow, Int.reduceLT, Int.reduceLE, Int.reduceEq, Int.reduceNe, Int.reduceToNat, Int.toNat_natCast, Nat.zero_add, Nat.add_zero, Nat.mul_one, Nat.one_mul, Bool.not_true, Bool.not_false, ne_eq, not_true_eq_false, not_false_eq_true, Bool.false_eq_true, store_c hh9, hl3, ifc, hpb]
        refine close_c t10.hh g1 s.top (fun q => by rw [tc] at q; cases q) fun os' q h11 m' s11 f11 hm11 hh11 A11 el11 ew11 => ?_
        rw [tc] at q; injection q with q; subst q
        have t11 := t10.closed f11 hm11 hh11 A11 el11 ew11
        simp only [go_sem, reduceIte, Nat.reduceAdd, Nat.reduceSub, Nat.reduceMul, Nat.reducePow, Nat.reduceLT, Nat.reduceLeDiff, Nat.reduceEqDiff, Int.reduceAdd, Int.reduceSub, Int.reduceMul, Int.reduceNeg, Int.reducePow, Int.reduceLT, Int.reduceLE, Int.reduceEq, Int.reduceNe, Int.reduceToNat, Int.toNat_natCast, Nat.zero_add, Nat.add_zero, Nat.mul_one, Nat.one_mul, Bool.not_true, Bool.not_false, ne_eq, not_true_eq_false, not_false_eq_true, Bool.false_eq_true]
        refine same_c t11 (by omega) fun h12 f12 => ?_
        simp only [go_sem, reduceIte, Nat.reduceAdd, Nat.reduceSub, Nat.reduceMul, Nat.reducePow, Nat.reduceLT, Nat.reduceLeDiff, Nat.reduceEqDiff, Int.reduceAdd, Int.reduceSub, Int.reduceMul, Int.reduceNeg, Int.reducePow, Int.reduceLT, Int.reduceLE, Int.reduceEq, Int.reduceNe, Int.reduceToNat, Int.toNat_natCast, Nat.zero_add, Nat.add_zero, Nat.mul_one, Nat.one_mul, Bool.not_true, Bool.not_false, ne_eq, not_true_eq_false, not_false_eq_true, Bool.false_eq_true]
        exact exLives_c fun h' _ => rfl
end Go.Proofs.Ytljkkfcokpimkaa.X
