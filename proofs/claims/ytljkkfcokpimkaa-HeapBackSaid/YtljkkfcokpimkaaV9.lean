/- The reference's heap: how its state lies in plain memory; what it tells. -/
import Derived.Test.YtljkkfcokpimkaaV7
set_option linter.unusedVariables false
set_option linter.unusedSimpArgs false
set_option maxRecDepth 20000
namespace Go.Proofs.Ytljkkfcokpimkaa.X
open Go Go.RowKit

/-- A row of one's own, with its block. -/
def SlV (h : H) (ty esz : Nat) (v : AV) (B : List Nat) (n : Nat) (cs : List AV) : Prop :=
  cs.length = n * esz ∧ ((n = 0 ∧ v = .nilsl ∧ B = []) ∨ ∃ b, v = .sl b 0 n (.more esz) ∧ B = [b] ∧ h.get b = some (.live cs ty true))
theorem SlV.row {h : H} {ty esz : Nat} {v : AV} {B : List Nat} {n : Nat} {cs : List AV} (o : SlV h ty esz v B n cs) : Row h v n esz cs := by
  obtain ⟨hl, o⟩ := o
  refine ⟨hl, ?_⟩
  rcases o with ⟨q, q', _⟩ | ⟨b, rfl, _, hb⟩
  · exact .inl ⟨q, q'⟩
  · exact .inr ⟨b, 0, _, rfl, by simp [Cap.fits], H.read_eq hb (by omega) (by rw [List.drop_zero, List.take_of_length_le (by omega)])⟩
theorem SlV.fr {h h' : H} {S : List Nat} {ty esz : Nat} {v : AV} {B : List Nat} {n : Nat} {cs : List AV} (o : SlV h ty esz v B n cs) (f : Fr S h h') (hs : ∀ c ∈ B, c ∉ S) : SlV h' ty esz v B n cs := by
  refine ⟨o.1, ?_⟩
  rcases o.2 with q | ⟨b, q1, q2, q3⟩
  · exact .inl q
  · exact .inr ⟨b, q1, q2, f b _ (hs b (by simp [q2])) q3⟩
theorem SlV.one {h : H} {ty esz : Nat} {v : AV} {B : List Nat} {n : Nat} {cs : List AV} (o : SlV h ty esz v B n cs) : v.leaf = true ∧ v.cells = [v] := o.row.one
/-- An object of the reference; with the values of its rows and their blocks. -/
structure RO where
  a : Int
  sh : Int
  n : Int
  fs : List Int
  bs : List Nat
structure RV where
  r : RO
  fv : AV
  bv : AV
  Bf : List Nat
  Bb : List Nat
def RV.cells (x : RV) : List AV := [.int .i64 x.r.a, .int .i64 x.r.sh, .int .i64 x.r.n, x.fv, x.bv]
def cellsR (l : List RV) : List AV := l.flatMap RV.cells
def RV.ok (h : H) (x : RV) : Prop := SlV h 25 1 x.fv x.Bf x.r.fs.length (wc x.r.fs) ∧ SlV h 5 1 x.bv x.Bb x.r.bs.length (bc x.r.bs)
def RV.blocks (x : RV) : List Nat := x.Bf ++ x.Bb
def blocksR (bx : Nat) (BL : List Nat) (l : List RV) : List Nat := bx :: (BL ++ l.flatMap RV.blocks)
/-- Such a heap of the reference lies at bx; h0: memory as it was when the law began. -/
structure RefAt (h0 h : H) (bx : Nat) (words : Int) (lays : List (Int × Int)) (BL : List Nat) (l : List RV) : Prop where
  fr : Fr [] h0 h
  st : ∃ lv Lv, h.get bx = some (.live [.int .i64 words, lv, Lv] 56 true) ∧ Row h0 lv lays.length 2 (lc lays) ∧ SlV h 89 5 Lv BL l.length (cellsR l)
  el : ∀ x ∈ l, x.ok h
  nd : (blocksR bx BL l).Nodup
  new : ∀ c ∈ blocksR bx BL l, h0.get c = none
theorem cellsR_length (l : List RV) : (cellsR l).length = l.length * 5 := by
  induction l with
  | nil => rfl
  | cons x l ih => simp only [cellsR, List.flatMap_cons] at ih ⊢; simp [RV.cells, ih]; omega
theorem cellsR_get : ∀ (l : List RV) (i : Nat) (x : RV), l[i]? = some x → ∀ j, j < 5 → (cellsR l)[i * 5 + j]? = x.cells[j]?
  | [], i, x, h => by simp at h
  | y :: l, 0, x, h => by
    simp at h; subst h
    intro j hj
    have : cellsR (y :: l) = y.cells ++ cellsR l := by simp [cellsR]
    rw [this, Nat.zero_mul, Nat.zero_add, List.getElem?_append_left (by simpa [RV.cells] using hj)]
  | y :: l, i + 1, x, h => by
    intro j hj
    have ih := cellsR_get l i x (by simpa using h) j hj
    have : cellsR (y :: l) = y.cells ++ cellsR l := by simp [cellsR]
    rw [this, List.getElem?_append_right (by simp [RV.cells]; omega)]
    rw [← ih]; congr 1; simp [RV.cells]; omega
theorem cellsR_drop (l : List RV) (i : Nat) (x : RV) (h : l[i]? = some x) : ((cellsR l).drop (i * 5)).take 5 = x.cells := by
  apply List.ext_getElem?
  intro j
  rw [List.getElem?_take, List.getElem?_drop]
  by_cases hj : j < 5
  · rw [if_pos hj]; exact cellsR_get l i x h j hj
  · rw [if_neg hj, List.getElem?_eq_none (by simp [RV.cells]; omega)]
section
variable {h0 h : H} {bx : Nat} {words : Int} {lays : List (Int × Int)} {BL : List Nat} {l : List RV}
theorem RefAt.cells (R : RefAt h0 h bx words lays BL l) : ∃ lv Lv, (∀ off, h.cell bx off = [AV.int .i64 words, lv, Lv][off]?) ∧ Row h lv lays.length 2 (lc lays) ∧ SlV h 89 5 Lv BL l.length (cellsR l) := by
  obtain ⟨lv, Lv, g1, g2, g3⟩ := R.st
  exact ⟨lv, Lv, fun off => cell_of g1 off, g2.fr R.fr, g3⟩
theorem RefAt.keep (R : RefAt h0 h bx words lays BL l) {h' : H} {S : List Nat} (f : Fr S h h') (hs : ∀ c ∈ blocksR bx BL l, c ∉ S) (f0 : Fr [] h0 h') : RefAt h0 h' bx words lays BL l := by
  obtain ⟨lv, Lv, g1, g2, g3⟩ := R.st
  refine ⟨f0, ⟨lv, Lv, f bx _ (hs bx (by simp [blocksR])) g1, g2, g3.fr f fun c hc => hs c (by simp [blocksR, hc])⟩, fun x hx => ?_, R.nd, R.new⟩
  have hb : ∀ c ∈ x.blocks, c ∈ blocksR bx BL l := fun c hc => by
    simp only [blocksR, List.mem_cons, List.mem_append, List.mem_flatMap]
    exact .inr (.inr ⟨x, hx, hc⟩)
  exact ⟨(R.el x hx).1.fr f fun c hc => hs c (hb c (by simp [RV.blocks, hc])), (R.el x hx).2.fr f fun c hc => hs c (hb c (by simp [RV.blocks, hc]))⟩
theorem RefAt.keep0 (R : RefAt h0 h bx words lays BL l) {h' : H} (f : Fr [] h h') : RefAt h0 h' bx words lays BL l := R.keep f (by simp) (R.fr.trans f)
/-- An object of the reference's row. -/
theorem SlV.obj {Lv : AV} (o : SlV h 89 5 Lv BL l.length (cellsR l)) {i : Nat} {x : RV} (hx : l[i]? = some x) :
    ∃ b q, (∀ k, iaA 5 Lv (.int k i) = some (.ptr b q)) ∧ (∀ j, j < 5 → h.cell b (q + j) = x.cells[j]?) ∧ h.read b q 5 = some x.cells := by
  have hl : i < l.length := (List.getElem?_eq_some_iff.1 hx).1
  obtain ⟨b, q, q1, q2, q3⟩ := o.row.el (i := i) (by omega) (by omega)
  rw [Int.toNat_natCast] at q2 q3
  exact ⟨b, q, q1, fun j hj => by rw [q2 j hj, cellsR_get l i x hx j hj], by rw [q3, cellsR_drop l i x hx]⟩
theorem RV.leaves {x : RV} (hx : x.ok h) : leaves x.cells = true := by
  have a := hx.1.one.1; have b := hx.2.one.1
  simp only [RV.cells, Go.Proofs.Ytljkkfcokpimkaa.X.leaves, a, b]
  rfl
theorem agg5_write {b e : Nat} {x1 x2 x3 x4 x5 : AV} {x : RV} (hv : Go.Proofs.Ytljkkfcokpimkaa.X.leaves x.cells = true) : (h.set b (.live [x1, x2, x3, x4, x5] e true)).write b 0 x.cells = some (h.set b (.live x.cells e true)) := write_new rfl hv
/-- The words that objects need. -/
def topR (lays : List (Int × Int)) (l : List RV) : Int := (l.map fun x => (needN lays x.r.sh x.r.n).1).sum
/-- The number of the object at a place. -/
def findR : List RV → Int → Nat → Int
  | [], _, _ => -1
  | x :: l, a, i => if x.r.a = a then i else findR l a (i + 1)
theorem need_le (lays : List (Int × Int)) (i n : Int) : 0 ≤ (needN lays i n).1 ∧ (needN lays i n).1 ≤ 65537 := by
  unfold needN
  split
  · simp
  · split
    · simp
    · split
      · simp
      · split <;> simp only <;> omega
theorem topR_range (lays : List (Int × Int)) (l : List RV) : 0 ≤ topR lays l ∧ topR lays l ≤ 65537 * l.length := by
  induction l with
  | nil => simp [topR]
  | cons x l ih =>
    have := need_le lays x.r.sh x.r.n
    simp only [topR, List.map_cons, List.sum_cons, List.length_cons] at ih ⊢
    omega
theorem rtop_c (R : RefAt h0 h bx words lays BL l) (hl : l.length ≤ 1000) {K : AV → H → Prop} (hK : ∀ h', Fr [] h h' → K (.int .i64 (topR lays l)) h') : C 75 [.ptr bx 0] h K := by
  refine run75 ?_
  obtain ⟨lv, Lv, c, r, o⟩ := R.cells
  simp only [sh75, joinA, go_sem, reduceIte, Nat.reduceAdd, Nat.reduceSub, Nat.reduceMul, Nat.reducePow, Nat.reduceLT, Nat.reduceLeDiff, Nat.reduceEqDiff, Int.reduceAdd, Int.reduceSub, Int.reduceMul, Int.reduceNeg, Int.reducePow, Int.reduceLT, Int.reduceLE, Int.reduceEq, Int.reduceNe, Int.reduceToNat, Int.toNat_natCast, Nat.zero_add, Nat.add_zero, Nat.mul_one, Nat.one_mul, Bool.not_true, Bool.not_false, ne_eq, not_true_eq_false, not_false_eq_true, Bool.false_eq_true, c, o.row.len]
  refine loop_r l.length (fun k ls h' => ∃ i : Nat, ls = [.int .i64 (topR lays (l.take i)), .int .i64 i] ∧ i ≤ l.length ∧ Fr [] h h' ∧ k = l.length - i) ⟨0, by simp [topR], by omega, Fr.refl _ _, rfl⟩ ?_
  rintro k ls h' ⟨i, rfl, hi, f, rfl⟩
  by_cases hlt : (i : Int) < l.length
  · have hlt' : i < l.length := by omega
    obtain ⟨x, hx⟩ : ∃ x, l[i]? = some x := ⟨l[i], by simp [hlt']⟩
    have hok := R.el x (List.mem_of_getElem? hx)
    obtain ⟨b, q, q1, q2, q3⟩ := (o.fr f (by simp)).obj hx
    have R' := R.keep0 f
    obtain ⟨lv', Lv', c', r', o'⟩ := R'.cells
    simp only [go_sem, reduceIte, Nat.reduceAdd, Nat.reduceSub, Nat.reduceMul, Nat.reducePow, Nat.reduceLT, Nat.reduceLeDiff, Nat.reduceEqDiff, Int.reduceAdd, Int.reduceSub, Int.reduceMul, Int.reduceNeg, Int.reducePow, Int.reduceLT, Int.reduceLE, Int.reduceEq, Int.reduceNe, Int.reduceToNat, Int.toNat_natCast, Nat.zero_add, Nat.add_zero, Nat.mul_one, Nat.one_mul, Bool.not_true, Bool.not_false, ne_eq, not_true_eq_false, not_false_eq_true, Bool.false_eq_true, hlt, q1, q3]
    refine ⟨rfl, fun d hd => ?_⟩
    have f2 : Fr [] h (h'.set d (.live x.cells 89 true)) := f.set' (f.free hd)
    have R2 := R.keep0 f2
    obtain ⟨lv2, Lv2, c2, r2, o2⟩ := R2.cells
    have hw := RV.leaves hok
    have ec : (AV.agg x.cells).cells = x.cells := rfl
    have el : x.cells.length = 5 := rfl
    have hc1 : (h'.set d (.live x.cells 89 true)).cell d 1 = some (.int .i64 x.r.sh) := cell_set
    have hc2 : (h'.set d (.live x.cells 89 true)).cell d 2 = some (.int .i64 x.r.n) := cell_set
    have n53 := fun K => rneed_c (h := h'.set d (.live x.cells 89 true)) (bx := bx) (by rw [c2]; rfl) r2 x.r.sh x.r.n K
    have t := topR_range lays (l.take i)
    have t2 := need_le lays x.r.sh x.r.n
    rw [List.length_take] at t
    have e1 : IntKind.i64.wrap (topR lays (l.take i) + (needN lays x.r.sh x.r.n).1) = topR lays (l.take (i + 1)) := by
      rw [i64_id (by omega) (by omega), List.take_add_one, hx]
      simp [topR]
    have e2 : IntKind.i64.wrap ((i : Int) + 1) = ((i + 1 : Nat) : Int) := by rw [i64_id (by omega) (by omega)]; rfl
    simp only [go_sem, reduceIte, Nat.reduceAdd, Nat.reduceSub, Nat.reduceMul, Nat.reducePow, Nat.reduceLT, Nat.reduceLeDiff, Nat.reduceEqDiff, Int.reduceAdd, Int.reduceSub, Int.reduceMul, Int.reduceNeg, Int.reducePow, Int.reduceLT, Int.reduceLE, Int.reduceEq, Int.reduceNe, Int.reduceToNat, Int.toNat_natCast, Nat.zero_add, Nat.add_zero, Nat.mul_one, Nat.one_mul, Bool.not_true, Bool.not_false, ne_eq, not_true_eq_false, not_false_eq_true, Bool.false_eq_true, stA_p, ec, el, agg5_write hw, hc1, hc2, n53, e1, e2]
    exact ⟨l.length - (i + 1), by omega, i + 1, rfl, by omega, f2, rfl⟩
  · simp only [go_sem, reduceIte, Nat.reduceAdd, Nat.reduceSub, Nat.reduceMul, Nat.reducePow, Nat.reduceLT, Nat.reduceLeDiff, Nat.reduceEqDiff, Int.reduceAdd, Int.reduceSub, Int.reduceMul, Int.reduceNeg, Int.reducePow, Int.reduceLT, Int.reduceLE, Int.reduceEq, Int.reduceNe, Int.reduceToNat, Int.toNat_natCast, Nat.zero_add, Nat.add_zero, Nat.mul_one, Nat.one_mul, Bool.not_true, Bool.not_false, ne_eq, not_true_eq_false, not_false_eq_true, Bool.false_eq_true, hlt]
    have : i = l.length := by omega
    subst this
    rw [List.take_length]
    exact hK h' f
theorem rfind_c (R : RefAt h0 h bx words lays BL l) (hl : l.length ≤ 1000) (a : Int) {K : AV → H → Prop} (hK : ∀ h', Fr [] h h' → K (.int .i64 (findR l a 0)) h') : C 67 [.ptr bx 0, .int .i64 a] h K := by
  refine run67 ?_
  obtain ⟨lv, Lv, c, r, o⟩ := R.cells
  simp only [sh67, joinA, go_sem, reduceIte, Nat.reduceAdd, Nat.reduceSub, Nat.reduceMul, Nat.reducePow, Nat.reduceLT, Nat.reduceLeDiff, Nat.reduceEqDiff, Int.reduceAdd, Int.reduceSub, Int.reduceMul, Int.reduceNeg, Int.reducePow, Int.reduceLT, Int.reduceLE, Int.reduceEq, Int.reduceNe, Int.reduceToNat, Int.toNat_natCast, Nat.zero_add, Nat.add_zero, Nat.mul_one, Nat.one_mul, Bool.not_true, Bool.not_false, ne_eq, not_true_eq_false, not_false_eq_true, Bool.false_eq_true, c, o.row.len]
  refine loop_r l.length (fun k ls h' => ∃ i : Nat, ls = [.int .i64 i] ∧ i ≤ l.length ∧ Fr [] h h' ∧ findR l a 0 = findR (l.drop i) a i ∧ k = l.length - i) ⟨0, rfl, by omega, Fr.refl _ _, rfl, rfl⟩ ?_
  rintro k ls h' ⟨i, rfl, hi, f, hfi, rfl⟩
  by_cases hlt : (i : Int) < l.length
  · have hlt' : i < l.length := by omega
    obtain ⟨x, hx⟩ : ∃ x, l[i]? = some x := ⟨l[i], by simp [hlt']⟩
    have hdrop : l.drop i = x :: l.drop (i + 1) := by
      rw [List.drop_eq_getElem_cons hlt']; congr 1
      rw [List.getElem?_eq_getElem hlt'] at hx; injection hx
    have hok := R.el x (List.mem_of_getElem? hx)
    obtain ⟨b, q, q1, q2, q3⟩ := (o.fr f (by simp)).obj hx
    simp only [go_sem, reduceIte, Nat.reduceAdd, Nat.reduceSub, Nat.reduceMul, Nat.reducePow, Nat.reduceLT, Nat.reduceLeDiff, Nat.reduceEqDiff, Int.reduceAdd, Int.reduceSub, Int.reduceMul, Int.reduceNeg, Int.reducePow, Int.reduceLT, Int.reduceLE, Int.reduceEq, Int.reduceNe, Int.reduceToNat, Int.toNat_natCast, Nat.zero_add, Nat.add_zero, Nat.mul_one, Nat.one_mul, Bool.not_true, Bool.not_false, ne_eq, not_true_eq_false, not_false_eq_true, Bool.false_eq_true, hlt, q1, q3]
    refine ⟨rfl, fun d hd => ?_⟩
    have f2 : Fr [] h (h'.set d (.live x.cells 89 true)) := f.set' (f.free hd)
    have hw := RV.leaves hok
    have ec : (AV.agg x.cells).cells = x.cells := rfl
    have el : x.cells.length = 5 := rfl
    have hcell : (h'.set d (.live x.cells 89 true)).cell d 0 = some (.int .i64 x.r.a) := cell_set
    have e2 : IntKind.i64.wrap ((i : Int) + 1) = ((i + 1 : Nat) : Int) := by rw [i64_id (by omega) (by omega)]; rfl
    rw [hdrop, findR] at hfi
    by_cases ha : x.r.a = a
    · rw [if_pos ha] at hfi
      simp only [go_sem, reduceIte, Nat.reduceAdd, Nat.reduceSub, Nat.reduceMul, Nat.reducePow, Nat.reduceLT, Nat.reduceLeDiff, Nat.reduceEqDiff, Int.reduceAdd, Int.reduceSub, Int.reduceMul, Int.reduceNeg, Int.reducePow, Int.reduceLT, Int.reduceLE, Int.reduceEq, Int.reduceNe, Int.reduceToNat, Int.toNat_natCast, Nat.zero_add, Nat.add_zero, Nat.mul_one, Nat.one_mul, Bool.not_true, Bool.not_false, ne_eq, not_true_eq_false, not_false_eq_true, Bool.false_eq_true, stA_p, ec, el, agg5_write hw, hcell, ha]
      rw [← hfi]
      exact hK _ f2
    · rw [if_neg ha] at hfi
      simp only [go_sem, reduceIte, Nat.reduceAdd, Nat.reduceSub, Nat.reduceMul, Nat.reducePow, Nat.reduceLT, Nat.reduceLeDiff, Nat.reduceEqDiff, Int.reduceAdd, Int.reduceSub, Int.reduceMul, Int.reduceNeg, Int.reducePow, Int.reduceLT, Int.reduceLE, Int.reduceEq, Int.reduceNe, Int.reduceToNat, Int.toNat_natCast, Nat.zero_add, Nat.add_zero, Nat.mul_one, Nat.one_mul, Bool.not_true, Bool.not_false, ne_eq, not_true_eq_false, not_false_eq_true, Bool.false_eq_true, stA_p, ec, el, agg5_write hw, hcell, ha, e2]
      exact ⟨l.length - (i + 1), by omega, i + 1, rfl, by omega, f2, hfi, rfl⟩
  · simp only [go_sem, reduceIte, Nat.reduceAdd, Nat.reduceSub, Nat.reduceMul, Nat.reducePow, Nat.reduceLT, Nat.reduceLeDiff, Nat.reduceEqDiff, Int.reduceAdd, Int.reduceSub, Int.reduceMul, Int.reduceNeg, Int.reducePow, Int.reduceLT, Int.reduceLE, Int.reduceEq, Int.reduceNe, Int.reduceToNat, Int.toNat_natCast, Nat.zero_add, Nat.add_zero, Nat.mul_one, Nat.one_mul, Bool.not_true, Bool.not_false, ne_eq, not_true_eq_false, not_false_eq_true, Bool.false_eq_true, hlt]
    have : i = l.length := by omega
    subst this
    rw [List.drop_length] at hfi
    have := hK h' f
    rw [hfi] at this
    exact this
end
end Go.Proofs.Ytljkkfcokpimkaa.X
