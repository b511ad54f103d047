/- What the law law3 needs: texts of one's own, put together; functions' contracts and plain facts. -/
import Derived.Test.YtdljelicbnjfjaaGreatT3A
set_option linter.unusedVariables false
set_option linter.unusedSimpArgs false
set_option maxRecDepth 20000
namespace Go.Proofs.YtdljelicbnjfjaaGreat.X
open Go Go.RowKit
def Each (h0 : H) (wb E : Nat) (x : AV) (D : List Nat) : Prop := ∀ h L, W h0 h wb L → (L ++ D).length ≤ most → ∀ K : AV → H → Prop, (∀ h', W h0 h' wb (L ++ D) → FrW wb h h' → K (.tup []) h') → C E [.ptr wb 0, x] h K
theorem flat_take_le {α : Type} (B : α → List Nat) (l : List α) (i : Nat) : ((l.take i).flatMap B).length ≤ (l.flatMap B).length := by
  conv => rhs; rw [← List.take_append_drop i l]
  rw [List.flatMap_append, List.length_append]; omega
theorem flat_succ {α : Type} (B : α → List Nat) {l : List α} {i : Nat} {x : α} (h : l[i]? = some x) : (l.take (i + 1)).flatMap B = (l.take i).flatMap B ++ B x := by
  rw [List.take_add_one, h, List.flatMap_append]; simp
section
variable {h0 h : H} {wb : Nat} {L : List Nat}
theorem manyTy_c {α : Type} {Rel : α → List AV → Prop} {lv : AV} {l : List α} (w : W h0 h wb L) (r : RowOf h0 2 Rel lv l) (hlv : ∀ x c, Rel x c → leaves c = true) {E : Nat} {B : α → List Nat} (hl : l.length ≤ reachBytes) (hm : (L ++ manyB B l).length ≤ most)
    (hE : ∀ x ∈ l, ∀ c, Rel x c → Each h0 wb E (.agg c) (B x)) {K : AV → H → Prop} (hK : ∀ h', W h0 h' wb (L ++ manyB B l) → FrW wb h h' → K (.tup []) h') : C 100 [.ptr wb 0, lv, .fn E [.ptr wb 0] []] h K := by
  refine run100 ?_
  have hlen := r.len
  have hr : reachBytes ≤ 4611686018427387903 := by decide
  have hm1 : (L ++ numB l.length).length ≤ most := by unfold manyB at hm; rw [List.length_append, List.length_append] at hm; rw [List.length_append]; omega
  simp only [sh100, go_sem, reduceIte, Nat.reduceAdd, Nat.reduceSub, Nat.reduceMul, Nat.reducePow, Nat.reduceLT, Nat.reduceLeDiff, Nat.reduceEqDiff, Int.reduceAdd, Int.reduceSub, Int.reduceMul, Int.reduceNeg, Int.reducePow, Int.reduceLT, Int.reduceLE, Int.reduceEq, Int.reduceNe, Int.reduceToNat, Int.toNat_natCast, Nat.zero_add, Nat.add_zero, Nat.mul_one, Nat.one_mul, Bool.not_true, Bool.not_false, ne_eq, not_true_eq_false, not_false_eq_true, Bool.false_eq_true, hlen]
  refine wnum_c w ⟨by omega, by omega⟩ hm1 fun h1 w1 f1 => ?_
  try simp only [go_sem, reduceIte, Nat.reduceAdd, Nat.reduceSub, Nat.reduceMul, Nat.reducePow, Nat.reduceLT, Nat.reduceLeDiff, Nat.reduceEqDiff, Int.reduceAdd, Int.reduceSub, Int.reduceMul, Int.reduceNeg, Int.reducePow, Int.reduceLT, Int.reduceLE, Int.reduceEq, Int.reduceNe, Int.reduceToNat, Int.toNat_natCast, Nat.zero_add, Nat.add_zero, Nat.mul_one, Nat.one_mul, Bool.not_true, Bool.not_false, ne_eq, not_true_eq_false, not_false_eq_true, Bool.false_eq_true, hlen]
  refine loop_r (l.length + 1) (fun k ls h2 => ∃ i : Nat, ls = [.int .i64 i] ∧ i ≤ l.length ∧ W h0 h2 wb (L ++ numB l.length ++ (l.take i).flatMap B) ∧ FrW wb h h2 ∧ k = l.length + 1 - i) ⟨0, rfl, by omega, by simpa using w1, f1, rfl⟩ ?_
  rintro k ls h2 ⟨i, rfl, hi, w2, f2, rfl⟩
  by_cases q : (i : Int) < l.length
  · have hi' : i < l.length := by omega
    obtain ⟨x, hx⟩ : ∃ x, l[i]? = some x := ⟨l[i], by simp [hi']⟩
    have hxm := List.mem_of_getElem? hx
    have en : IntKind.i64.wrap ((i : Int) + 1) = ((i + 1 : Nat) : Int) := by rw [i64_id (by omega) (by omega)]; rfl
    have hb : (L ++ numB l.length ++ (l.take i).flatMap B ++ B x).length ≤ most := by
      have h1 := flat_take_le B l (i + 1)
      rw [flat_succ B hx, List.length_append] at h1
      unfold manyB at hm
      rw [List.length_append, List.length_append] at hm
      rw [List.length_append, List.length_append, List.length_append]; omega
    obtain ⟨b, o, c, e1, e2, e3, e4, e5⟩ := (r.mono w2.fr (Rel' := Rel) fun _ _ _ z => z).el hx
    simp only [go_sem, reduceIte, Nat.reduceAdd, Nat.reduceSub, Nat.reduceMul, Nat.reducePow, Nat.reduceLT, Nat.reduceLeDiff, Nat.reduceEqDiff, Int.reduceAdd, Int.reduceSub, Int.reduceMul, Int.reduceNeg, Int.reducePow, Int.reduceLT, Int.reduceLE, Int.reduceEq, Int.reduceNe, Int.reduceToNat, Int.toNat_natCast, Nat.zero_add, Nat.add_zero, Nat.mul_one, Nat.one_mul, Bool.not_true, Bool.not_false, ne_eq, not_true_eq_false, not_false_eq_true, Bool.false_eq_true, q, e1, e4]
    refine box_r rfl fun d hd => ?_
    have st := copy_st (h := h2) (b := d) (e := 46) (n := 2) (zs := [.bool false, .nilsl]) (cs := c) e3 rfl (hlv x c e2)
    have fd : Fr [] h2 (h2.set d (.live c 46 true)) := (Fr.refl _ _).set' hd
    have rd : (h2.set d (.live c 46 true)).read d 0 2 = some c := H.read_eq (H.get_same ..) (by omega) (by rw [List.drop_zero, List.take_of_length_le (by omega)])
    simp only [go_sem, reduceIte, Nat.reduceAdd, Nat.reduceSub, Nat.reduceMul, Nat.reducePow, Nat.reduceLT, Nat.reduceLeDiff, Nat.reduceEqDiff, Int.reduceAdd, Int.reduceSub, Int.reduceMul, Int.reduceNeg, Int.reducePow, Int.reduceLT, Int.reduceLE, Int.reduceEq, Int.reduceNe, Int.reduceToNat, Int.toNat_natCast, Nat.zero_add, Nat.add_zero, Nat.mul_one, Nat.one_mul, Bool.not_true, Bool.not_false, ne_eq, not_true_eq_false, not_false_eq_true, Bool.false_eq_true, st, rd, List.cons_append, List.nil_append, List.append_nil]
    refine hE x hxm c e2 _ _ (w2.keep fd) hb _ fun h3 w3 f3 => ?_
    simp only [go_sem, reduceIte, Nat.reduceAdd, Nat.reduceSub, Nat.reduceMul, Nat.reducePow, Nat.reduceLT, Nat.reduceLeDiff, Nat.reduceEqDiff, Int.reduceAdd, Int.reduceSub, Int.reduceMul, Int.reduceNeg, Int.reducePow, Int.reduceLT, Int.reduceLE, Int.reduceEq, Int.reduceNe, Int.reduceToNat, Int.toNat_natCast, Nat.zero_add, Nat.add_zero, Nat.mul_one, Nat.one_mul, Bool.not_true, Bool.not_false, ne_eq, not_true_eq_false, not_false_eq_true, Bool.false_eq_true, en]
    exact ⟨l.length + 1 - (i + 1), by omega, i + 1, rfl, by omega, by rw [flat_succ B hx, ← List.append_assoc]; exact w3, (f2.trans (w2.frw fd)).trans f3, rfl⟩
  · have : l.take i = l := List.take_of_length_le (by omega)
    rw [this] at w2
    simp only [go_sem, reduceIte, Nat.reduceAdd, Nat.reduceSub, Nat.reduceMul, Nat.reducePow, Nat.reduceLT, Nat.reduceLeDiff, Nat.reduceEqDiff, Int.reduceAdd, Int.reduceSub, Int.reduceMul, Int.reduceNeg, Int.reducePow, Int.reduceLT, Int.reduceLE, Int.reduceEq, Int.reduceNe, Int.reduceToNat, Int.toNat_natCast, Nat.zero_add, Nat.add_zero, Nat.mul_one, Nat.one_mul, Bool.not_true, Bool.not_false, ne_eq, not_true_eq_false, not_false_eq_true, Bool.false_eq_true, q]
    refine hK h2 ?_ f2
    unfold manyB; rw [← List.append_assoc]; exact w2
theorem manyShp_c {α : Type} {Rel : α → List AV → Prop} {lv : AV} {l : List α} (w : W h0 h wb L) (r : RowOf h0 3 Rel lv l) (hlv : ∀ x c, Rel x c → leaves c = true) {E : Nat} {B : α → List Nat} (hl : l.length ≤ reachBytes) (hm : (L ++ manyB B l).length ≤ most)
    (hE : ∀ x ∈ l, ∀ c, Rel x c → Each h0 wb E (.agg c) (B x)) {K : AV → H → Prop} (hK : ∀ h', W h0 h' wb (L ++ manyB B l) → FrW wb h h' → K (.tup []) h') : C 102 [.ptr wb 0, lv, .fn E [.ptr wb 0] []] h K := by
  refine run102 ?_
  have hlen := r.len
  have hr : reachBytes ≤ 4611686018427387903 := by decide
  have hm1 : (L ++ numB l.length).length ≤ most := by unfold manyB at hm; rw [List.length_append, List.length_append] at hm; rw [List.length_append]; omega
  simp only [sh102, go_sem, reduceIte, Nat.reduceAdd, Nat.reduceSub, Nat.reduceMul, Nat.reducePow, Nat.reduceLT, Nat.reduceLeDiff, Nat.reduceEqDiff, Int.reduceAdd, Int.reduceSub, Int.reduceMul, Int.reduceNeg, Int.reducePow, Int.reduceLT, Int.reduceLE, Int.reduceEq, Int.reduceNe, Int.reduceToNat, Int.toNat_natCast, Nat.zero_add, Nat.add_zero, Nat.mul_one, Nat.one_mul, Bool.not_true, Bool.not_false, ne_eq, not_true_eq_false, not_false_eq_true, Bool.false_eq_true, hlen]
  refine wnum_c w ⟨by omega, by omega⟩ hm1 fun h1 w1 f1 => ?_
  try simp only [go_sem, reduceIte, Nat.reduceAdd, Nat.reduceSub, Nat.reduceMul, Nat.reducePow, Nat.reduceLT, Nat.reduceLeDiff, Nat.reduceEqDiff, Int.reduceAdd, Int.reduceSub, Int.reduceMul, Int.reduceNeg, Int.reducePow, Int.reduceLT, Int.reduceLE, Int.reduceEq, Int.reduceNe, Int.reduceToNat, Int.toNat_natCast, Nat.zero_add, Nat.add_zero, Nat.mul_one, Nat.one_mul, Bool.not_true, Bool.not_false, ne_eq, not_true_eq_false, not_false_eq_true, Bool.false_eq_true, hlen]
  refine loop_r (l.length + 1) (fun k ls h2 => ∃ i : Nat, ls = [.int .i64 i] ∧ i ≤ l.length ∧ W h0 h2 wb (L ++ numB l.length ++ (l.take i).flatMap B) ∧ FrW wb h h2 ∧ k = l.length + 1 - i) ⟨0, rfl, by omega, by simpa using w1, f1, rfl⟩ ?_
  rintro k ls h2 ⟨i, rfl, hi, w2, f2, rfl⟩
  by_cases q : (i : Int) < l.length
  · have hi' : i < l.length := by omega
    obtain ⟨x, hx⟩ : ∃ x, l[i]? = some x := ⟨l[i], by simp [hi']⟩
    have hxm := List.mem_of_getElem? hx
    have en : IntKind.i64.wrap ((i : Int) + 1) = ((i + 1 : Nat) : Int) := by rw [i64_id (by omega) (by omega)]; rfl
    have hb : (L ++ numB l.length ++ (l.take i).flatMap B ++ B x).length ≤ most := by
      have h1 := flat_take_le B l (i + 1)
      rw [flat_succ B hx, List.length_append] at h1
      unfold manyB at hm
      rw [List.length_append, List.length_append] at hm
      rw [List.length_append, List.length_append, List.length_append]; omega
    obtain ⟨b, o, c, e1, e2, e3, e4, e5⟩ := (r.mono w2.fr (Rel' := Rel) fun _ _ _ z => z).el hx
    simp only [go_sem, reduceIte, Nat.reduceAdd, Nat.reduceSub, Nat.reduceMul, Nat.reducePow, Nat.reduceLT, Nat.reduceLeDiff, Nat.reduceEqDiff, Int.reduceAdd, Int.reduceSub, Int.reduceMul, Int.reduceNeg, Int.reducePow, Int.reduceLT, Int.reduceLE, Int.reduceEq, Int.reduceNe, Int.reduceToNat, Int.toNat_natCast, Nat.zero_add, Nat.add_zero, Nat.mul_one, Nat.one_mul, Bool.not_true, Bool.not_false, ne_eq, not_true_eq_false, not_false_eq_true, Bool.false_eq_true, q, e1, e4]
    refine box_r rfl fun d hd => ?_
    have st := copy_st (h := h2) (b := d) (e := 61) (n := 3) (zs := [.int .i64 0, .nilsl, .str []]) (cs := c) e3 rfl (hlv x c e2)
    have fd : Fr [] h2 (h2.set d (.live c 61 true)) := (Fr.refl _ _).set' hd
    have rd : (h2.set d (.live c 61 true)).read d 0 3 = some c := H.read_eq (H.get_same ..) (by omega) (by rw [List.drop_zero, List.take_of_length_le (by omega)])
    simp only [go_sem, reduceIte, Nat.reduceAdd, Nat.reduceSub, Nat.reduceMul, Nat.reducePow, Nat.reduceLT, Nat.reduceLeDiff, Nat.reduceEqDiff, Int.reduceAdd, Int.reduceSub, Int.reduceMul, Int.reduceNeg, Int.reducePow, Int.reduceLT, Int.reduceLE, Int.reduceEq, Int.reduceNe, Int.reduceToNat, Int.toNat_natCast, Nat.zero_add, Nat.add_zero, Nat.mul_one, Nat.one_mul, Bool.not_true, Bool.not_false, ne_eq, not_true_eq_false, not_false_eq_true, Bool.false_eq_true, st, rd, List.cons_append, List.nil_append, List.append_nil]
    refine hE x hxm c e2 _ _ (w2.keep fd) hb _ fun h3 w3 f3 => ?_
    simp only [go_sem, reduceIte, Nat.reduceAdd, Nat.reduceSub, Nat.reduceMul, Nat.reducePow, Nat.reduceLT, Nat.reduceLeDiff, Nat.reduceEqDiff, Int.reduceAdd, Int.reduceSub, Int.reduceMul, Int.reduceNeg, Int.reducePow, Int.reduceLT, Int.reduceLE, Int.reduceEq, Int.reduceNe, Int.reduceToNat, Int.toNat_natCast, Nat.zero_add, Nat.add_zero, Nat.mul_one, Nat.one_mul, Bool.not_true, Bool.not_false, ne_eq, not_true_eq_false, not_false_eq_true, Bool.false_eq_true, en]
    exact ⟨l.length + 1 - (i + 1), by omega, i + 1, rfl, by omega, by rw [flat_succ B hx, ← List.append_assoc]; exact w3, (f2.trans (w2.frw fd)).trans f3, rfl⟩
  · have : l.take i = l := List.take_of_length_le (by omega)
    rw [this] at w2
    simp only [go_sem, reduceIte, Nat.reduceAdd, Nat.reduceSub, Nat.reduceMul, Nat.reducePow, Nat.reduceLT, Nat.reduceLeDiff, Nat.reduceEqDiff, Int.reduceAdd, Int.reduceSub, Int.reduceMul, Int.reduceNeg, Int.reducePow, Int.reduceLT, Int.reduceLE, Int.reduceEq, Int.reduceNe, Int.reduceToNat, Int.toNat_natCast, Nat.zero_add, Nat.add_zero, Nat.mul_one, Nat.one_mul, Bool.not_true, Bool.not_false, ne_eq, not_true_eq_false, not_false_eq_true, Bool.false_eq_true, q]
    refine hK h2 ?_ f2
    unfold manyB; rw [← List.append_assoc]; exact w2
theorem manyFn_c {α : Type} {Rel : α → List AV → Prop} {lv : AV} {l : List α} (w : W h0 h wb L) (r : RowOf h0 4 Rel lv l) (hlv : ∀ x c, Rel x c → leaves c = true) {E : Nat} {B : α → List Nat} (hl : l.length ≤ reachBytes) (hm : (L ++ manyB B l).length ≤ most)
    (hE : ∀ x ∈ l, ∀ c, Rel x c → Each h0 wb E (.agg c) (B x)) {K : AV → H → Prop} (hK : ∀ h', W h0 h' wb (L ++ manyB B l) → FrW wb h h' → K (.tup []) h') : C 106 [.ptr wb 0, lv, .fn E [.ptr wb 0] []] h K := by
  refine run106 ?_
  have hlen := r.len
  have hr : reachBytes ≤ 4611686018427387903 := by decide
  have hm1 : (L ++ numB l.length).length ≤ most := by unfold manyB at hm; rw [List.length_append, List.length_append] at hm; rw [List.length_append]; omega
  simp only [sh106, go_sem, reduceIte, Nat.reduceAdd, Nat.reduceSub, Nat.reduceMul, Nat.reducePow, Nat.reduceLT, Nat.reduceLeDiff, Nat.reduceEqDiff, Int.reduceAdd, Int.reduceSub, Int.reduceMul, Int.reduceNeg, Int.reducePow, Int.reduceLT, Int.reduceLE, Int.reduceEq, Int.reduceNe, Int.reduceToNat, Int.toNat_natCast, Nat.zero_add, Nat.add_zero, Nat.mul_one, Nat.one_mul, Bool.not_true, Bool.not_false, ne_eq, not_true_eq_false, not_false_eq_true, Bool.false_eq_true, hlen]
  refine wnum_c w ⟨by omega, by omega⟩ hm1 fun h1 w1 f1 => ?_
  try simp only [go_sem, reduceIte, Nat.reduceAdd, Nat.reduceSub, Nat.reduceMul, Nat.reducePow, Nat.reduceLT, Nat.reduceLeDiff, Nat.reduceEqDiff, Int.reduceAdd, Int.reduceSub, Int.reduceMul, Int.reduceNeg, Int.reducePow, Int.reduceLT, Int.reduceLE, Int.reduceEq, Int.reduceNe, Int.reduceToNat, Int.toNat_natCast, Nat.zero_add, Nat.add_zero, Nat.mul_one, Nat.one_mul, Bool.not_true, Bool.not_false, ne_eq, not_true_eq_false, not_false_eq_true, Bool.false_eq_true, hlen]
  refine loop_r (l.length + 1) (fun k ls h2 => ∃ i : Nat, ls = [.int .i64 i] ∧ i ≤ l.length ∧ W h0 h2 wb (L ++ numB l.length ++ (l.take i).flatMap B) ∧ FrW wb h h2 ∧ k = l.length + 1 - i) ⟨0, rfl, by omega, by simpa using w1, f1, rfl⟩ ?_
  rintro k ls h2 ⟨i, rfl, hi, w2, f2, rfl⟩
  by_cases q : (i : Int) < l.length
  · have hi' : i < l.length := by omega
    obtain ⟨x, hx⟩ : ∃ x, l[i]? = some x := ⟨l[i], by simp [hi']⟩
    have hxm := List.mem_of_getElem? hx
    have en : IntKind.i64.wrap ((i : Int) + 1) = ((i + 1 : Nat) : Int) := by rw [i64_id (by omega) (by omega)]; rfl
    have hb : (L ++ numB l.length ++ (l.take i).flatMap B ++ B x).length ≤ most := by
      have h1 := flat_take_le B l (i + 1)
      rw [flat_succ B hx, List.length_append] at h1
      unfold manyB at hm
      rw [List.length_append, List.length_append] at hm
      rw [List.length_append, List.length_append, List.length_append]; omega
    obtain ⟨b, o, c, e1, e2, e3, e4, e5⟩ := (r.mono w2.fr (Rel' := Rel) fun _ _ _ z => z).el hx
    simp only [go_sem, reduceIte, Nat.reduceAdd, Nat.reduceSub, Nat.reduceMul, Nat.reducePow, Nat.reduceLT, Nat.reduceLeDiff, Nat.reduceEqDiff, Int.reduceAdd, Int.reduceSub, Int.reduceMul, Int.reduceNeg, Int.reducePow, Int.reduceLT, Int.reduceLE, Int.reduceEq, Int.reduceNe, Int.reduceToNat, Int.toNat_natCast, Nat.zero_add, Nat.add_zero, Nat.mul_one, Nat.one_mul, Bool.not_true, Bool.not_false, ne_eq, not_true_eq_false, not_false_eq_true, Bool.false_eq_true, q, e1, e4]
    refine box_r rfl fun d hd => ?_
    have st := copy_st (h := h2) (b := d) (e := 39) (n := 4) (zs := [.nilsl, .int .i64 0, .int .i64 0, .nilsl]) (cs := c) e3 rfl (hlv x c e2)
    have fd : Fr [] h2 (h2.set d (.live c 39 true)) := (Fr.refl _ _).set' hd
    have rd : (h2.set d (.live c 39 true)).read d 0 4 = some c := H.read_eq (H.get_same ..) (by omega) (by rw [List.drop_zero, List.take_of_length_le (by omega)])
    simp only [go_sem, reduceIte, Nat.reduceAdd, Nat.reduceSub, Nat.reduceMul, Nat.reducePow, Nat.reduceLT, Nat.reduceLeDiff, Nat.reduceEqDiff, Int.reduceAdd, Int.reduceSub, Int.reduceMul, Int.reduceNeg, Int.reducePow, Int.reduceLT, Int.reduceLE, Int.reduceEq, Int.reduceNe, Int.reduceToNat, Int.toNat_natCast, Nat.zero_add, Nat.add_zero, Nat.mul_one, Nat.one_mul, Bool.not_true, Bool.not_false, ne_eq, not_true_eq_false, not_false_eq_true, Bool.false_eq_true, st, rd, List.cons_append, List.nil_append, List.append_nil]
    refine hE x hxm c e2 _ _ (w2.keep fd) hb _ fun h3 w3 f3 => ?_
    simp only [go_sem, reduceIte, Nat.reduceAdd, Nat.reduceSub, Nat.reduceMul, Nat.reducePow, Nat.reduceLT, Nat.reduceLeDiff, Nat.reduceEqDiff, Int.reduceAdd, Int.reduceSub, Int.reduceMul, Int.reduceNeg, Int.reducePow, Int.reduceLT, Int.reduceLE, Int.reduceEq, Int.reduceNe, Int.reduceToNat, Int.toNat_natCast, Nat.zero_add, Nat.add_zero, Nat.mul_one, Nat.one_mul, Bool.not_true, Bool.not_false, ne_eq, not_true_eq_false, not_false_eq_true, Bool.false_eq_true, en]
    exact ⟨l.length + 1 - (i + 1), by omega, i + 1, rfl, by omega, by rw [flat_succ B hx, ← List.append_assoc]; exact w3, (f2.trans (w2.frw fd)).trans f3, rfl⟩
  · have : l.take i = l := List.take_of_length_le (by omega)
    rw [this] at w2
    simp only [go_sem, reduceIte, Nat.reduceAdd, Nat.reduceSub, Nat.reduceMul, Nat.reducePow, Nat.reduceLT, Nat.reduceLeDiff, Nat.reduceEqDiff, Int.reduceAdd, Int.reduceSub, Int.reduceMul, Int.reduceNeg, Int.reducePow, Int.reduceLT, Int.reduceLE, Int.reduceEq, Int.reduceNe, Int.reduceToNat, Int.toNat_natCast, Nat.zero_add, Nat.add_zero, Nat.mul_one, Nat.one_mul, Bool.not_true, Bool.not_false, ne_eq, not_true_eq_false, not_false_eq_true, Bool.false_eq_true, q]
    refine hK h2 ?_ f2
    unfold manyB; rw [← List.append_assoc]; exact w2
theorem manyBlk_c {α : Type} {Rel : α → List AV → Prop} {lv : AV} {l : List α} (w : W h0 h wb L) (r : RowOf h0 2 Rel lv l) (hlv : ∀ x c, Rel x c → leaves c = true) {E : Nat} {B : α → List Nat} (hl : l.length ≤ reachBytes) (hm : (L ++ manyB B l).length ≤ most)
    (hE : ∀ x ∈ l, ∀ c, Rel x c → Each h0 wb E (.agg c) (B x)) {K : AV → H → Prop} (hK : ∀ h', W h0 h' wb (L ++ manyB B l) → FrW wb h h' → K (.tup []) h') : C 142 [.ptr wb 0, lv, .fn E [.ptr wb 0] []] h K := by
  refine run142 ?_
  have hlen := r.len
  have hr : reachBytes ≤ 4611686018427387903 := by decide
  have hm1 : (L ++ numB l.length).length ≤ most := by unfold manyB at hm; rw [List.length_append, List.length_append] at hm; rw [List.length_append]; omega
  simp only [sh142, go_sem, reduceIte, Nat.reduceAdd, Nat.reduceSub, Nat.reduceMul, Nat.reducePow, Nat.reduceLT, Nat.reduceLeDiff, Nat.reduceEqDiff, Int.reduceAdd, Int.reduceSub, Int.reduceMul, Int.reduceNeg, Int.reducePow, Int.reduceLT, Int.reduceLE, Int.reduceEq, Int.reduceNe, Int.reduceToNat, Int.toNat_natCast, Nat.zero_add, Nat.add_zero, Nat.mul_one, Nat.one_mul, Bool.not_true, Bool.not_false, ne_eq, not_true_eq_false, not_false_eq_true, Bool.false_eq_true, hlen]
  refine wnum_c w ⟨by omega, by omega⟩ hm1 fun h1 w1 f1 => ?_
  try simp only [go_sem, reduceIte, Nat.reduceAdd, Nat.reduceSub, Nat.reduceMul, Nat.reducePow, Nat.reduceLT, Nat.reduceLeDiff, Nat.reduceEqDiff, Int.reduceAdd, Int.reduceSub, Int.reduceMul, Int.reduceNeg, Int.reducePow, Int.reduceLT, Int.reduceLE, Int.reduceEq, Int.reduceNe, Int.reduceToNat, Int.toNat_natCast, Nat.zero_add, Nat.add_zero, Nat.mul_one, Nat.one_mul, Bool.not_true, Bool.not_false, ne_eq, not_true_eq_false, not_false_eq_true, Bool.false_eq_true, hlen]
  refine loop_r (l.length + 1) (fun k ls h2 => ∃ i : Nat, ls = [.int .i64 i] ∧ i ≤ l.length ∧ W h0 h2 wb (L ++ numB l.length ++ (l.take i).flatMap B) ∧ FrW wb h h2 ∧ k = l.length + 1 - i) ⟨0, rfl, by omega, by simpa using w1, f1, rfl⟩ ?_
  rintro k ls h2 ⟨i, rfl, hi, w2, f2, rfl⟩
  by_cases q : (i : Int) < l.length
  · have hi' : i < l.length := by omega
    obtain ⟨x, hx⟩ : ∃ x, l[i]? = some x := ⟨l[i], by simp [hi']⟩
    have hxm := List.mem_of_getElem? hx
    have en : IntKind.i64.wrap ((i : Int) + 1) = ((i + 1 : Nat) : Int) := by rw [i64_id (by omega) (by omega)]; rfl
    have hb : (L ++ numB l.length ++ (l.take i).flatMap B ++ B x).length ≤ most := by
      have h1 := flat_take_le B l (i + 1)
      rw [flat_succ B hx, List.length_append] at h1
      unfold manyB at hm
      rw [List.length_append, List.length_append] at hm
      rw [List.length_append, List.length_append, List.length_append]; omega
    obtain ⟨b, o, c, e1, e2, e3, e4, e5⟩ := (r.mono w2.fr (Rel' := Rel) fun _ _ _ z => z).el hx
    simp only [go_sem, reduceIte, Nat.reduceAdd, Nat.reduceSub, Nat.reduceMul, Nat.reducePow, Nat.reduceLT, Nat.reduceLeDiff, Nat.reduceEqDiff, Int.reduceAdd, Int.reduceSub, Int.reduceMul, Int.reduceNeg, Int.reducePow, Int.reduceLT, Int.reduceLE, Int.reduceEq, Int.reduceNe, Int.reduceToNat, Int.toNat_natCast, Nat.zero_add, Nat.add_zero, Nat.mul_one, Nat.one_mul, Bool.not_true, Bool.not_false, ne_eq, not_true_eq_false, not_false_eq_true, Bool.false_eq_true, q, e1, e4]
    refine box_r rfl fun d hd => ?_
    have st := copy_st (h := h2) (b := d) (e := 42) (n := 2) (zs := [.nilsl, .nilsl]) (cs := c) e3 rfl (hlv x c e2)
    have fd : Fr [] h2 (h2.set d (.live c 42 true)) := (Fr.refl _ _).set' hd
    have rd : (h2.set d (.live c 42 true)).read d 0 2 = some c := H.read_eq (H.get_same ..) (by omega) (by rw [List.drop_zero, List.take_of_length_le (by omega)])
    simp only [go_sem, reduceIte, Nat.reduceAdd, Nat.reduceSub, Nat.reduceMul, Nat.reducePow, Nat.reduceLT, Nat.reduceLeDiff, Nat.reduceEqDiff, Int.reduceAdd, Int.reduceSub, Int.reduceMul, Int.reduceNeg, Int.reducePow, Int.reduceLT, Int.reduceLE, Int.reduceEq, Int.reduceNe, Int.reduceToNat, Int.toNat_natCast, Nat.zero_add, Nat.add_zero, Nat.mul_one, Nat.one_mul, Bool.not_true, Bool.not_false, ne_eq, not_true_eq_false, not_false_eq_true, Bool.false_eq_true, st, rd, List.cons_append, List.nil_append, List.append_nil]
    refine hE x hxm c e2 _ _ (w2.keep fd) hb _ fun h3 w3 f3 => ?_
    simp only [go_sem, reduceIte, Nat.reduceAdd, Nat.reduceSub, Nat.reduceMul, Nat.reducePow, Nat.reduceLT, Nat.reduceLeDiff, Nat.reduceEqDiff, Int.reduceAdd, Int.reduceSub, Int.reduceMul, Int.reduceNeg, Int.reducePow, Int.reduceLT, Int.reduceLE, Int.reduceEq, Int.reduceNe, Int.reduceToNat, Int.toNat_natCast, Nat.zero_add, Nat.add_zero, Nat.mul_one, Nat.one_mul, Bool.not_true, Bool.not_false, ne_eq, not_true_eq_false, not_false_eq_true, Bool.false_eq_true, en]
    exact ⟨l.length + 1 - (i + 1), by omega, i + 1, rfl, by omega, by rw [flat_succ B hx, ← List.append_assoc]; exact w3, (f2.trans (w2.frw fd)).trans f3, rfl⟩
  · have : l.take i = l := List.take_of_length_le (by omega)
    rw [this] at w2
    simp only [go_sem, reduceIte, Nat.reduceAdd, Nat.reduceSub, Nat.reduceMul, Nat.reducePow, Nat.reduceLT, Nat.reduceLeDiff, Nat.reduceEqDiff, Int.reduceAdd, Int.reduceSub, Int.reduceMul, Int.reduceNeg, Int.reducePow, Int.reduceLT, Int.reduceLE, Int.reduceEq, Int.reduceNe, Int.reduceToNat, Int.toNat_natCast, Nat.zero_add, Nat.add_zero, Nat.mul_one, Nat.one_mul, Bool.not_true, Bool.not_false, ne_eq, not_true_eq_false, not_false_eq_true, Bool.false_eq_true, q]
    refine hK h2 ?_ f2
    unfold manyB; rw [← List.append_assoc]; exact w2
theorem manyIns_c {α : Type} {Rel : α → List AV → Prop} {lv : AV} {l : List α} (w : W h0 h wb L) (r : RowOf h0 9 Rel lv l) (hlv : ∀ x c, Rel x c → leaves c = true) {E : Nat} {B : α → List Nat} (hl : l.length ≤ reachBytes) (hm : (L ++ manyB B l).length ≤ most)
    (hE : ∀ x ∈ l, ∀ c, Rel x c → Each h0 wb E (.agg c) (B x)) {K : AV → H → Prop} (hK : ∀ h', W h0 h' wb (L ++ manyB B l) → FrW wb h h' → K (.tup []) h') : C 199 [.ptr wb 0, lv, .fn E [.ptr wb 0] []] h K := by
  refine run199 ?_
  have hlen := r.len
  have hr : reachBytes ≤ 4611686018427387903 := by decide
  have hm1 : (L ++ numB l.length).length ≤ most := by unfold manyB at hm; rw [List.length_append, List.length_append] at hm; rw [List.length_append]; omega
  simp only [sh199, go_sem, reduceIte, Nat.reduceAdd, Nat.reduceSub, Nat.reduceMul, Nat.reducePow, Nat.reduceLT, Nat.reduceLeDiff, Nat.reduceEqDiff, Int.reduceAdd, Int.reduceSub, Int.reduceMul, Int.reduceNeg, Int.reducePow, Int.reduceLT, Int.reduceLE, Int.reduceEq, Int.reduceNe, Int.reduceToNat, Int.toNat_natCast, Nat.zero_add, Nat.add_zero, Nat.mul_one, Nat.one_mul, Bool.not_true, Bool.not_false, ne_eq, not_true_eq_false, not_false_eq_true, Bool.false_eq_true, hlen]
  refine wnum_c w ⟨by omega, by omega⟩ hm1 fun h1 w1 f1 => ?_
  try simp only [go_sem, reduceIte, Nat.reduceAdd, Nat.reduceSub, Nat.reduceMul, Nat.reducePow, Nat.reduceLT, Nat.reduceLeDiff, Nat.reduceEqDiff, Int.reduceAdd, Int.reduceSub, Int.reduceMul, Int.reduceNeg, Int.reducePow, Int.reduceLT, Int.reduceLE, Int.reduceEq, Int.reduceNe, Int.reduceToNat, Int.toNat_natCast, Nat.zero_add, Nat.add_zero, Nat.mul_one, Nat.one_mul, Bool.not_true, Bool.not_false, ne_eq, not_true_eq_false, not_false_eq_true, Bool.false_eq_true, hlen]
  refine loop_r (l.length + 1) (fun k ls h2 => ∃ i : Nat, ls = [.int .i64 i] ∧ i ≤ l.length ∧ W h0 h2 wb (L ++ numB l.length ++ (l.take i).flatMap B) ∧ FrW wb h h2 ∧ k = l.length + 1 - i) ⟨0, rfl, by omega, by simpa using w1, f1, rfl⟩ ?_
  rintro k ls h2 ⟨i, rfl, hi, w2, f2, rfl⟩
  by_cases q : (i : Int) < l.length
  · have hi' : i < l.length := by omega
    obtain ⟨x, hx⟩ : ∃ x, l[i]? = some x := ⟨l[i], by simp [hi']⟩
    have hxm := List.mem_of_getElem? hx
    have en : IntKind.i64.wrap ((i : Int) + 1) = ((i + 1 : Nat) : Int) := by rw [i64_id (by omega) (by omega)]; rfl
    have hb : (L ++ numB l.length ++ (l.take i).flatMap B ++ B x).length ≤ most := by
      have h1 := flat_take_le B l (i + 1)
      rw [flat_succ B hx, List.length_append] at h1
      unfold manyB at hm
      rw [List.length_append, List.length_append] at hm
      rw [List.length_append, List.length_append, List.length_append]; omega
    obtain ⟨b, o, c, e1, e2, e3, e4, e5⟩ := (r.mono w2.fr (Rel' := Rel) fun _ _ _ z => z).el hx
    simp only [go_sem, reduceIte, Nat.reduceAdd, Nat.reduceSub, Nat.reduceMul, Nat.reducePow, Nat.reduceLT, Nat.reduceLeDiff, Nat.reduceEqDiff, Int.reduceAdd, Int.reduceSub, Int.reduceMul, Int.reduceNeg, Int.reducePow, Int.reduceLT, Int.reduceLE, Int.reduceEq, Int.reduceNe, Int.reduceToNat, Int.toNat_natCast, Nat.zero_add, Nat.add_zero, Nat.mul_one, Nat.one_mul, Bool.not_true, Bool.not_false, ne_eq, not_true_eq_false, not_false_eq_true, Bool.false_eq_true, q, e1, e4]
    refine box_r rfl fun d hd => ?_
    have st := copy_st (h := h2) (b := d) (e := 55) (n := 9) (zs := [.int .i64 0, .int .i64 0, .int .i64 0, .int .i64 0, .int .i64 0, .int .i64 0, .nilsl, .nilsl, .nilsl]) (cs := c) e3 rfl (hlv x c e2)
    have fd : Fr [] h2 (h2.set d (.live c 55 true)) := (Fr.refl _ _).set' hd
    have rd : (h2.set d (.live c 55 true)).read d 0 9 = some c := H.read_eq (H.get_same ..) (by omega) (by rw [List.drop_zero, List.take_of_length_le (by omega)])
    simp only [go_sem, reduceIte, Nat.reduceAdd, Nat.reduceSub, Nat.reduceMul, Nat.reducePow, Nat.reduceLT, Nat.reduceLeDiff, Nat.reduceEqDiff, Int.reduceAdd, Int.reduceSub, Int.reduceMul, Int.reduceNeg, Int.reducePow, Int.reduceLT, Int.reduceLE, Int.reduceEq, Int.reduceNe, Int.reduceToNat, Int.toNat_natCast, Nat.zero_add, Nat.add_zero, Nat.mul_one, Nat.one_mul, Bool.not_true, Bool.not_false, ne_eq, not_true_eq_false, not_false_eq_true, Bool.false_eq_true, st, rd, List.cons_append, List.nil_append, List.append_nil]
    refine hE x hxm c e2 _ _ (w2.keep fd) hb _ fun h3 w3 f3 => ?_
    simp only [go_sem, reduceIte, Nat.reduceAdd, Nat.reduceSub, Nat.reduceMul, Nat.reducePow, Nat.reduceLT, Nat.reduceLeDiff, Nat.reduceEqDiff, Int.reduceAdd, Int.reduceSub, Int.reduceMul, Int.reduceNeg, Int.reducePow, Int.reduceLT, Int.reduceLE, Int.reduceEq, Int.reduceNe, Int.reduceToNat, Int.toNat_natCast, Nat.zero_add, Nat.add_zero, Nat.mul_one, Nat.one_mul, Bool.not_true, Bool.not_false, ne_eq, not_true_eq_false, not_false_eq_true, Bool.false_eq_true, en]
    exact ⟨l.length + 1 - (i + 1), by omega, i + 1, rfl, by omega, by rw [flat_succ B hx, ← List.append_assoc]; exact w3, (f2.trans (w2.frw fd)).trans f3, rfl⟩
  · have : l.take i = l := List.take_of_length_le (by omega)
    rw [this] at w2
    simp only [go_sem, reduceIte, Nat.reduceAdd, Nat.reduceSub, Nat.reduceMul, Nat.reducePow, Nat.reduceLT, Nat.reduceLeDiff, Nat.reduceEqDiff, Int.reduceAdd, Int.reduceSub, Int.reduceMul, Int.reduceNeg, Int.reducePow, Int.reduceLT, Int.reduceLE, Int.reduceEq, Int.reduceNe, Int.reduceToNat, Int.toNat_natCast, Nat.zero_add, Nat.add_zero, Nat.mul_one, Nat.one_mul, Bool.not_true, Bool.not_false, ne_eq, not_true_eq_false, not_false_eq_true, Bool.false_eq_true, q]
    refine hK h2 ?_ f2
    unfold manyB; rw [← List.append_assoc]; exact w2
theorem manyStr_c {lv : AV} {l : List (List UInt8)} (w : W h0 h wb L) (r : Row h0 lv l.length 1 (l.map AV.str)) {E : Nat} {B : (List UInt8) → List Nat} (hl : l.length ≤ reachBytes) (hm : (L ++ manyB B l).length ≤ most)
    (hE : ∀ x ∈ l, Each h0 wb E (.str x) (B x)) {K : AV → H → Prop} (hK : ∀ h', W h0 h' wb (L ++ manyB B l) → FrW wb h h' → K (.tup []) h') : C 104 [.ptr wb 0, lv, .fn E [.ptr wb 0] []] h K := by
  refine run104 ?_
  have hlen := r.len
  have hr : reachBytes ≤ 4611686018427387903 := by decide
  have hm1 : (L ++ numB l.length).length ≤ most := by unfold manyB at hm; rw [List.length_append, List.length_append] at hm; rw [List.length_append]; omega
  simp only [sh104, go_sem, reduceIte, Nat.reduceAdd, Nat.reduceSub, Nat.reduceMul, Nat.reducePow, Nat.reduceLT, Nat.reduceLeDiff, Nat.reduceEqDiff, Int.reduceAdd, Int.reduceSub, Int.reduceMul, Int.reduceNeg, Int.reducePow, Int.reduceLT, Int.reduceLE, Int.reduceEq, Int.reduceNe, Int.reduceToNat, Int.toNat_natCast, Nat.zero_add, Nat.add_zero, Nat.mul_one, Nat.one_mul, Bool.not_true, Bool.not_false, ne_eq, not_true_eq_false, not_false_eq_true, Bool.false_eq_true, hlen]
  refine wnum_c w ⟨by omega, by omega⟩ hm1 fun h1 w1 f1 => ?_
  try simp only [go_sem, reduceIte, Nat.reduceAdd, Nat.reduceSub, Nat.reduceMul, Nat.reducePow, Nat.reduceLT, Nat.reduceLeDiff, Nat.reduceEqDiff, Int.reduceAdd, Int.reduceSub, Int.reduceMul, Int.reduceNeg, Int.reducePow, Int.reduceLT, Int.reduceLE, Int.reduceEq, Int.reduceNe, Int.reduceToNat, Int.toNat_natCast, Nat.zero_add, Nat.add_zero, Nat.mul_one, Nat.one_mul, Bool.not_true, Bool.not_false, ne_eq, not_true_eq_false, not_false_eq_true, Bool.false_eq_true, hlen]
  refine loop_r (l.length + 1) (fun k ls h2 => ∃ i : Nat, ls = [.int .i64 i] ∧ i ≤ l.length ∧ W h0 h2 wb (L ++ numB l.length ++ (l.take i).flatMap B) ∧ FrW wb h h2 ∧ k = l.length + 1 - i) ⟨0, rfl, by omega, by simpa using w1, f1, rfl⟩ ?_
  rintro k ls h2 ⟨i, rfl, hi, w2, f2, rfl⟩
  by_cases q : (i : Int) < l.length
  · have hi' : i < l.length := by omega
    obtain ⟨x, hx⟩ : ∃ x, l[i]? = some x := ⟨l[i], by simp [hi']⟩
    have hxm := List.mem_of_getElem? hx
    have en : IntKind.i64.wrap ((i : Int) + 1) = ((i + 1 : Nat) : Int) := by rw [i64_id (by omega) (by omega)]; rfl
    have hb : (L ++ numB l.length ++ (l.take i).flatMap B ++ B x).length ≤ most := by
      have h1 := flat_take_le B l (i + 1)
      rw [flat_succ B hx, List.length_append] at h1
      unfold manyB at hm
      rw [List.length_append, List.length_append] at hm
      rw [List.length_append, List.length_append, List.length_append]; omega
    obtain ⟨b, o, e1, e2⟩ := (r.fr w2.fr).at (i := i) (x := .str x) (by omega) q (by rw [Int.toNat_natCast]; rw [List.getElem?_map, hx]; rfl)
    simp only [go_sem, reduceIte, Nat.reduceAdd, Nat.reduceSub, Nat.reduceMul, Nat.reducePow, Nat.reduceLT, Nat.reduceLeDiff, Nat.reduceEqDiff, Int.reduceAdd, Int.reduceSub, Int.reduceMul, Int.reduceNeg, Int.reducePow, Int.reduceLT, Int.reduceLE, Int.reduceEq, Int.reduceNe, Int.reduceToNat, Int.toNat_natCast, Nat.zero_add, Nat.add_zero, Nat.mul_one, Nat.one_mul, Bool.not_true, Bool.not_false, ne_eq, not_true_eq_false, not_false_eq_true, Bool.false_eq_true, q, e1, e2, List.cons_append, List.nil_append, List.append_nil]
    refine hE x hxm _ _ w2 hb _ fun h3 w3 f3 => ?_
    simp only [go_sem, reduceIte, Nat.reduceAdd, Nat.reduceSub, Nat.reduceMul, Nat.reducePow, Nat.reduceLT, Nat.reduceLeDiff, Nat.reduceEqDiff, Int.reduceAdd, Int.reduceSub, Int.reduceMul, Int.reduceNeg, Int.reducePow, Int.reduceLT, Int.reduceLE, Int.reduceEq, Int.reduceNe, Int.reduceToNat, Int.toNat_natCast, Nat.zero_add, Nat.add_zero, Nat.mul_one, Nat.one_mul, Bool.not_true, Bool.not_false, ne_eq, not_true_eq_false, not_false_eq_true, Bool.false_eq_true, en]
    exact ⟨l.length + 1 - (i + 1), by omega, i + 1, rfl, by omega, by rw [flat_succ B hx, ← List.append_assoc]; exact w3, f2.trans f3, rfl⟩
  · have : l.take i = l := List.take_of_length_le (by omega)
    rw [this] at w2
    simp only [go_sem, reduceIte, Nat.reduceAdd, Nat.reduceSub, Nat.reduceMul, Nat.reducePow, Nat.reduceLT, Nat.reduceLeDiff, Nat.reduceEqDiff, Int.reduceAdd, Int.reduceSub, Int.reduceMul, Int.reduceNeg, Int.reducePow, Int.reduceLT, Int.reduceLE, Int.reduceEq, Int.reduceNe, Int.reduceToNat, Int.toNat_natCast, Nat.zero_add, Nat.add_zero, Nat.mul_one, Nat.one_mul, Bool.not_true, Bool.not_false, ne_eq, not_true_eq_false, not_false_eq_true, Bool.false_eq_true, q]
    refine hK h2 ?_ f2
    unfold manyB; rw [← List.append_assoc]; exact w2
theorem manyInt_c {lv : AV} {l : List Int} (w : W h0 h wb L) (r : Row h0 lv l.length 1 (ic l)) {E : Nat} {B : Int → List Nat} (hl : l.length ≤ reachBytes) (hm : (L ++ manyB B l).length ≤ most)
    (hE : ∀ x ∈ l, Each h0 wb E (.int .i64 x) (B x)) {K : AV → H → Prop} (hK : ∀ h', W h0 h' wb (L ++ manyB B l) → FrW wb h h' → K (.tup []) h') : C 198 [.ptr wb 0, lv, .fn E [.ptr wb 0] []] h K := by
  refine run198 ?_
  have hlen := r.len
  have hr : reachBytes ≤ 4611686018427387903 := by decide
  have hm1 : (L ++ numB l.length).length ≤ most := by unfold manyB at hm; rw [List.length_append, List.length_append] at hm; rw [List.length_append]; omega
  simp only [sh198, go_sem, reduceIte, Nat.reduceAdd, Nat.reduceSub, Nat.reduceMul, Nat.reducePow, Nat.reduceLT, Nat.reduceLeDiff, Nat.reduceEqDiff, Int.reduceAdd, Int.reduceSub, Int.reduceMul, Int.reduceNeg, Int.reducePow, Int.reduceLT, Int.reduceLE, Int.reduceEq, Int.reduceNe, Int.reduceToNat, Int.toNat_natCast, Nat.zero_add, Nat.add_zero, Nat.mul_one, Nat.one_mul, Bool.not_true, Bool.not_false, ne_eq, not_true_eq_false, not_false_eq_true, Bool.false_eq_true, hlen]
  refine wnum_c w ⟨by omega, by omega⟩ hm1 fun h1 w1 f1 => ?_
  try simp only [go_sem, reduceIte, Nat.reduceAdd, Nat.reduceSub, Nat.reduceMul, Nat.reducePow, Nat.reduceLT, Nat.reduceLeDiff, Nat.reduceEqDiff, Int.reduceAdd, Int.reduceSub, Int.reduceMul, Int.reduceNeg, Int.reducePow, Int.reduceLT, Int.reduceLE, Int.reduceEq, Int.reduceNe, Int.reduceToNat, Int.toNat_natCast, Nat.zero_add, Nat.add_zero, Nat.mul_one, Nat.one_mul, Bool.not_true, Bool.not_false, ne_eq, not_true_eq_false, not_false_eq_true, Bool.false_eq_true, hlen]
  refine loop_r (l.length + 1) (fun k ls h2 => ∃ i : Nat, ls = [.int .i64 i] ∧ i ≤ l.length ∧ W h0 h2 wb (L ++ numB l.length ++ (l.take i).flatMap B) ∧ FrW wb h h2 ∧ k = l.length + 1 - i) ⟨0, rfl, by omega, by simpa using w1, f1, rfl⟩ ?_
  rintro k ls h2 ⟨i, rfl, hi, w2, f2, rfl⟩
  by_cases q : (i : Int) < l.length
  · have hi' : i < l.length := by omega
    obtain ⟨x, hx⟩ : ∃ x, l[i]? = some x := ⟨l[i], by simp [hi']⟩
    have hxm := List.mem_of_getElem? hx
    have en : IntKind.i64.wrap ((i : Int) + 1) = ((i + 1 : Nat) : Int) := by rw [i64_id (by omega) (by omega)]; rfl
    have hb : (L ++ numB l.length ++ (l.take i).flatMap B ++ B x).length ≤ most := by
      have h1 := flat_take_le B l (i + 1)
      rw [flat_succ B hx, List.length_append] at h1
      unfold manyB at hm
      rw [List.length_append, List.length_append] at hm
      rw [List.length_append, List.length_append, List.length_append]; omega
    obtain ⟨b, o, e1, e2⟩ := (r.fr w2.fr).at (i := i) (x := .int .i64 x) (by omega) q (by rw [Int.toNat_natCast]; unfold ic; rw [List.getElem?_map, hx]; rfl)
    simp only [go_sem, reduceIte, Nat.reduceAdd, Nat.reduceSub, Nat.reduceMul, Nat.reducePow, Nat.reduceLT, Nat.reduceLeDiff, Nat.reduceEqDiff, Int.reduceAdd, Int.reduceSub, Int.reduceMul, Int.reduceNeg, Int.reducePow, Int.reduceLT, Int.reduceLE, Int.reduceEq, Int.reduceNe, Int.reduceToNat, Int.toNat_natCast, Nat.zero_add, Nat.add_zero, Nat.mul_one, Nat.one_mul, Bool.not_true, Bool.not_false, ne_eq, not_true_eq_false, not_false_eq_true, Bool.false_eq_true, q, e1, e2, List.cons_append, List.nil_append, List.append_nil]
    refine hE x hxm _ _ w2 hb _ fun h3 w3 f3 => ?_
    simp only [go_sem, reduceIte, Nat.reduceAdd, Nat.reduceSub, Nat.reduceMul, Nat.reducePow, Nat.reduceLT, Nat.reduceLeDiff, Nat.reduceEqDiff, Int.reduceAdd, Int.reduceSub, Int.reduceMul, Int.reduceNeg, Int.reducePow, Int.reduceLT, Int.reduceLE, Int.reduceEq, Int.reduceNe, Int.reduceToNat, Int.toNat_natCast, Nat.zero_add, Nat.add_zero, Nat.mul_one, Nat.one_mul, Bool.not_true, Bool.not_false, ne_eq, not_true_eq_false, not_false_eq_true, Bool.false_eq_true, en]
    exact ⟨l.length + 1 - (i + 1), by omega, i + 1, rfl, by omega, by rw [flat_succ B hx, ← List.append_assoc]; exact w3, f2.trans f3, rfl⟩
  · have : l.take i = l := List.take_of_length_le (by omega)
    rw [this] at w2
    simp only [go_sem, reduceIte, Nat.reduceAdd, Nat.reduceSub, Nat.reduceMul, Nat.reducePow, Nat.reduceLT, Nat.reduceLeDiff, Nat.reduceEqDiff, Int.reduceAdd, Int.reduceSub, Int.reduceMul, Int.reduceNeg, Int.reducePow, Int.reduceLT, Int.reduceLE, Int.reduceEq, Int.reduceNe, Int.reduceToNat, Int.toNat_natCast, Nat.zero_add, Nat.add_zero, Nat.mul_one, Nat.one_mul, Bool.not_true, Bool.not_false, ne_eq, not_true_eq_false, not_false_eq_true, Bool.false_eq_true, q]
    refine hK h2 ?_ f2
    unfold manyB; rw [← List.append_assoc]; exact w2
end
end Go.Proofs.YtdljelicbnjfjaaGreat.X
set_option linter.unusedVariables false
set_option linter.unusedSimpArgs false
set_option maxRecDepth 20000
namespace Go.Proofs.YtdljelicbnjfjaaGreat.X
open Go Go.RowKit
theorem s2b_r {h : H} {e : Nat} {u : List UInt8} {K : AV → H → Prop} (hK : ∀ m, h.get m = none → K (.sl m 0 u.length (.more 1)) (h.set m (.live (u.map fun c => AV.int .u8 c.toNat) e true))) : s2bA h e (.str u) K := ⟨leaves_map _ (fun _ => rfl) _, hK⟩
theorem app_le {a b c : List Nat} {n : Nat} (h : (a ++ (b ++ c)).length ≤ n) : (a ++ b).length ≤ n := by
  simp only [List.length_append] at h ⊢; omega
section
variable {h0 h : H} {wb : Nat} {L : List Nat}
theorem wnums_c (w : W h0 h wb L) {lv : AV} {l : List Int} (r : Row h0 lv l.length 1 (ic l)) (ok : rgs l) (hm : (L ++ numsB l).length ≤ most) {K : AV → H → Prop} (hK : ∀ h', W h0 h' wb (L ++ numsB l) → FrW wb h h' → K (.tup []) h') : C 141 [.ptr wb 0, lv] h K := by
  refine run141 ?_
  unfold sh141
  refine manyInt_c w r ok.1 hm (fun x hx h L w hm K hK => wnum_c w (ok.2 x hx) hm hK) fun h' w' f' => ?_
  exact hK h' w' f'
theorem wkind_c {t : Ty} {c : List AV} (r : tyR h0 t c) (ok : t.ok) : Each h0 wb 101 (.agg c) (tyB t) := by
  intro h L w hm K hK
  refine run101 ?_
  have hl := r.leaves
  obtain ⟨v, rfl, rr⟩ := r
  have ec : ∀ cs : List AV, (AV.agg cs).cells = cs := fun _ => rfl
  unfold sh101
  rw [ec]
  refine box_r hl fun d hd => ?_
  have off := w.off hd (.live [.bool t.imm, v] 46 true)
  have fd : Fr [] h (h.set d (.live [.bool t.imm, v] 46 true)) := (Fr.refl _ _).set' hd
  have w1 := w.keep fd
  have fw := w.frw fd
  generalize h.set d (.live [.bool t.imm, v] 46 true) = h1 at *
  unfold tyB at hm hK
  refine join_r (fun (J : AV → H → Prop) => J (.int .i64 (if t.imm then 1 else 0)) h1) ?_ fun J hJ => ?_
  · refine wnum_c w1 (by unfold rg; split <;> omega) (app_le hm) fun h2 w2 f2 => ?_
    have off2 := f2.off off
    have cd : ∀ off, h2.cell d off = [AV.bool t.imm, v][off]? := fun off => cell_of off2.2.1 off
    simp only [go_sem, reduceIte, Nat.reduceAdd, Nat.reduceSub, Nat.reduceMul, Nat.reducePow, Nat.reduceLT, Nat.reduceLeDiff, Nat.reduceEqDiff, Int.reduceAdd, Int.reduceSub, Int.reduceMul, Int.reduceNeg, Int.reducePow, Int.reduceLT, Int.reduceLE, Int.reduceEq, Int.reduceNe, Int.reduceToNat, Int.toNat_natCast, Nat.zero_add, Nat.add_zero, Nat.mul_one, Nat.one_mul, Bool.not_true, Bool.not_false, ne_eq, not_true_eq_false, not_false_eq_true, Bool.false_eq_true, cd]
    rw [← List.append_assoc] at hm
    refine wnums_c w2 rr ok hm fun h3 w3 f3 => ?_
    try simp only [go_sem, reduceIte, Nat.reduceAdd, Nat.reduceSub, Nat.reduceMul, Nat.reducePow, Nat.reduceLT, Nat.reduceLeDiff, Nat.reduceEqDiff, Int.reduceAdd, Int.reduceSub, Int.reduceMul, Int.reduceNeg, Int.reducePow, Int.reduceLT, Int.reduceLE, Int.reduceEq, Int.reduceNe, Int.reduceToNat, Int.toNat_natCast, Nat.zero_add, Nat.add_zero, Nat.mul_one, Nat.one_mul, Bool.not_true, Bool.not_false, ne_eq, not_true_eq_false, not_false_eq_true, Bool.false_eq_true]
    rw [List.append_assoc] at w3
    exact hK h3 w3 ((fw.trans f2).trans f3)
  · have cd : ∀ o, h1.cell d o = [AV.bool t.imm, v][o]? := fun o => cell_of off.2.1 o
    cases hi : t.imm with
    | true => rw [hi] at hJ; simp only [go_sem, reduceIte, Nat.reduceAdd, Nat.reduceSub, Nat.reduceMul, Nat.reducePow, Nat.reduceLT, Nat.reduceLeDiff, Nat.reduceEqDiff, Int.reduceAdd, Int.reduceSub, Int.reduceMul, Int.reduceNeg, Int.reducePow, Int.reduceLT, Int.reduceLE, Int.reduceEq, Int.reduceNe, Int.reduceToNat, Int.toNat_natCast, Nat.zero_add, Nat.add_zero, Nat.mul_one, Nat.one_mul, Bool.not_true, Bool.not_false, ne_eq, not_true_eq_false, not_false_eq_true, Bool.false_eq_true, cd, hi]; exact hJ
    | false => rw [hi] at hJ; simp only [go_sem, reduceIte, Nat.reduceAdd, Nat.reduceSub, Nat.reduceMul, Nat.reducePow, Nat.reduceLT, Nat.reduceLeDiff, Nat.reduceEqDiff, Int.reduceAdd, Int.reduceSub, Int.reduceMul, Int.reduceNeg, Int.reducePow, Int.reduceLT, Int.reduceLE, Int.reduceEq, Int.reduceNe, Int.reduceToNat, Int.toNat_natCast, Nat.zero_add, Nat.add_zero, Nat.mul_one, Nat.one_mul, Bool.not_true, Bool.not_false, ne_eq, not_true_eq_false, not_false_eq_true, Bool.false_eq_true, cd, hi]; exact hJ
theorem wshape_c {s : Shp} {c : List AV} (r : shR h0 s c) (ok : s.ok) : Each h0 wb 103 (.agg c) (shB s) := by
  intro h L w hm K hK
  refine run103 ?_
  have hl := r.leaves
  obtain ⟨v, rfl, rr⟩ := r
  have ec : ∀ cs : List AV, (AV.agg cs).cells = cs := fun _ => rfl
  unfold sh103
  rw [ec]
  refine box_r hl fun d hd => ?_
  have off := w.off hd (.live [.int .i64 s.kind, v, .str s.name] 61 true)
  have fd : Fr [] h (h.set d (.live [.int .i64 s.kind, v, .str s.name] 61 true)) := (Fr.refl _ _).set' hd
  have w1 := w.keep fd
  have fw := w.frw fd
  generalize h.set d (.live [.int .i64 s.kind, v, .str s.name] 61 true) = h1 at *
  unfold shB at hm hK
  have cd : ∀ {h2}, Off wb h2 d (.live [.int .i64 s.kind, v, .str s.name] 61 true) → ∀ o, h2.cell d o = [AV.int .i64 s.kind, v, .str s.name][o]? := fun q o => cell_of q.2.1 o
  rw [List.append_assoc] at hm
  simp only [go_sem, reduceIte, Nat.reduceAdd, Nat.reduceSub, Nat.reduceMul, Nat.reducePow, Nat.reduceLT, Nat.reduceLeDiff, Nat.reduceEqDiff, Int.reduceAdd, Int.reduceSub, Int.reduceMul, Int.reduceNeg, Int.reducePow, Int.reduceLT, Int.reduceLE, Int.reduceEq, Int.reduceNe, Int.reduceToNat, Int.toNat_natCast, Nat.zero_add, Nat.add_zero, Nat.mul_one, Nat.one_mul, Bool.not_true, Bool.not_false, ne_eq, not_true_eq_false, not_false_eq_true, Bool.false_eq_true, cd off]
  refine wnum_c w1 ok.1 (app_le hm) fun h2 w2 f2 => ?_
  have off2 := f2.off off
  rw [← List.append_assoc] at hm
  simp only [go_sem, reduceIte, Nat.reduceAdd, Nat.reduceSub, Nat.reduceMul, Nat.reducePow, Nat.reduceLT, Nat.reduceLeDiff, Nat.reduceEqDiff, Int.reduceAdd, Int.reduceSub, Int.reduceMul, Int.reduceNeg, Int.reducePow, Int.reduceLT, Int.reduceLE, Int.reduceEq, Int.reduceNe, Int.reduceToNat, Int.toNat_natCast, Nat.zero_add, Nat.add_zero, Nat.mul_one, Nat.one_mul, Bool.not_true, Bool.not_false, ne_eq, not_true_eq_false, not_false_eq_true, Bool.false_eq_true, cd off2]
  refine wnums_c w2 rr ok.2.1 (app_le hm) fun h3 w3 f3 => ?_
  have off3 := f3.off off2
  rw [← List.append_assoc] at hm
  simp only [go_sem, reduceIte, Nat.reduceAdd, Nat.reduceSub, Nat.reduceMul, Nat.reducePow, Nat.reduceLT, Nat.reduceLeDiff, Nat.reduceEqDiff, Int.reduceAdd, Int.reduceSub, Int.reduceMul, Int.reduceNeg, Int.reducePow, Int.reduceLT, Int.reduceLE, Int.reduceEq, Int.reduceNe, Int.reduceToNat, Int.toNat_natCast, Nat.zero_add, Nat.add_zero, Nat.mul_one, Nat.one_mul, Bool.not_true, Bool.not_false, ne_eq, not_true_eq_false, not_false_eq_true, Bool.false_eq_true, cd off3]
  refine wtext_c w3 ok.2.2 hm fun h4 w4 f4 => ?_
  try simp only [go_sem, reduceIte, Nat.reduceAdd, Nat.reduceSub, Nat.reduceMul, Nat.reducePow, Nat.reduceLT, Nat.reduceLeDiff, Nat.reduceEqDiff, Int.reduceAdd, Int.reduceSub, Int.reduceMul, Int.reduceNeg, Int.reducePow, Int.reduceLT, Int.reduceLE, Int.reduceEq, Int.reduceNe, Int.reduceToNat, Int.toNat_natCast, Nat.zero_add, Nat.add_zero, Nat.mul_one, Nat.one_mul, Bool.not_true, Bool.not_false, ne_eq, not_true_eq_false, not_false_eq_true, Bool.false_eq_true]
  simp only [List.append_assoc] at w4 hK
  exact hK h4 w4 (((fw.trans f2).trans f3).trans f4)
theorem fld_len (x : Ins) (u : List UInt8) (i : Nat) {c : UInt8} (hc : u[i]? = some c) {L : List Nat} (hm : (L ++ u.flatMap (fldB x)).length ≤ most) : (L ++ (u.take i).flatMap (fldB x) ++ fldB x c).length ≤ most := by
  have h1 := flat_take_le (fldB x) u (i + 1)
  rw [flat_succ (fldB x) hc, List.length_append] at h1
  simp only [List.length_append] at hm ⊢; omega
theorem winstr_c {x : Ins} {c : List AV} (r : insR h0 x c) (ok : x.ok) : Each h0 wb 200 (.agg c) (insB x) := by
  intro h L w hm K hK
  refine run200 ?_
  have hl := r.leaves
  obtain ⟨vl, vm, vv, rfl, q1, q2, q3⟩ := r
  obtain ⟨⟨o1, o2, o3, o4, o5, o6⟩, o7, o8, o9⟩ := ok
  have ec : ∀ cs : List AV, (AV.agg cs).cells = cs := fun _ => rfl
  unfold sh200
  rw [ec]
  refine box_r hl fun d hd => ?_
  have off := w.off hd (.live (insC x vl vm vv) 55 true)
  have fd : Fr [] h (h.set d (.live (insC x vl vm vv) 55 true)) := (Fr.refl _ _).set' hd
  have w1 := w.keep fd
  have fw := w.frw fd
  generalize h.set d (.live (insC x vl vm vv) 55 true) = h1 at *
  unfold insB at hm hK
  have cd : ∀ {h2}, Off wb h2 d (.live (insC x vl vm vv) 55 true) → ∀ o, h2.cell d o = [AV.int .i64 x.op, .int .i64 x.d, .int .i64 x.a, .int .i64 x.b, .int .i64 x.c, .int .i64 x.n, vl, vm, vv][o]? := fun q o => cell_of q.2.1 o
  simp only [go_sem, reduceIte, Nat.reduceAdd, Nat.reduceSub, Nat.reduceMul, Nat.reducePow, Nat.reduceLT, Nat.reduceLeDiff, Nat.reduceEqDiff, Int.reduceAdd, Int.reduceSub, Int.reduceMul, Int.reduceNeg, Int.reducePow, Int.reduceLT, Int.reduceLE, Int.reduceEq, Int.reduceNe, Int.reduceToNat, Int.toNat_natCast, Nat.zero_add, Nat.add_zero, Nat.mul_one, Nat.one_mul, Bool.not_true, Bool.not_false, ne_eq, not_true_eq_false, not_false_eq_true, Bool.false_eq_true, cd off]
  refine wnum_c w1 o1 (app_le hm) fun h2 w2 f2 => ?_
  have off2 := f2.off off
  rw [← List.append_assoc] at hm
  simp only [← List.append_assoc] at hK
  simp only [go_sem, reduceIte, Nat.reduceAdd, Nat.reduceSub, Nat.reduceMul, Nat.reducePow, Nat.reduceLT, Nat.reduceLeDiff, Nat.reduceEqDiff, Int.reduceAdd, Int.reduceSub, Int.reduceMul, Int.reduceNeg, Int.reducePow, Int.reduceLT, Int.reduceLE, Int.reduceEq, Int.reduceNe, Int.reduceToNat, Int.toNat_natCast, Nat.zero_add, Nat.add_zero, Nat.mul_one, Nat.one_mul, Bool.not_true, Bool.not_false, ne_eq, not_true_eq_false, not_false_eq_true, Bool.false_eq_true, cd off2, uses_c]
  have hu := usesN_len x.op
  have hr : reachBytes ≤ 4611686018427387903 := by decide
  generalize usesN x.op = u at *
  refine s2b_r fun m hmm => ?_
  have offm := w2.off hmm (.live (u.map fun c => AV.int .u8 c.toNat) 5 true)
  have fm : Fr [] h2 (h2.set m (.live (u.map fun c => AV.int .u8 c.toNat) 5 true)) := (Fr.refl _ _).set' hmm
  have w3 := w2.keep fm
  have fw3 := (fw.trans f2).trans (w2.frw fm)
  have off3 := (w2.frw fm).off off2
  generalize h2.set m (.live (u.map fun c => AV.int .u8 c.toNat) 5 true) = h3 at *
  have rowm : ∀ {h4}, Off wb h4 m (.live (u.map fun c => AV.int .u8 c.toNat) 5 true) → Row h4 (.sl m 0 u.length (.more 1)) u.length 1 (u.map fun c => AV.int .u8 c.toNat) := fun q =>
    ⟨by simp, .inr ⟨m, 0, _, rfl, rfl, H.read_eq q.2.1 (by simp) (by rw [List.drop_zero, List.take_of_length_le (by simp)])⟩⟩
  simp only [go_sem, reduceIte, Nat.reduceAdd, Nat.reduceSub, Nat.reduceMul, Nat.reducePow, Nat.reduceLT, Nat.reduceLeDiff, Nat.reduceEqDiff, Int.reduceAdd, Int.reduceSub, Int.reduceMul, Int.reduceNeg, Int.reducePow, Int.reduceLT, Int.reduceLE, Int.reduceEq, Int.reduceNe, Int.reduceToNat, Int.toNat_natCast, Nat.zero_add, Nat.add_zero, Nat.mul_one, Nat.one_mul, Bool.not_true, Bool.not_false, ne_eq, not_true_eq_false, not_false_eq_true, Bool.false_eq_true, (rowm offm).len]
  refine loop_r (u.length + 1) (fun k ls h4 => ∃ i : Nat, ls = [.int .i64 i] ∧ i ≤ u.length ∧ W h0 h4 wb (L ++ numB x.op ++ (u.take i).flatMap (fldB x)) ∧ FrW wb h h4 ∧ Off wb h4 d (.live (insC x vl vm vv) 55 true) ∧ Off wb h4 m (.live (u.map fun c => AV.int .u8 c.toNat) 5 true) ∧ k = u.length + 1 - i)
    ⟨0, rfl, by omega, by simpa using w3, fw3, off3, offm, rfl⟩ ?_
  rintro k ls h4 ⟨i, rfl, hi, w4, f4, off4, offm4, rfl⟩
  by_cases q : (i : Int) < u.length
  · have hi' : i < u.length := by omega
    obtain ⟨c, hc⟩ : ∃ c, u[i]? = some c := ⟨u[i], by simp [hi']⟩
    obtain ⟨bo, oo, m1, m2⟩ := (rowm offm4).at (i := i) (x := .int .u8 c.toNat) (by omega) q (by rw [Int.toNat_natCast, List.getElem?_map, hc]; rfl)
    have en : IntKind.i64.wrap ((i : Int) + 1) = ((i + 1 : Nat) : Int) := by rw [i64_id (by omega) (by omega)]; rfl
    have hb := fld_len x u i hc hm
    have done : ∀ h5, W h0 h5 wb (L ++ numB x.op ++ (u.take i).flatMap (fldB x) ++ fldB x c) → FrW wb h4 h5 → ∃ n', n' < u.length + 1 - i ∧ ∃ i' : Nat, [AV.int .i64 ((i + 1 : Nat) : Int)] = [.int .i64 i'] ∧ i' ≤ u.length ∧ W h0 h5 wb (L ++ numB x.op ++ (u.take i').flatMap (fldB x)) ∧ FrW wb h h5 ∧
        Off wb h5 d (.live (insC x vl vm vv) 55 true) ∧ Off wb h5 m (.live (u.map fun c => AV.int .u8 c.toNat) 5 true) ∧ n' = u.length + 1 - i' := fun h5 w5 f5 =>
      ⟨u.length + 1 - (i + 1), by omega, i + 1, rfl, by omega, by rw [flat_succ (fldB x) hc, ← List.append_assoc]; exact w5, f4.trans f5, f5.off off4, f5.off offm4, rfl⟩
    have fn : ∀ k : UInt8, ¬ c = k → ¬ ((c.toNat : Nat) : Int) = (k.toNat : Nat) := fun k e q => e (UInt8.toNat_inj.1 (by omega))
    by_cases c0 : c = 78
    · subst c0
      have t : ((UInt8.toNat 78 : Nat) : Int) = 78 := rfl
      obtain ⟨v0, y1, y2⟩ := w4.st
      have cw : h4.cell wb 0 = some v0 := by rw [cell_of y1]; rfl
      simp only [joinA, go_sem, reduceIte, Nat.reduceAdd, Nat.reduceSub, Nat.reduceMul, Nat.reducePow, Nat.reduceLT, Nat.reduceLeDiff, Nat.reduceEqDiff, Int.reduceAdd, Int.reduceSub, Int.reduceMul, Int.reduceNeg, Int.reducePow, Int.reduceLT, Int.reduceLE, Int.reduceEq, Int.reduceNe, Int.reduceToNat, Int.toNat_natCast, Nat.zero_add, Nat.add_zero, Nat.mul_one, Nat.one_mul, Bool.not_true, Bool.not_false, ne_eq, not_true_eq_false, not_false_eq_true, Bool.false_eq_true, q, m1, m2, t, cw, cd off4]
      refine put_c o6.1 o6.2 fun v1 h5 p1 f5 => ?_
      have c5 := cell_fr f5 cw
      have e : fldB x 78 = numB x.n := rfl
      rw [e] at hb done
      simp only [go_sem, reduceIte, Nat.reduceAdd, Nat.reduceSub, Nat.reduceMul, Nat.reducePow, Nat.reduceLT, Nat.reduceLeDiff, Nat.reduceEqDiff, Int.reduceAdd, Int.reduceSub, Int.reduceMul, Int.reduceNeg, Int.reducePow, Int.reduceLT, Int.reduceLE, Int.reduceEq, Int.reduceNe, Int.reduceToNat, Int.toNat_natCast, Nat.zero_add, Nat.add_zero, Nat.mul_one, Nat.one_mul, Bool.not_true, Bool.not_false, ne_eq, not_true_eq_false, not_false_eq_true, Bool.false_eq_true, c5]
      refine wput_c (w4.keep f5) (D := numB x.n) p1.row.src (by rw [List.length_append] at hb; exact hb) c5 fun v' h6 h7 st w7 f7 => ?_
      simp only [go_sem, reduceIte, Nat.reduceAdd, Nat.reduceSub, Nat.reduceMul, Nat.reducePow, Nat.reduceLT, Nat.reduceLeDiff, Nat.reduceEqDiff, Int.reduceAdd, Int.reduceSub, Int.reduceMul, Int.reduceNeg, Int.reducePow, Int.reduceLT, Int.reduceLE, Int.reduceEq, Int.reduceNe, Int.reduceToNat, Int.toNat_natCast, Nat.zero_add, Nat.add_zero, Nat.mul_one, Nat.one_mul, Bool.not_true, Bool.not_false, ne_eq, not_true_eq_false, not_false_eq_true, Bool.false_eq_true, st, en]
      exact done h7 w7 ((w4.frw f5).trans f7)
    have n0 : ¬ ((c.toNat : Nat) : Int) = 78 := fn 78 c0
    by_cases c1 : c = 68
    · subst c1
      have t : ((UInt8.toNat 68 : Nat) : Int) = 68 := rfl
      have tn : numAt 68 = some 1 := rfl
      have e : fldB x 68 = numB x.d := rfl
      rw [e] at hb done
      simp only [joinA, go_sem, reduceIte, Nat.reduceAdd, Nat.reduceSub, Nat.reduceMul, Nat.reducePow, Nat.reduceLT, Nat.reduceLeDiff, Nat.reduceEqDiff, Int.reduceAdd, Int.reduceSub, Int.reduceMul, Int.reduceNeg, Int.reducePow, Int.reduceLT, Int.reduceLE, Int.reduceEq, Int.reduceNe, Int.reduceToNat, Int.toNat_natCast, Nat.zero_add, Nat.add_zero, Nat.mul_one, Nat.one_mul, Bool.not_true, Bool.not_false, ne_eq, not_true_eq_false, not_false_eq_true, Bool.false_eq_true, q, m1, m2, t, number_c, tn, cd off4]
      refine wnum_c w4 o2 hb fun h5 w5 f5 => ?_
      simp only [go_sem, reduceIte, Nat.reduceAdd, Nat.reduceSub, Nat.reduceMul, Nat.reducePow, Nat.reduceLT, Nat.reduceLeDiff, Nat.reduceEqDiff, Int.reduceAdd, Int.reduceSub, Int.reduceMul, Int.reduceNeg, Int.reducePow, Int.reduceLT, Int.reduceLE, Int.reduceEq, Int.reduceNe, Int.reduceToNat, Int.toNat_natCast, Nat.zero_add, Nat.add_zero, Nat.mul_one, Nat.one_mul, Bool.not_true, Bool.not_false, ne_eq, not_true_eq_false, not_false_eq_true, Bool.false_eq_true, en]
      exact done h5 w5 f5
    have n1 : ¬ ((c.toNat : Nat) : Int) = 68 := fn 68 c1
    by_cases c2 : c = 65
    · subst c2
      have t : ((UInt8.toNat 65 : Nat) : Int) = 65 := rfl
      have tn : numAt 65 = some 2 := rfl
      have e : fldB x 65 = numB x.a := rfl
      rw [e] at hb done
      simp only [joinA, go_sem, reduceIte, Nat.reduceAdd, Nat.reduceSub, Nat.reduceMul, Nat.reducePow, Nat.reduceLT, Nat.reduceLeDiff, Nat.reduceEqDiff, Int.reduceAdd, Int.reduceSub, Int.reduceMul, Int.reduceNeg, Int.reducePow, Int.reduceLT, Int.reduceLE, Int.reduceEq, Int.reduceNe, Int.reduceToNat, Int.toNat_natCast, Nat.zero_add, Nat.add_zero, Nat.mul_one, Nat.one_mul, Bool.not_true, Bool.not_false, ne_eq, not_true_eq_false, not_false_eq_true, Bool.false_eq_true, q, m1, m2, t, number_c, tn, cd off4]
      refine wnum_c w4 o3 hb fun h5 w5 f5 => ?_
      simp only [go_sem, reduceIte, Nat.reduceAdd, Nat.reduceSub, Nat.reduceMul, Nat.reducePow, Nat.reduceLT, Nat.reduceLeDiff, Nat.reduceEqDiff, Int.reduceAdd, Int.reduceSub, Int.reduceMul, Int.reduceNeg, Int.reducePow, Int.reduceLT, Int.reduceLE, Int.reduceEq, Int.reduceNe, Int.reduceToNat, Int.toNat_natCast, Nat.zero_add, Nat.add_zero, Nat.mul_one, Nat.one_mul, Bool.not_true, Bool.not_false, ne_eq, not_true_eq_false, not_false_eq_true, Bool.false_eq_true, en]
      exact done h5 w5 f5
    have n2 : ¬ ((c.toNat : Nat) : Int) = 65 := fn 65 c2
    by_cases c3 : c = 66
    · subst c3
      have t : ((UInt8.toNat 66 : Nat) : Int) = 66 := rfl
      have tn : numAt 66 = some 3 := rfl
      have e : fldB x 66 = numB x.b := rfl
      rw [e] at hb done
      simp only [joinA, go_sem, reduceIte, Nat.reduceAdd, Nat.reduceSub, Nat.reduceMul, Nat.reducePow, Nat.reduceLT, Nat.reduceLeDiff, Nat.reduceEqDiff, Int.reduceAdd, Int.reduceSub, Int.reduceMul, Int.reduceNeg, Int.reducePow, Int.reduceLT, Int.reduceLE, Int.reduceEq, Int.reduceNe, Int.reduceToNat, Int.toNat_natCast, Nat.zero_add, Nat.add_zero, Nat.mul_one, Nat.one_mul, Bool.not_true, Bool.not_false, ne_eq, not_true_eq_false, not_false_eq_true, Bool.false_eq_true, q, m1, m2, t, number_c, tn, cd off4]
      refine wnum_c w4 o4 hb fun h5 w5 f5 => ?_
      simp only [go_sem, reduceIte, Nat.reduceAdd, Nat.reduceSub, Nat.reduceMul, Nat.reducePow, Nat.reduceLT, Nat.reduceLeDiff, Nat.reduceEqDiff, Int.reduceAdd, Int.reduceSub, Int.reduceMul, Int.reduceNeg, Int.reducePow, Int.reduceLT, Int.reduceLE, Int.reduceEq, Int.reduceNe, Int.reduceToNat, Int.toNat_natCast, Nat.zero_add, Nat.add_zero, Nat.mul_one, Nat.one_mul, Bool.not_true, Bool.not_false, ne_eq, not_true_eq_false, not_false_eq_true, Bool.false_eq_true, en]
      exact done h5 w5 f5
    have n3 : ¬ ((c.toNat : Nat) : Int) = 66 := fn 66 c3
    by_cases c4 : c = 67
    · subst c4
      have t : ((UInt8.toNat 67 : Nat) : Int) = 67 := rfl
      have tn : numAt 67 = some 4 := rfl
      have e : fldB x 67 = numB x.c := rfl
      rw [e] at hb done
      simp only [joinA, go_sem, reduceIte, Nat.reduceAdd, Nat.reduceSub, Nat.reduceMul, Nat.reducePow, Nat.reduceLT, Nat.reduceLeDiff, Nat.reduceEqDiff, Int.reduceAdd, Int.reduceSub, Int.reduceMul, Int.reduceNeg, Int.reducePow, Int.reduceLT, Int.reduceLE, Int.reduceEq, Int.reduceNe, Int.reduceToNat, Int.toNat_natCast, Nat.zero_add, Nat.add_zero, Nat.mul_one, Nat.one_mul, Bool.not_true, Bool.not_false, ne_eq, not_true_eq_false, not_false_eq_true, Bool.false_eq_true, q, m1, m2, t, number_c, tn, cd off4]
      refine wnum_c w4 o5 hb fun h5 w5 f5 => ?_
      simp only [go_sem, reduceIte, Nat.reduceAdd, Nat.reduceSub, Nat.reduceMul, Nat.reducePow, Nat.reduceLT, Nat.reduceLeDiff, Nat.reduceEqDiff, Int.reduceAdd, Int.reduceSub, Int.reduceMul, Int.reduceNeg, Int.reducePow, Int.reduceLT, Int.reduceLE, Int.reduceEq, Int.reduceNe, Int.reduceToNat, Int.toNat_natCast, Nat.zero_add, Nat.add_zero, Nat.mul_one, Nat.one_mul, Bool.not_true, Bool.not_false, ne_eq, not_true_eq_false, not_false_eq_true, Bool.false_eq_true, en]
      exact done h5 w5 f5
    have n4 : ¬ ((c.toNat : Nat) : Int) = 67 := fn 67 c4
    by_cases c5 : c = 76
    · subst c5
      have t : ((UInt8.toNat 76 : Nat) : Int) = 76 := rfl
      have tn : numAt 76 = none := rfl
      have tl : listAt 76 = 6 := rfl
      have e : fldB x 76 = numsB x.l := rfl
      rw [e] at hb done
      simp only [joinA, go_sem, reduceIte, Nat.reduceAdd, Nat.reduceSub, Nat.reduceMul, Nat.reducePow, Nat.reduceLT, Nat.reduceLeDiff, Nat.reduceEqDiff, Int.reduceAdd, Int.reduceSub, Int.reduceMul, Int.reduceNeg, Int.reducePow, Int.reduceLT, Int.reduceLE, Int.reduceEq, Int.reduceNe, Int.reduceToNat, Int.toNat_natCast, Nat.zero_add, Nat.add_zero, Nat.mul_one, Nat.one_mul, Bool.not_true, Bool.not_false, ne_eq, not_true_eq_false, not_false_eq_true, Bool.false_eq_true, q, m1, m2, t, number_c, tn, list_c, tl, cd off4]
      refine wnums_c w4 q1 o7 hb fun h5 w5 f5 => ?_
      simp only [go_sem, reduceIte, Nat.reduceAdd, Nat.reduceSub, Nat.reduceMul, Nat.reducePow, Nat.reduceLT, Nat.reduceLeDiff, Nat.reduceEqDiff, Int.reduceAdd, Int.reduceSub, Int.reduceMul, Int.reduceNeg, Int.reducePow, Int.reduceLT, Int.reduceLE, Int.reduceEq, Int.reduceNe, Int.reduceToNat, Int.toNat_natCast, Nat.zero_add, Nat.add_zero, Nat.mul_one, Nat.one_mul, Bool.not_true, Bool.not_false, ne_eq, not_true_eq_false, not_false_eq_true, Bool.false_eq_true, en]
      exact done h5 w5 f5
    have n5 : ¬ ((c.toNat : Nat) : Int) = 76 := fn 76 c5
    by_cases c6 : c = 77
    · subst c6
      have t : ((UInt8.toNat 77 : Nat) : Int) = 77 := rfl
      have tn : numAt 77 = none := rfl
      have tl : listAt 77 = 7 := rfl
      have e : fldB x 77 = numsB x.m := rfl
      rw [e] at hb done
      simp only [joinA, go_sem, reduceIte, Nat.reduceAdd, Nat.reduceSub, Nat.reduceMul, Nat.reducePow, Nat.reduceLT, Nat.reduceLeDiff, Nat.reduceEqDiff, Int.reduceAdd, Int.reduceSub, Int.reduceMul, Int.reduceNeg, Int.reducePow, Int.reduceLT, Int.reduceLE, Int.reduceEq, Int.reduceNe, Int.reduceToNat, Int.toNat_natCast, Nat.zero_add, Nat.add_zero, Nat.mul_one, Nat.one_mul, Bool.not_true, Bool.not_false, ne_eq, not_true_eq_false, not_false_eq_true, Bool.false_eq_true, q, m1, m2, t, number_c, tn, list_c, tl, cd off4]
      refine wnums_c w4 q2 o8 hb fun h5 w5 f5 => ?_
      simp only [go_sem, reduceIte, Nat.reduceAdd, Nat.reduceSub, Nat.reduceMul, Nat.reducePow, Nat.reduceLT, Nat.reduceLeDiff, Nat.reduceEqDiff, Int.reduceAdd, Int.reduceSub, Int.reduceMul, Int.reduceNeg, Int.reducePow, Int.reduceLT, Int.reduceLE, Int.reduceEq, Int.reduceNe, Int.reduceToNat, Int.toNat_natCast, Nat.zero_add, Nat.add_zero, Nat.mul_one, Nat.one_mul, Bool.not_true, Bool.not_false, ne_eq, not_true_eq_false, not_false_eq_true, Bool.false_eq_true, en]
      exact done h5 w5 f5
    have n6 : ¬ ((c.toNat : Nat) : Int) = 77 := fn 77 c6
    have tn : numAt ((c.toNat : Nat) : Int) = none := by unfold numAt; rw [if_neg n1, if_neg n2, if_neg n3, if_neg n4]
    have tl : listAt ((c.toNat : Nat) : Int) = 8 := by unfold listAt; rw [if_neg n5, if_neg n6]
    have e : fldB x c = numsB x.live := by unfold fldB; rw [if_neg c0, if_neg c1, if_neg c2, if_neg c3, if_neg c4, if_neg c5, if_neg c6]
    rw [e] at hb done
    simp only [joinA, go_sem, reduceIte, Nat.reduceAdd, Nat.reduceSub, Nat.reduceMul, Nat.reducePow, Nat.reduceLT, Nat.reduceLeDiff, Nat.reduceEqDiff, Int.reduceAdd, Int.reduceSub, Int.reduceMul, Int.reduceNeg, Int.reducePow, Int.reduceLT, Int.reduceLE, Int.reduceEq, Int.reduceNe, Int.reduceToNat, Int.toNat_natCast, Nat.zero_add, Nat.add_zero, Nat.mul_one, Nat.one_mul, Bool.not_true, Bool.not_false, ne_eq, not_true_eq_false, not_false_eq_true, Bool.false_eq_true, q, m1, m2, n0, number_c, tn, list_c, tl, cd off4]
    refine wnums_c w4 q3 o9 hb fun h5 w5 f5 => ?_
    simp only [go_sem, reduceIte, Nat.reduceAdd, Nat.reduceSub, Nat.reduceMul, Nat.reducePow, Nat.reduceLT, Nat.reduceLeDiff, Nat.reduceEqDiff, Int.reduceAdd, Int.reduceSub, Int.reduceMul, Int.reduceNeg, Int.reducePow, Int.reduceLT, Int.reduceLE, Int.reduceEq, Int.reduceNe, Int.reduceToNat, Int.toNat_natCast, Nat.zero_add, Nat.add_zero, Nat.mul_one, Nat.one_mul, Bool.not_true, Bool.not_false, ne_eq, not_true_eq_false, not_false_eq_true, Bool.false_eq_true, en]
    exact done h5 w5 f5
  · have : u.take i = u := List.take_of_length_le (by omega)
    rw [this] at w4
    simp only [go_sem, reduceIte, Nat.reduceAdd, Nat.reduceSub, Nat.reduceMul, Nat.reducePow, Nat.reduceLT, Nat.reduceLeDiff, Nat.reduceEqDiff, Int.reduceAdd, Int.reduceSub, Int.reduceMul, Int.reduceNeg, Int.reducePow, Int.reduceLT, Int.reduceLE, Int.reduceEq, Int.reduceNe, Int.reduceToNat, Int.toNat_natCast, Nat.zero_add, Nat.add_zero, Nat.mul_one, Nat.one_mul, Bool.not_true, Bool.not_false, ne_eq, not_true_eq_false, not_false_eq_true, Bool.false_eq_true, q]
    exact hK h4 w4 f4
theorem wblock_c {b : Blk} {c : List AV} (r : blkR h0 b c) (ok : b.ok) : Each h0 wb 143 (.agg c) (blkB b) := by
  intro h L w hm K hK
  refine run143 ?_
  have hl := r.leaves
  obtain ⟨vi, vc, rfl, q1, q2⟩ := r
  have ec : ∀ cs : List AV, (AV.agg cs).cells = cs := fun _ => rfl
  unfold sh143
  rw [ec]
  refine box_r hl fun d hd => ?_
  have off := w.off hd (.live [vi, vc] 42 true)
  have fd : Fr [] h (h.set d (.live [vi, vc] 42 true)) := (Fr.refl _ _).set' hd
  have w1 := w.keep fd
  have fw := w.frw fd
  generalize h.set d (.live [vi, vc] 42 true) = h1 at *
  unfold blkB at hm hK
  have cd : ∀ {h2}, Off wb h2 d (.live [vi, vc] 42 true) → ∀ o, h2.cell d o = [vi, vc][o]? := fun q o => cell_of q.2.1 o
  simp only [go_sem, reduceIte, Nat.reduceAdd, Nat.reduceSub, Nat.reduceMul, Nat.reducePow, Nat.reduceLT, Nat.reduceLeDiff, Nat.reduceEqDiff, Int.reduceAdd, Int.reduceSub, Int.reduceMul, Int.reduceNeg, Int.reducePow, Int.reduceLT, Int.reduceLE, Int.reduceEq, Int.reduceNe, Int.reduceToNat, Int.toNat_natCast, Nat.zero_add, Nat.add_zero, Nat.mul_one, Nat.one_mul, Bool.not_true, Bool.not_false, ne_eq, not_true_eq_false, not_false_eq_true, Bool.false_eq_true, cd off]
  refine wnums_c w1 q1 ok.1 (app_le hm) fun h2 w2 f2 => ?_
  have off2 := f2.off off
  rw [← List.append_assoc] at hm
  simp only [go_sem, reduceIte, Nat.reduceAdd, Nat.reduceSub, Nat.reduceMul, Nat.reducePow, Nat.reduceLT, Nat.reduceLeDiff, Nat.reduceEqDiff, Int.reduceAdd, Int.reduceSub, Int.reduceMul, Int.reduceNeg, Int.reducePow, Int.reduceLT, Int.reduceLE, Int.reduceEq, Int.reduceNe, Int.reduceToNat, Int.toNat_natCast, Nat.zero_add, Nat.add_zero, Nat.mul_one, Nat.one_mul, Bool.not_true, Bool.not_false, ne_eq, not_true_eq_false, not_false_eq_true, Bool.false_eq_true, cd off2]
  refine manyIns_c w2 q2 (fun x c r => insR.leaves r) ok.2.1 hm (fun x hx c r => winstr_c r (ok.2.2 x hx)) fun h3 w3 f3 => ?_
  try simp only [go_sem, reduceIte, Nat.reduceAdd, Nat.reduceSub, Nat.reduceMul, Nat.reducePow, Nat.reduceLT, Nat.reduceLeDiff, Nat.reduceEqDiff, Int.reduceAdd, Int.reduceSub, Int.reduceMul, Int.reduceNeg, Int.reducePow, Int.reduceLT, Int.reduceLE, Int.reduceEq, Int.reduceNe, Int.reduceToNat, Int.toNat_natCast, Nat.zero_add, Nat.add_zero, Nat.mul_one, Nat.one_mul, Bool.not_true, Bool.not_false, ne_eq, not_true_eq_false, not_false_eq_true, Bool.false_eq_true]
  rw [List.append_assoc] at w3
  exact hK h3 w3 ((fw.trans f2).trans f3)
theorem wfunction_c {f : Fn} {c : List AV} (r : fnR h0 f c) (ok : f.ok) : Each h0 wb 107 (.agg c) (fnB f) := by
  intro h L w hm K hK
  refine run107 ?_
  have hl := r.leaves
  obtain ⟨vp, vb, rfl, q1, q2⟩ := r
  obtain ⟨o1, o2, o3, o4, o5⟩ := ok
  have ec : ∀ cs : List AV, (AV.agg cs).cells = cs := fun _ => rfl
  unfold sh107
  rw [ec]
  refine box_r hl fun d hd => ?_
  have off := w.off hd (.live [vp, .int .i64 f.result, .int .i64 f.slots, vb] 39 true)
  have fd : Fr [] h (h.set d (.live [vp, .int .i64 f.result, .int .i64 f.slots, vb] 39 true)) := (Fr.refl _ _).set' hd
  have w1 := w.keep fd
  have fw := w.frw fd
  generalize h.set d (.live [vp, .int .i64 f.result, .int .i64 f.slots, vb] 39 true) = h1 at *
  unfold fnB at hm hK
  have cd : ∀ {h2}, Off wb h2 d (.live [vp, .int .i64 f.result, .int .i64 f.slots, vb] 39 true) → ∀ o, h2.cell d o = [vp, AV.int .i64 f.result, .int .i64 f.slots, vb][o]? := fun q o => cell_of q.2.1 o
  simp only [List.append_assoc] at hm
  simp only [go_sem, reduceIte, Nat.reduceAdd, Nat.reduceSub, Nat.reduceMul, Nat.reducePow, Nat.reduceLT, Nat.reduceLeDiff, Nat.reduceEqDiff, Int.reduceAdd, Int.reduceSub, Int.reduceMul, Int.reduceNeg, Int.reducePow, Int.reduceLT, Int.reduceLE, Int.reduceEq, Int.reduceNe, Int.reduceToNat, Int.toNat_natCast, Nat.zero_add, Nat.add_zero, Nat.mul_one, Nat.one_mul, Bool.not_true, Bool.not_false, ne_eq, not_true_eq_false, not_false_eq_true, Bool.false_eq_true, cd off]
  refine wnums_c w1 q1 o1 (app_le hm) fun h2 w2 f2 => ?_
  have off2 := f2.off off
  rw [← List.append_assoc] at hm
  simp only [go_sem, reduceIte, Nat.reduceAdd, Nat.reduceSub, Nat.reduceMul, Nat.reducePow, Nat.reduceLT, Nat.reduceLeDiff, Nat.reduceEqDiff, Int.reduceAdd, Int.reduceSub, Int.reduceMul, Int.reduceNeg, Int.reducePow, Int.reduceLT, Int.reduceLE, Int.reduceEq, Int.reduceNe, Int.reduceToNat, Int.toNat_natCast, Nat.zero_add, Nat.add_zero, Nat.mul_one, Nat.one_mul, Bool.not_true, Bool.not_false, ne_eq, not_true_eq_false, not_false_eq_true, Bool.false_eq_true, cd off2]
  refine wnum_c w2 o2 (app_le hm) fun h3 w3 f3 => ?_
  have off3 := f3.off off2
  rw [← List.append_assoc] at hm
  simp only [go_sem, reduceIte, Nat.reduceAdd, Nat.reduceSub, Nat.reduceMul, Nat.reducePow, Nat.reduceLT, Nat.reduceLeDiff, Nat.reduceEqDiff, Int.reduceAdd, Int.reduceSub, Int.reduceMul, Int.reduceNeg, Int.reducePow, Int.reduceLT, Int.reduceLE, Int.reduceEq, Int.reduceNe, Int.reduceToNat, Int.toNat_natCast, Nat.zero_add, Nat.add_zero, Nat.mul_one, Nat.one_mul, Bool.not_true, Bool.not_false, ne_eq, not_true_eq_false, not_false_eq_true, Bool.false_eq_true, cd off3]
  refine wnum_c w3 o3 (app_le hm) fun h4 w4 f4 => ?_
  have off4 := f4.off off3
  rw [← List.append_assoc] at hm
  simp only [go_sem, reduceIte, Nat.reduceAdd, Nat.reduceSub, Nat.reduceMul, Nat.reducePow, Nat.reduceLT, Nat.reduceLeDiff, Nat.reduceEqDiff, Int.reduceAdd, Int.reduceSub, Int.reduceMul, Int.reduceNeg, Int.reducePow, Int.reduceLT, Int.reduceLE, Int.reduceEq, Int.reduceNe, Int.reduceToNat, Int.toNat_natCast, Nat.zero_add, Nat.add_zero, Nat.mul_one, Nat.one_mul, Bool.not_true, Bool.not_false, ne_eq, not_true_eq_false, not_false_eq_true, Bool.false_eq_true, cd off4]
  refine manyBlk_c w4 q2 (fun x c r => blkR.leaves r) o4 hm (fun x hx c r => wblock_c r (o5 x hx)) fun h5 w5 f5 => ?_
  try simp only [go_sem, reduceIte, Nat.reduceAdd, Nat.reduceSub, Nat.reduceMul, Nat.reducePow, Nat.reduceLT, Nat.reduceLeDiff, Nat.reduceEqDiff, Int.reduceAdd, Int.reduceSub, Int.reduceMul, Int.reduceNeg, Int.reducePow, Int.reduceLT, Int.reduceLE, Int.reduceEq, Int.reduceNe, Int.reduceToNat, Int.toNat_natCast, Nat.zero_add, Nat.add_zero, Nat.mul_one, Nat.one_mul, Bool.not_true, Bool.not_false, ne_eq, not_true_eq_false, not_false_eq_true, Bool.false_eq_true]
  simp only [List.append_assoc] at w5 hK
  exact hK h5 w5 ((((fw.trans f2).trans f3).trans f4).trans f5)
end
end Go.Proofs.YtdljelicbnjfjaaGreat.X
set_option linter.unusedVariables false
set_option linter.unusedSimpArgs false
set_option maxRecDepth 20000
namespace Go.Proofs.YtdljelicbnjfjaaGreat.X
open Go Go.RowKit
def lensOk (vks : List (AV × Nat)) : Prop := ∀ q ∈ vks, q.1.leaf = true ∧ lenA false q.1 = some (.int .i64 q.2)
def overN (most : Int) (vks : List (AV × Nat)) : Bool := vks.any fun q => decide (most < (q.2 : Int))
section
variable {h : H}
theorem idx103_c {lv : AV} {α : Type} {l : List α} {val : α → AV} (r : Row h lv l.length 1 (l.map val)) (hl : l.length ≤ reachBytes) {E : Nat} {caps : List AV} {P : α → Bool} (hE : ∀ x ∈ l, ∀ K : AV → H → Prop, C E ([val x] ++ caps) h K = K (.bool (P x)) h) {K : AV → H → Prop}
    (hK : ∀ n : Int, (0 ≤ n ↔ l.any P = true) → K (.int .i64 n) h) : C 213 [lv, .fn E [] caps] h K := by
  refine run213 ?_
  have hr : reachBytes ≤ 4611686018427387903 := by decide
  simp only [sh213, go_sem, reduceIte, Nat.reduceAdd, Nat.reduceSub, Nat.reduceMul, Nat.reducePow, Nat.reduceLT, Nat.reduceLeDiff, Nat.reduceEqDiff, Int.reduceAdd, Int.reduceSub, Int.reduceMul, Int.reduceNeg, Int.reducePow, Int.reduceLT, Int.reduceLE, Int.reduceEq, Int.reduceNe, Int.reduceToNat, Int.toNat_natCast, Nat.zero_add, Nat.add_zero, Nat.mul_one, Nat.one_mul, Bool.not_true, Bool.not_false, ne_eq, not_true_eq_false, not_false_eq_true, Bool.false_eq_true, r.len]
  refine join_r (fun (J : H → Prop) => l.any P = false → J h) (fun e => hK _ (by rw [e]; simp)) fun J hJ => ?_
  refine loop_r (l.length + 1) (fun k ls h2 => ∃ i : Nat, ls = [.int .i64 i] ∧ i ≤ l.length ∧ l.any P = (l.drop i).any P ∧ h2 = h ∧ k = l.length + 1 - i) ⟨0, rfl, by omega, rfl, rfl, rfl⟩ ?_
  rintro k ls h2 ⟨i, rfl, hi, ha, he, rfl⟩
  rw [he]
  by_cases q : (i : Int) < l.length
  · have hi' : i < l.length := by omega
    obtain ⟨x, hx⟩ : ∃ x, l[i]? = some x := ⟨l[i], by simp [hi']⟩
    have hd : l.drop i = x :: l.drop (i + 1) := by
      rw [List.drop_eq_getElem_cons hi']; congr 1
      rw [List.getElem?_eq_getElem hi'] at hx; injection hx
    rw [hd, List.any_cons] at ha
    obtain ⟨b, o, m1, m2⟩ := r.at (i := i) (x := val x) (by omega) q (by rw [Int.toNat_natCast, List.getElem?_map, hx]; rfl)
    have en : IntKind.i64.wrap ((i : Int) + 1) = ((i + 1 : Nat) : Int) := by rw [i64_id (by omega) (by omega)]; rfl
    have hc := hE x (List.mem_of_getElem? hx)
    simp only [List.cons_append, List.nil_append] at hc
    cases hp : P x with
    | true =>
      rw [hp, Bool.true_or] at ha
      simp only [go_sem, reduceIte, Nat.reduceAdd, Nat.reduceSub, Nat.reduceMul, Nat.reducePow, Nat.reduceLT, Nat.reduceLeDiff, Nat.reduceEqDiff, Int.reduceAdd, Int.reduceSub, Int.reduceMul, Int.reduceNeg, Int.reducePow, Int.reduceLT, Int.reduceLE, Int.reduceEq, Int.reduceNe, Int.reduceToNat, Int.toNat_natCast, Nat.zero_add, Nat.add_zero, Nat.mul_one, Nat.one_mul, Bool.not_true, Bool.not_false, ne_eq, not_true_eq_false, not_false_eq_true, Bool.false_eq_true, q, m1, m2, List.cons_append, List.nil_append, hc, hp]
      exact hK i (by rw [ha]; simp)
    | false =>
      rw [hp, Bool.false_or] at ha
      simp only [go_sem, reduceIte, Nat.reduceAdd, Nat.reduceSub, Nat.reduceMul, Nat.reducePow, Nat.reduceLT, Nat.reduceLeDiff, Nat.reduceEqDiff, Int.reduceAdd, Int.reduceSub, Int.reduceMul, Int.reduceNeg, Int.reducePow, Int.reduceLT, Int.reduceLE, Int.reduceEq, Int.reduceNe, Int.reduceToNat, Int.toNat_natCast, Nat.zero_add, Nat.add_zero, Nat.mul_one, Nat.one_mul, Bool.not_true, Bool.not_false, ne_eq, not_true_eq_false, not_false_eq_true, Bool.false_eq_true, q, m1, m2, List.cons_append, List.nil_append, hc, hp, en]
      exact ⟨l.length + 1 - (i + 1), by omega, i + 1, rfl, by omega, ha, rfl⟩
  · have : l.drop i = [] := List.drop_eq_nil_of_le (by omega)
    rw [this] at ha
    simp only [go_sem, reduceIte, Nat.reduceAdd, Nat.reduceSub, Nat.reduceMul, Nat.reducePow, Nat.reduceLT, Nat.reduceLeDiff, Nat.reduceEqDiff, Int.reduceAdd, Int.reduceSub, Int.reduceMul, Int.reduceNeg, Int.reducePow, Int.reduceLT, Int.reduceLE, Int.reduceEq, Int.reduceNe, Int.reduceToNat, Int.toNat_natCast, Nat.zero_add, Nat.add_zero, Nat.mul_one, Nat.one_mul, Bool.not_true, Bool.not_false, ne_eq, not_true_eq_false, not_false_eq_true, Bool.false_eq_true, q]
    exact hJ ha
theorem contains85_c {lv : AV} {α : Type} {l : List α} {val : α → AV} (r : Row h lv l.length 1 (l.map val)) (hl : l.length ≤ reachBytes) {E : Nat} {caps : List AV} {P : α → Bool} (hE : ∀ x ∈ l, ∀ K : AV → H → Prop, C E ([val x] ++ caps) h K = K (.bool (P x)) h) {K : AV → H → Prop}
    (hK : K (.bool (l.any P)) h) : C 184 [lv, .fn E [] caps] h K := by
  refine run184 ?_
  unfold sh184
  refine idx103_c r hl hE fun n hn => ?_
  cases ha : l.any P with
  | true =>
    rw [ha] at hK
    have : 0 ≤ n := hn.2 ha
    simp only [go_sem, reduceIte, Nat.reduceAdd, Nat.reduceSub, Nat.reduceMul, Nat.reducePow, Nat.reduceLT, Nat.reduceLeDiff, Nat.reduceEqDiff, Int.reduceAdd, Int.reduceSub, Int.reduceMul, Int.reduceNeg, Int.reducePow, Int.reduceLT, Int.reduceLE, Int.reduceEq, Int.reduceNe, Int.reduceToNat, Int.toNat_natCast, Nat.zero_add, Nat.add_zero, Nat.mul_one, Nat.one_mul, Bool.not_true, Bool.not_false, ne_eq, not_true_eq_false, not_false_eq_true, Bool.false_eq_true, this]; exact hK
  | false =>
    rw [ha] at hK
    have : ¬ 0 ≤ n := fun q => by rw [hn.1 q] at ha; cases ha
    simp only [go_sem, reduceIte, Nat.reduceAdd, Nat.reduceSub, Nat.reduceMul, Nat.reducePow, Nat.reduceLT, Nat.reduceLeDiff, Nat.reduceEqDiff, Int.reduceAdd, Int.reduceSub, Int.reduceMul, Int.reduceNeg, Int.reducePow, Int.reduceLT, Int.reduceLE, Int.reduceEq, Int.reduceNe, Int.reduceToNat, Int.toNat_natCast, Nat.zero_add, Nat.add_zero, Nat.mul_one, Nat.one_mul, Bool.not_true, Bool.not_false, ne_eq, not_true_eq_false, not_false_eq_true, Bool.false_eq_true, this]; exact hK
theorem over64_c {lv : AV} {vks : List (AV × Nat)} (r : Row h lv vks.length 1 (vks.map Prod.fst)) (ok : lensOk vks) (hl : vks.length ≤ reachBytes) (most : Int) {K : AV → H → Prop} (hK : ∀ h', Fr [] h h' → K (.bool (overN most vks)) h') : C 132 [.int .i64 most, lv] h K := by
  refine run132 ?_
  unfold sh132
  refine box_r rfl fun b hb => ?_
  have f : Fr [] h (h.set b (.live (AV.int .i64 most).cells 3 true)) := (Fr.refl _ _).set' hb
  have cb : (h.set b (.live (AV.int .i64 most).cells 3 true)).cell b 0 = some (.int .i64 most) := cell_set
  generalize h.set b (.live (AV.int .i64 most).cells 3 true) = h1 at *
  refine contains85_c (r.fr f) hl (P := fun q => decide (most < (q.2 : Int))) (fun q hq K => ?_) (hK h1 f)
  refine callA_eq (run185 ?_) K
  simp only [sh185, go_sem, reduceIte, Nat.reduceAdd, Nat.reduceSub, Nat.reduceMul, Nat.reducePow, Nat.reduceLT, Nat.reduceLeDiff, Nat.reduceEqDiff, Int.reduceAdd, Int.reduceSub, Int.reduceMul, Int.reduceNeg, Int.reducePow, Int.reduceLT, Int.reduceLE, Int.reduceEq, Int.reduceNe, Int.reduceToNat, Int.toNat_natCast, Nat.zero_add, Nat.add_zero, Nat.mul_one, Nat.one_mul, Bool.not_true, Bool.not_false, ne_eq, not_true_eq_false, not_false_eq_true, Bool.false_eq_true, (ok q hq).2, cb]
theorem idx104_c {lv : AV} {α : Type} {l : List α} {val : α → AV} (r : Row h lv l.length 1 (l.map val)) (hl : l.length ≤ reachBytes) {E : Nat} {caps : List AV} {P : α → Bool} (hE : ∀ x ∈ l, ∀ K : AV → H → Prop, C E ([val x] ++ caps) h K = K (.bool (P x)) h) {K : AV → H → Prop}
    (hK : ∀ n : Int, (0 ≤ n ↔ l.any P = true) → K (.int .i64 n) h) : C 214 [lv, .fn E [] caps] h K := by
  refine run214 ?_
  have hr : reachBytes ≤ 4611686018427387903 := by decide
  simp only [sh214, go_sem, reduceIte, Nat.reduceAdd, Nat.reduceSub, Nat.reduceMul, Nat.reducePow, Nat.reduceLT, Nat.reduceLeDiff, Nat.reduceEqDiff, Int.reduceAdd, Int.reduceSub, Int.reduceMul, Int.reduceNeg, Int.reducePow, Int.reduceLT, Int.reduceLE, Int.reduceEq, Int.reduceNe, Int.reduceToNat, Int.toNat_natCast, Nat.zero_add, Nat.add_zero, Nat.mul_one, Nat.one_mul, Bool.not_true, Bool.not_false, ne_eq, not_true_eq_false, not_false_eq_true, Bool.false_eq_true, r.len]
  refine join_r (fun (J : H → Prop) => l.any P = false → J h) (fun e => hK _ (by rw [e]; simp)) fun J hJ => ?_
  refine loop_r (l.length + 1) (fun k ls h2 => ∃ i : Nat, ls = [.int .i64 i] ∧ i ≤ l.length ∧ l.any P = (l.drop i).any P ∧ h2 = h ∧ k = l.length + 1 - i) ⟨0, rfl, by omega, rfl, rfl, rfl⟩ ?_
  rintro k ls h2 ⟨i, rfl, hi, ha, he, rfl⟩
  rw [he]
  by_cases q : (i : Int) < l.length
  · have hi' : i < l.length := by omega
    obtain ⟨x, hx⟩ : ∃ x, l[i]? = some x := ⟨l[i], by simp [hi']⟩
    have hd : l.drop i = x :: l.drop (i + 1) := by
      rw [List.drop_eq_getElem_cons hi']; congr 1
      rw [List.getElem?_eq_getElem hi'] at hx; injection hx
    rw [hd, List.any_cons] at ha
    obtain ⟨b, o, m1, m2⟩ := r.at (i := i) (x := val x) (by omega) q (by rw [Int.toNat_natCast, List.getElem?_map, hx]; rfl)
    have en : IntKind.i64.wrap ((i : Int) + 1) = ((i + 1 : Nat) : Int) := by rw [i64_id (by omega) (by omega)]; rfl
    have hc := hE x (List.mem_of_getElem? hx)
    simp only [List.cons_append, List.nil_append] at hc
    cases hp : P x with
    | true =>
      rw [hp, Bool.true_or] at ha
      simp only [go_sem, reduceIte, Nat.reduceAdd, Nat.reduceSub, Nat.reduceMul, Nat.reducePow, Nat.reduceLT, Nat.reduceLeDiff, Nat.reduceEqDiff, Int.reduceAdd, Int.reduceSub, Int.reduceMul, Int.reduceNeg, Int.reducePow, Int.reduceLT, Int.reduceLE, Int.reduceEq, Int.reduceNe, Int.reduceToNat, Int.toNat_natCast, Nat.zero_add, Nat.add_zero, Nat.mul_one, Nat.one_mul, Bool.not_true, Bool.not_false, ne_eq, not_true_eq_false, not_false_eq_true, Bool.false_eq_true, q, m1, m2, List.cons_append, List.nil_append, hc, hp]
      exact hK i (by rw [ha]; simp)
    | false =>
      rw [hp, Bool.false_or] at ha
      simp only [go_sem, reduceIte, Nat.reduceAdd, Nat.reduceSub, Nat.reduceMul, Nat.reducePow, Nat.reduceLT, Nat.reduceLeDiff, Nat.reduceEqDiff, Int.reduceAdd, Int.reduceSub, Int.reduceMul, Int.reduceNeg, Int.reducePow, Int.reduceLT, Int.reduceLE, Int.reduceEq, Int.reduceNe, Int.reduceToNat, Int.toNat_natCast, Nat.zero_add, Nat.add_zero, Nat.mul_one, Nat.one_mul, Bool.not_true, Bool.not_false, ne_eq, not_true_eq_false, not_false_eq_true, Bool.false_eq_true, q, m1, m2, List.cons_append, List.nil_append, hc, hp, en]
      exact ⟨l.length + 1 - (i + 1), by omega, i + 1, rfl, by omega, ha, rfl⟩
  · have : l.drop i = [] := List.drop_eq_nil_of_le (by omega)
    rw [this] at ha
    simp only [go_sem, reduceIte, Nat.reduceAdd, Nat.reduceSub, Nat.reduceMul, Nat.reducePow, Nat.reduceLT, Nat.reduceLeDiff, Nat.reduceEqDiff, Int.reduceAdd, Int.reduceSub, Int.reduceMul, Int.reduceNeg, Int.reducePow, Int.reduceLT, Int.reduceLE, Int.reduceEq, Int.reduceNe, Int.reduceToNat, Int.toNat_natCast, Nat.zero_add, Nat.add_zero, Nat.mul_one, Nat.one_mul, Bool.not_true, Bool.not_false, ne_eq, not_true_eq_false, not_false_eq_true, Bool.false_eq_true, q]
    exact hJ ha
theorem contains87_c {lv : AV} {α : Type} {l : List α} {val : α → AV} (r : Row h lv l.length 1 (l.map val)) (hl : l.length ≤ reachBytes) {E : Nat} {caps : List AV} {P : α → Bool} (hE : ∀ x ∈ l, ∀ K : AV → H → Prop, C E ([val x] ++ caps) h K = K (.bool (P x)) h) {K : AV → H → Prop}
    (hK : K (.bool (l.any P)) h) : C 186 [lv, .fn E [] caps] h K := by
  refine run186 ?_
  unfold sh186
  refine idx104_c r hl hE fun n hn => ?_
  cases ha : l.any P with
  | true =>
    rw [ha] at hK
    have : 0 ≤ n := hn.2 ha
    simp only [go_sem, reduceIte, Nat.reduceAdd, Nat.reduceSub, Nat.reduceMul, Nat.reducePow, Nat.reduceLT, Nat.reduceLeDiff, Nat.reduceEqDiff, Int.reduceAdd, Int.reduceSub, Int.reduceMul, Int.reduceNeg, Int.reducePow, Int.reduceLT, Int.reduceLE, Int.reduceEq, Int.reduceNe, Int.reduceToNat, Int.toNat_natCast, Nat.zero_add, Nat.add_zero, Nat.mul_one, Nat.one_mul, Bool.not_true, Bool.not_false, ne_eq, not_true_eq_false, not_false_eq_true, Bool.false_eq_true, this]; exact hK
  | false =>
    rw [ha] at hK
    have : ¬ 0 ≤ n := fun q => by rw [hn.1 q] at ha; cases ha
    simp only [go_sem, reduceIte, Nat.reduceAdd, Nat.reduceSub, Nat.reduceMul, Nat.reducePow, Nat.reduceLT, Nat.reduceLeDiff, Nat.reduceEqDiff, Int.reduceAdd, Int.reduceSub, Int.reduceMul, Int.reduceNeg, Int.reducePow, Int.reduceLT, Int.reduceLE, Int.reduceEq, Int.reduceNe, Int.reduceToNat, Int.toNat_natCast, Nat.zero_add, Nat.add_zero, Nat.mul_one, Nat.one_mul, Bool.not_true, Bool.not_false, ne_eq, not_true_eq_false, not_false_eq_true, Bool.false_eq_true, this]; exact hK
theorem over65_c {lv : AV} {vks : List (AV × Nat)} (r : Row h lv vks.length 1 (vks.map Prod.fst)) (ok : lensOk vks) (hl : vks.length ≤ reachBytes) (most : Int) {K : AV → H → Prop} (hK : ∀ h', Fr [] h h' → K (.bool (overN most vks)) h') : C 133 [.int .i64 most, lv] h K := by
  refine run133 ?_
  unfold sh133
  refine box_r rfl fun b hb => ?_
  have f : Fr [] h (h.set b (.live (AV.int .i64 most).cells 3 true)) := (Fr.refl _ _).set' hb
  have cb : (h.set b (.live (AV.int .i64 most).cells 3 true)).cell b 0 = some (.int .i64 most) := cell_set
  generalize h.set b (.live (AV.int .i64 most).cells 3 true) = h1 at *
  refine contains87_c (r.fr f) hl (P := fun q => decide (most < (q.2 : Int))) (fun q hq K => ?_) (hK h1 f)
  refine callA_eq (run187 ?_) K
  simp only [sh187, go_sem, reduceIte, Nat.reduceAdd, Nat.reduceSub, Nat.reduceMul, Nat.reducePow, Nat.reduceLT, Nat.reduceLeDiff, Nat.reduceEqDiff, Int.reduceAdd, Int.reduceSub, Int.reduceMul, Int.reduceNeg, Int.reducePow, Int.reduceLT, Int.reduceLE, Int.reduceEq, Int.reduceNe, Int.reduceToNat, Int.toNat_natCast, Nat.zero_add, Nat.add_zero, Nat.mul_one, Nat.one_mul, Bool.not_true, Bool.not_false, ne_eq, not_true_eq_false, not_false_eq_true, Bool.false_eq_true, (ok q hq).2, cb]
theorem idx105_c {lv : AV} {α : Type} {l : List α} {val : α → AV} (r : Row h lv l.length 1 (l.map val)) (hl : l.length ≤ reachBytes) {E : Nat} {caps : List AV} {P : α → Bool} (hE : ∀ x ∈ l, ∀ K : AV → H → Prop, C E ([val x] ++ caps) h K = K (.bool (P x)) h) {K : AV → H → Prop}
    (hK : ∀ n : Int, (0 ≤ n ↔ l.any P = true) → K (.int .i64 n) h) : C 215 [lv, .fn E [] caps] h K := by
  refine run215 ?_
  have hr : reachBytes ≤ 4611686018427387903 := by decide
  simp only [sh215, go_sem, reduceIte, Nat.reduceAdd, Nat.reduceSub, Nat.reduceMul, Nat.reducePow, Nat.reduceLT, Nat.reduceLeDiff, Nat.reduceEqDiff, Int.reduceAdd, Int.reduceSub, Int.reduceMul, Int.reduceNeg, Int.reducePow, Int.reduceLT, Int.reduceLE, Int.reduceEq, Int.reduceNe, Int.reduceToNat, Int.toNat_natCast, Nat.zero_add, Nat.add_zero, Nat.mul_one, Nat.one_mul, Bool.not_true, Bool.not_false, ne_eq, not_true_eq_false, not_false_eq_true, Bool.false_eq_true, r.len]
  refine join_r (fun (J : H → Prop) => l.any P = false → J h) (fun e => hK _ (by rw [e]; simp)) fun J hJ => ?_
  refine loop_r (l.length + 1) (fun k ls h2 => ∃ i : Nat, ls = [.int .i64 i] ∧ i ≤ l.length ∧ l.any P = (l.drop i).any P ∧ h2 = h ∧ k = l.length + 1 - i) ⟨0, rfl, by omega, rfl, rfl, rfl⟩ ?_
  rintro k ls h2 ⟨i, rfl, hi, ha, he, rfl⟩
  rw [he]
  by_cases q : (i : Int) < l.length
  · have hi' : i < l.length := by omega
    obtain ⟨x, hx⟩ : ∃ x, l[i]? = some x := ⟨l[i], by simp [hi']⟩
    have hd : l.drop i = x :: l.drop (i + 1) := by
      rw [List.drop_eq_getElem_cons hi']; congr 1
      rw [List.getElem?_eq_getElem hi'] at hx; injection hx
    rw [hd, List.any_cons] at ha
    obtain ⟨b, o, m1, m2⟩ := r.at (i := i) (x := val x) (by omega) q (by rw [Int.toNat_natCast, List.getElem?_map, hx]; rfl)
    have en : IntKind.i64.wrap ((i : Int) + 1) = ((i + 1 : Nat) : Int) := by rw [i64_id (by omega) (by omega)]; rfl
    have hc := hE x (List.mem_of_getElem? hx)
    simp only [List.cons_append, List.nil_append] at hc
    cases hp : P x with
    | true =>
      rw [hp, Bool.true_or] at ha
      simp only [go_sem, reduceIte, Nat.reduceAdd, Nat.reduceSub, Nat.reduceMul, Nat.reducePow, Nat.reduceLT, Nat.reduceLeDiff, Nat.reduceEqDiff, Int.reduceAdd, Int.reduceSub, Int.reduceMul, Int.reduceNeg, Int.reducePow, Int.reduceLT, Int.reduceLE, Int.reduceEq, Int.reduceNe, Int.reduceToNat, Int.toNat_natCast, Nat.zero_add, Nat.add_zero, Nat.mul_one, Nat.one_mul, Bool.not_true, Bool.not_false, ne_eq, not_true_eq_false, not_false_eq_true, Bool.false_eq_true, q, m1, m2, List.cons_append, List.nil_append, hc, hp]
      exact hK i (by rw [ha]; simp)
    | false =>
      rw [hp, Bool.false_or] at ha
      simp only [go_sem, reduceIte, Nat.reduceAdd, Nat.reduceSub, Nat.reduceMul, Nat.reducePow, Nat.reduceLT, Nat.reduceLeDiff, Nat.reduceEqDiff, Int.reduceAdd, Int.reduceSub, Int.reduceMul, Int.reduceNeg, Int.reducePow, Int.reduceLT, Int.reduceLE, Int.reduceEq, Int.reduceNe, Int.reduceToNat, Int.toNat_natCast, Nat.zero_add, Nat.add_zero, Nat.mul_one, Nat.one_mul, Bool.not_true, Bool.not_false, ne_eq, not_true_eq_false, not_false_eq_true, Bool.false_eq_true, q, m1, m2, List.cons_append, List.nil_append, hc, hp, en]
      exact ⟨l.length + 1 - (i + 1), by omega, i + 1, rfl, by omega, ha, rfl⟩
  · have : l.drop i = [] := List.drop_eq_nil_of_le (by omega)
    rw [this] at ha
    simp only [go_sem, reduceIte, Nat.reduceAdd, Nat.reduceSub, Nat.reduceMul, Nat.reducePow, Nat.reduceLT, Nat.reduceLeDiff, Nat.reduceEqDiff, Int.reduceAdd, Int.reduceSub, Int.reduceMul, Int.reduceNeg, Int.reducePow, Int.reduceLT, Int.reduceLE, Int.reduceEq, Int.reduceNe, Int.reduceToNat, Int.toNat_natCast, Nat.zero_add, Nat.add_zero, Nat.mul_one, Nat.one_mul, Bool.not_true, Bool.not_false, ne_eq, not_true_eq_false, not_false_eq_true, Bool.false_eq_true, q]
    exact hJ ha
theorem contains89_c {lv : AV} {α : Type} {l : List α} {val : α → AV} (r : Row h lv l.length 1 (l.map val)) (hl : l.length ≤ reachBytes) {E : Nat} {caps : List AV} {P : α → Bool} (hE : ∀ x ∈ l, ∀ K : AV → H → Prop, C E ([val x] ++ caps) h K = K (.bool (P x)) h) {K : AV → H → Prop}
    (hK : K (.bool (l.any P)) h) : C 188 [lv, .fn E [] caps] h K := by
  refine run188 ?_
  unfold sh188
  refine idx105_c r hl hE fun n hn => ?_
  cases ha : l.any P with
  | true =>
    rw [ha] at hK
    have : 0 ≤ n := hn.2 ha
    simp only [go_sem, reduceIte, Nat.reduceAdd, Nat.reduceSub, Nat.reduceMul, Nat.reducePow, Nat.reduceLT, Nat.reduceLeDiff, Nat.reduceEqDiff, Int.reduceAdd, Int.reduceSub, Int.reduceMul, Int.reduceNeg, Int.reducePow, Int.reduceLT, Int.reduceLE, Int.reduceEq, Int.reduceNe, Int.reduceToNat, Int.toNat_natCast, Nat.zero_add, Nat.add_zero, Nat.mul_one, Nat.one_mul, Bool.not_true, Bool.not_false, ne_eq, not_true_eq_false, not_false_eq_true, Bool.false_eq_true, this]; exact hK
  | false =>
    rw [ha] at hK
    have : ¬ 0 ≤ n := fun q => by rw [hn.1 q] at ha; cases ha
    simp only [go_sem, reduceIte, Nat.reduceAdd, Nat.reduceSub, Nat.reduceMul, Nat.reducePow, Nat.reduceLT, Nat.reduceLeDiff, Nat.reduceEqDiff, Int.reduceAdd, Int.reduceSub, Int.reduceMul, Int.reduceNeg, Int.reducePow, Int.reduceLT, Int.reduceLE, Int.reduceEq, Int.reduceNe, Int.reduceToNat, Int.toNat_natCast, Nat.zero_add, Nat.add_zero, Nat.mul_one, Nat.one_mul, Bool.not_true, Bool.not_false, ne_eq, not_true_eq_false, not_false_eq_true, Bool.false_eq_true, this]; exact hK
theorem over66_c {lv : AV} {vks : List (AV × Nat)} (r : Row h lv vks.length 1 (vks.map Prod.fst)) (ok : lensOk vks) (hl : vks.length ≤ reachBytes) (most : Int) {K : AV → H → Prop} (hK : ∀ h', Fr [] h h' → K (.bool (overN most vks)) h') : C 134 [.int .i64 most, lv] h K := by
  refine run134 ?_
  unfold sh134
  refine box_r rfl fun b hb => ?_
  have f : Fr [] h (h.set b (.live (AV.int .i64 most).cells 3 true)) := (Fr.refl _ _).set' hb
  have cb : (h.set b (.live (AV.int .i64 most).cells 3 true)).cell b 0 = some (.int .i64 most) := cell_set
  generalize h.set b (.live (AV.int .i64 most).cells 3 true) = h1 at *
  refine contains89_c (r.fr f) hl (P := fun q => decide (most < (q.2 : Int))) (fun q hq K => ?_) (hK h1 f)
  refine callA_eq (run189 ?_) K
  simp only [sh189, go_sem, reduceIte, Nat.reduceAdd, Nat.reduceSub, Nat.reduceMul, Nat.reducePow, Nat.reduceLT, Nat.reduceLeDiff, Nat.reduceEqDiff, Int.reduceAdd, Int.reduceSub, Int.reduceMul, Int.reduceNeg, Int.reducePow, Int.reduceLT, Int.reduceLE, Int.reduceEq, Int.reduceNe, Int.reduceToNat, Int.toNat_natCast, Nat.zero_add, Nat.add_zero, Nat.mul_one, Nat.one_mul, Bool.not_true, Bool.not_false, ne_eq, not_true_eq_false, not_false_eq_true, Bool.false_eq_true, (ok q hq).2, cb]
theorem idx106_c {lv : AV} {α : Type} {l : List α} {val : α → AV} (r : Row h lv l.length 1 (l.map val)) (hl : l.length ≤ reachBytes) {E : Nat} {caps : List AV} {P : α → Bool} (hE : ∀ x ∈ l, ∀ K : AV → H → Prop, C E ([val x] ++ caps) h K = K (.bool (P x)) h) {K : AV → H → Prop}
    (hK : ∀ n : Int, (0 ≤ n ↔ l.any P = true) → K (.int .i64 n) h) : C 216 [lv, .fn E [] caps] h K := by
  refine run216 ?_
  have hr : reachBytes ≤ 4611686018427387903 := by decide
  simp only [sh216, go_sem, reduceIte, Nat.reduceAdd, Nat.reduceSub, Nat.reduceMul, Nat.reducePow, Nat.reduceLT, Nat.reduceLeDiff, Nat.reduceEqDiff, Int.reduceAdd, Int.reduceSub, Int.reduceMul, Int.reduceNeg, Int.reducePow, Int.reduceLT, Int.reduceLE, Int.reduceEq, Int.reduceNe, Int.reduceToNat, Int.toNat_natCast, Nat.zero_add, Nat.add_zero, Nat.mul_one, Nat.one_mul, Bool.not_true, Bool.not_false, ne_eq, not_true_eq_false, not_false_eq_true, Bool.false_eq_true, r.len]
  refine join_r (fun (J : H → Prop) => l.any P = false → J h) (fun e => hK _ (by rw [e]; simp)) fun J hJ => ?_
  refine loop_r (l.length + 1) (fun k ls h2 => ∃ i : Nat, ls = [.int .i64 i] ∧ i ≤ l.length ∧ l.any P = (l.drop i).any P ∧ h2 = h ∧ k = l.length + 1 - i) ⟨0, rfl, by omega, rfl, rfl, rfl⟩ ?_
  rintro k ls h2 ⟨i, rfl, hi, ha, he, rfl⟩
  rw [he]
  by_cases q : (i : Int) < l.length
  · have hi' : i < l.length := by omega
    obtain ⟨x, hx⟩ : ∃ x, l[i]? = some x := ⟨l[i], by simp [hi']⟩
    have hd : l.drop i = x :: l.drop (i + 1) := by
      rw [List.drop_eq_getElem_cons hi']; congr 1
      rw [List.getElem?_eq_getElem hi'] at hx; injection hx
    rw [hd, List.any_cons] at ha
    obtain ⟨b, o, m1, m2⟩ := r.at (i := i) (x := val x) (by omega) q (by rw [Int.toNat_natCast, List.getElem?_map, hx]; rfl)
    have en : IntKind.i64.wrap ((i : Int) + 1) = ((i + 1 : Nat) : Int) := by rw [i64_id (by omega) (by omega)]; rfl
    have hc := hE x (List.mem_of_getElem? hx)
    simp only [List.cons_append, List.nil_append] at hc
    cases hp : P x with
    | true =>
      rw [hp, Bool.true_or] at ha
      simp only [go_sem, reduceIte, Nat.reduceAdd, Nat.reduceSub, Nat.reduceMul, Nat.reducePow, Nat.reduceLT, Nat.reduceLeDiff, Nat.reduceEqDiff, Int.reduceAdd, Int.reduceSub, Int.reduceMul, Int.reduceNeg, Int.reducePow, Int.reduceLT, Int.reduceLE, Int.reduceEq, Int.reduceNe, Int.reduceToNat, Int.toNat_natCast, Nat.zero_add, Nat.add_zero, Nat.mul_one, Nat.one_mul, Bool.not_true, Bool.not_false, ne_eq, not_true_eq_false, not_false_eq_true, Bool.false_eq_true, q, m1, m2, List.cons_append, List.nil_append, hc, hp]
      exact hK i (by rw [ha]; simp)
    | false =>
      rw [hp, Bool.false_or] at ha
      simp only [go_sem, reduceIte, Nat.reduceAdd, Nat.reduceSub, Nat.reduceMul, Nat.reducePow, Nat.reduceLT, Nat.reduceLeDiff, Nat.reduceEqDiff, Int.reduceAdd, Int.reduceSub, Int.reduceMul, Int.reduceNeg, Int.reducePow, Int.reduceLT, Int.reduceLE, Int.reduceEq, Int.reduceNe, Int.reduceToNat, Int.toNat_natCast, Nat.zero_add, Nat.add_zero, Nat.mul_one, Nat.one_mul, Bool.not_true, Bool.not_false, ne_eq, not_true_eq_false, not_false_eq_true, Bool.false_eq_true, q, m1, m2, List.cons_append, List.nil_append, hc, hp, en]
      exact ⟨l.length + 1 - (i + 1), by omega, i + 1, rfl, by omega, ha, rfl⟩
  · have : l.drop i = [] := List.drop_eq_nil_of_le (by omega)
    rw [this] at ha
    simp only [go_sem, reduceIte, Nat.reduceAdd, Nat.reduceSub, Nat.reduceMul, Nat.reducePow, Nat.reduceLT, Nat.reduceLeDiff, Nat.reduceEqDiff, Int.reduceAdd, Int.reduceSub, Int.reduceMul, Int.reduceNeg, Int.reducePow, Int.reduceLT, Int.reduceLE, Int.reduceEq, Int.reduceNe, Int.reduceToNat, Int.toNat_natCast, Nat.zero_add, Nat.add_zero, Nat.mul_one, Nat.one_mul, Bool.not_true, Bool.not_false, ne_eq, not_true_eq_false, not_false_eq_true, Bool.false_eq_true, q]
    exact hJ ha
theorem contains91_c {lv : AV} {α : Type} {l : List α} {val : α → AV} (r : Row h lv l.length 1 (l.map val)) (hl : l.length ≤ reachBytes) {E : Nat} {caps : List AV} {P : α → Bool} (hE : ∀ x ∈ l, ∀ K : AV → H → Prop, C E ([val x] ++ caps) h K = K (.bool (P x)) h) {K : AV → H → Prop}
    (hK : K (.bool (l.any P)) h) : C 190 [lv, .fn E [] caps] h K := by
  refine run190 ?_
  unfold sh190
  refine idx106_c r hl hE fun n hn => ?_
  cases ha : l.any P with
  | true =>
    rw [ha] at hK
    have : 0 ≤ n := hn.2 ha
    simp only [go_sem, reduceIte, Nat.reduceAdd, Nat.reduceSub, Nat.reduceMul, Nat.reducePow, Nat.reduceLT, Nat.reduceLeDiff, Nat.reduceEqDiff, Int.reduceAdd, Int.reduceSub, Int.reduceMul, Int.reduceNeg, Int.reducePow, Int.reduceLT, Int.reduceLE, Int.reduceEq, Int.reduceNe, Int.reduceToNat, Int.toNat_natCast, Nat.zero_add, Nat.add_zero, Nat.mul_one, Nat.one_mul, Bool.not_true, Bool.not_false, ne_eq, not_true_eq_false, not_false_eq_true, Bool.false_eq_true, this]; exact hK
  | false =>
    rw [ha] at hK
    have : ¬ 0 ≤ n := fun q => by rw [hn.1 q] at ha; cases ha
    simp only [go_sem, reduceIte, Nat.reduceAdd, Nat.reduceSub, Nat.reduceMul, Nat.reducePow, Nat.reduceLT, Nat.reduceLeDiff, Nat.reduceEqDiff, Int.reduceAdd, Int.reduceSub, Int.reduceMul, Int.reduceNeg, Int.reducePow, Int.reduceLT, Int.reduceLE, Int.reduceEq, Int.reduceNe, Int.reduceToNat, Int.toNat_natCast, Nat.zero_add, Nat.add_zero, Nat.mul_one, Nat.one_mul, Bool.not_true, Bool.not_false, ne_eq, not_true_eq_false, not_false_eq_true, Bool.false_eq_true, this]; exact hK
theorem over67_c {lv : AV} {vks : List (AV × Nat)} (r : Row h lv vks.length 1 (vks.map Prod.fst)) (ok : lensOk vks) (hl : vks.length ≤ reachBytes) (most : Int) {K : AV → H → Prop} (hK : ∀ h', Fr [] h h' → K (.bool (overN most vks)) h') : C 135 [.int .i64 most, lv] h K := by
  refine run135 ?_
  unfold sh135
  refine box_r rfl fun b hb => ?_
  have f : Fr [] h (h.set b (.live (AV.int .i64 most).cells 3 true)) := (Fr.refl _ _).set' hb
  have cb : (h.set b (.live (AV.int .i64 most).cells 3 true)).cell b 0 = some (.int .i64 most) := cell_set
  generalize h.set b (.live (AV.int .i64 most).cells 3 true) = h1 at *
  refine contains91_c (r.fr f) hl (P := fun q => decide (most < (q.2 : Int))) (fun q hq K => ?_) (hK h1 f)
  refine callA_eq (run191 ?_) K
  simp only [sh191, go_sem, reduceIte, Nat.reduceAdd, Nat.reduceSub, Nat.reduceMul, Nat.reducePow, Nat.reduceLT, Nat.reduceLeDiff, Nat.reduceEqDiff, Int.reduceAdd, Int.reduceSub, Int.reduceMul, Int.reduceNeg, Int.reducePow, Int.reduceLT, Int.reduceLE, Int.reduceEq, Int.reduceNe, Int.reduceToNat, Int.toNat_natCast, Nat.zero_add, Nat.add_zero, Nat.mul_one, Nat.one_mul, Bool.not_true, Bool.not_false, ne_eq, not_true_eq_false, not_false_eq_true, Bool.false_eq_true, (ok q hq).2, cb]
theorem idx108_c {lv : AV} {α : Type} {l : List α} {val : α → AV} (r : Row h lv l.length 1 (l.map val)) (hl : l.length ≤ reachBytes) {E : Nat} {caps : List AV} {P : α → Bool} (hE : ∀ x ∈ l, ∀ K : AV → H → Prop, C E ([val x] ++ caps) h K = K (.bool (P x)) h) {K : AV → H → Prop}
    (hK : ∀ n : Int, (0 ≤ n ↔ l.any P = true) → K (.int .i64 n) h) : C 218 [lv, .fn E [] caps] h K := by
  refine run218 ?_
  have hr : reachBytes ≤ 4611686018427387903 := by decide
  simp only [sh218, go_sem, reduceIte, Nat.reduceAdd, Nat.reduceSub, Nat.reduceMul, Nat.reducePow, Nat.reduceLT, Nat.reduceLeDiff, Nat.reduceEqDiff, Int.reduceAdd, Int.reduceSub, Int.reduceMul, Int.reduceNeg, Int.reducePow, Int.reduceLT, Int.reduceLE, Int.reduceEq, Int.reduceNe, Int.reduceToNat, Int.toNat_natCast, Nat.zero_add, Nat.add_zero, Nat.mul_one, Nat.one_mul, Bool.not_true, Bool.not_false, ne_eq, not_true_eq_false, not_false_eq_true, Bool.false_eq_true, r.len]
  refine join_r (fun (J : H → Prop) => l.any P = false → J h) (fun e => hK _ (by rw [e]; simp)) fun J hJ => ?_
  refine loop_r (l.length + 1) (fun k ls h2 => ∃ i : Nat, ls = [.int .i64 i] ∧ i ≤ l.length ∧ l.any P = (l.drop i).any P ∧ h2 = h ∧ k = l.length + 1 - i) ⟨0, rfl, by omega, rfl, rfl, rfl⟩ ?_
  rintro k ls h2 ⟨i, rfl, hi, ha, he, rfl⟩
  rw [he]
  by_cases q : (i : Int) < l.length
  · have hi' : i < l.length := by omega
    obtain ⟨x, hx⟩ : ∃ x, l[i]? = some x := ⟨l[i], by simp [hi']⟩
    have hd : l.drop i = x :: l.drop (i + 1) := by
      rw [List.drop_eq_getElem_cons hi']; congr 1
      rw [List.getElem?_eq_getElem hi'] at hx; injection hx
    rw [hd, List.any_cons] at ha
    obtain ⟨b, o, m1, m2⟩ := r.at (i := i) (x := val x) (by omega) q (by rw [Int.toNat_natCast, List.getElem?_map, hx]; rfl)
    have en : IntKind.i64.wrap ((i : Int) + 1) = ((i + 1 : Nat) : Int) := by rw [i64_id (by omega) (by omega)]; rfl
    have hc := hE x (List.mem_of_getElem? hx)
    simp only [List.cons_append, List.nil_append] at hc
    cases hp : P x with
    | true =>
      rw [hp, Bool.true_or] at ha
      simp only [go_sem, reduceIte, Nat.reduceAdd, Nat.reduceSub, Nat.reduceMul, Nat.reducePow, Nat.reduceLT, Nat.reduceLeDiff, Nat.reduceEqDiff, Int.reduceAdd, Int.reduceSub, Int.reduceMul, Int.reduceNeg, Int.reducePow, Int.reduceLT, Int.reduceLE, Int.reduceEq, Int.reduceNe, Int.reduceToNat, Int.toNat_natCast, Nat.zero_add, Nat.add_zero, Nat.mul_one, Nat.one_mul, Bool.not_true, Bool.not_false, ne_eq, not_true_eq_false, not_false_eq_true, Bool.false_eq_true, q, m1, m2, List.cons_append, List.nil_append, hc, hp]
      exact hK i (by rw [ha]; simp)
    | false =>
      rw [hp, Bool.false_or] at ha
      simp only [go_sem, reduceIte, Nat.reduceAdd, Nat.reduceSub, Nat.reduceMul, Nat.reducePow, Nat.reduceLT, Nat.reduceLeDiff, Nat.reduceEqDiff, Int.reduceAdd, Int.reduceSub, Int.reduceMul, Int.reduceNeg, Int.reducePow, Int.reduceLT, Int.reduceLE, Int.reduceEq, Int.reduceNe, Int.reduceToNat, Int.toNat_natCast, Nat.zero_add, Nat.add_zero, Nat.mul_one, Nat.one_mul, Bool.not_true, Bool.not_false, ne_eq, not_true_eq_false, not_false_eq_true, Bool.false_eq_true, q, m1, m2, List.cons_append, List.nil_append, hc, hp, en]
      exact ⟨l.length + 1 - (i + 1), by omega, i + 1, rfl, by omega, ha, rfl⟩
  · have : l.drop i = [] := List.drop_eq_nil_of_le (by omega)
    rw [this] at ha
    simp only [go_sem, reduceIte, Nat.reduceAdd, Nat.reduceSub, Nat.reduceMul, Nat.reducePow, Nat.reduceLT, Nat.reduceLeDiff, Nat.reduceEqDiff, Int.reduceAdd, Int.reduceSub, Int.reduceMul, Int.reduceNeg, Int.reducePow, Int.reduceLT, Int.reduceLE, Int.reduceEq, Int.reduceNe, Int.reduceToNat, Int.toNat_natCast, Nat.zero_add, Nat.add_zero, Nat.mul_one, Nat.one_mul, Bool.not_true, Bool.not_false, ne_eq, not_true_eq_false, not_false_eq_true, Bool.false_eq_true, q]
    exact hJ ha
theorem contains95_c {lv : AV} {α : Type} {l : List α} {val : α → AV} (r : Row h lv l.length 1 (l.map val)) (hl : l.length ≤ reachBytes) {E : Nat} {caps : List AV} {P : α → Bool} (hE : ∀ x ∈ l, ∀ K : AV → H → Prop, C E ([val x] ++ caps) h K = K (.bool (P x)) h) {K : AV → H → Prop}
    (hK : K (.bool (l.any P)) h) : C 194 [lv, .fn E [] caps] h K := by
  refine run194 ?_
  unfold sh194
  refine idx108_c r hl hE fun n hn => ?_
  cases ha : l.any P with
  | true =>
    rw [ha] at hK
    have : 0 ≤ n := hn.2 ha
    simp only [go_sem, reduceIte, Nat.reduceAdd, Nat.reduceSub, Nat.reduceMul, Nat.reducePow, Nat.reduceLT, Nat.reduceLeDiff, Nat.reduceEqDiff, Int.reduceAdd, Int.reduceSub, Int.reduceMul, Int.reduceNeg, Int.reducePow, Int.reduceLT, Int.reduceLE, Int.reduceEq, Int.reduceNe, Int.reduceToNat, Int.toNat_natCast, Nat.zero_add, Nat.add_zero, Nat.mul_one, Nat.one_mul, Bool.not_true, Bool.not_false, ne_eq, not_true_eq_false, not_false_eq_true, Bool.false_eq_true, this]; exact hK
  | false =>
    rw [ha] at hK
    have : ¬ 0 ≤ n := fun q => by rw [hn.1 q] at ha; cases ha
    simp only [go_sem, reduceIte, Nat.reduceAdd, Nat.reduceSub, Nat.reduceMul, Nat.reducePow, Nat.reduceLT, Nat.reduceLeDiff, Nat.reduceEqDiff, Int.reduceAdd, Int.reduceSub, Int.reduceMul, Int.reduceNeg, Int.reducePow, Int.reduceLT, Int.reduceLE, Int.reduceEq, Int.reduceNe, Int.reduceToNat, Int.toNat_natCast, Nat.zero_add, Nat.add_zero, Nat.mul_one, Nat.one_mul, Bool.not_true, Bool.not_false, ne_eq, not_true_eq_false, not_false_eq_true, Bool.false_eq_true, this]; exact hK
theorem over69_c {lv : AV} {vks : List (AV × Nat)} (r : Row h lv vks.length 1 (vks.map Prod.fst)) (ok : lensOk vks) (hl : vks.length ≤ reachBytes) (most : Int) {K : AV → H → Prop} (hK : ∀ h', Fr [] h h' → K (.bool (overN most vks)) h') : C 137 [.int .i64 most, lv] h K := by
  refine run137 ?_
  unfold sh137
  refine box_r rfl fun b hb => ?_
  have f : Fr [] h (h.set b (.live (AV.int .i64 most).cells 3 true)) := (Fr.refl _ _).set' hb
  have cb : (h.set b (.live (AV.int .i64 most).cells 3 true)).cell b 0 = some (.int .i64 most) := cell_set
  generalize h.set b (.live (AV.int .i64 most).cells 3 true) = h1 at *
  refine contains95_c (r.fr f) hl (P := fun q => decide (most < (q.2 : Int))) (fun q hq K => ?_) (hK h1 f)
  refine callA_eq (run195 ?_) K
  simp only [sh195, go_sem, reduceIte, Nat.reduceAdd, Nat.reduceSub, Nat.reduceMul, Nat.reducePow, Nat.reduceLT, Nat.reduceLeDiff, Nat.reduceEqDiff, Int.reduceAdd, Int.reduceSub, Int.reduceMul, Int.reduceNeg, Int.reducePow, Int.reduceLT, Int.reduceLE, Int.reduceEq, Int.reduceNe, Int.reduceToNat, Int.toNat_natCast, Nat.zero_add, Nat.add_zero, Nat.mul_one, Nat.one_mul, Bool.not_true, Bool.not_false, ne_eq, not_true_eq_false, not_false_eq_true, Bool.false_eq_true, (ok q hq).2, cb]
theorem idx109_c {lv : AV} {α : Type} {l : List α} {val : α → AV} (r : Row h lv l.length 1 (l.map val)) (hl : l.length ≤ reachBytes) {E : Nat} {caps : List AV} {P : α → Bool} (hE : ∀ x ∈ l, ∀ K : AV → H → Prop, C E ([val x] ++ caps) h K = K (.bool (P x)) h) {K : AV → H → Prop}
    (hK : ∀ n : Int, (0 ≤ n ↔ l.any P = true) → K (.int .i64 n) h) : C 219 [lv, .fn E [] caps] h K := by
  refine run219 ?_
  have hr : reachBytes ≤ 4611686018427387903 := by decide
  simp only [sh219, go_sem, reduceIte, Nat.reduceAdd, Nat.reduceSub, Nat.reduceMul, Nat.reducePow, Nat.reduceLT, Nat.reduceLeDiff, Nat.reduceEqDiff, Int.reduceAdd, Int.reduceSub, Int.reduceMul, Int.reduceNeg, Int.reducePow, Int.reduceLT, Int.reduceLE, Int.reduceEq, Int.reduceNe, Int.reduceToNat, Int.toNat_natCast, Nat.zero_add, Nat.add_zero, Nat.mul_one, Nat.one_mul, Bool.not_true, Bool.not_false, ne_eq, not_true_eq_false, not_false_eq_true, Bool.false_eq_true, r.len]
  refine join_r (fun (J : H → Prop) => l.any P = false → J h) (fun e => hK _ (by rw [e]; simp)) fun J hJ => ?_
  refine loop_r (l.length + 1) (fun k ls h2 => ∃ i : Nat, ls = [.int .i64 i] ∧ i ≤ l.length ∧ l.any P = (l.drop i).any P ∧ h2 = h ∧ k = l.length + 1 - i) ⟨0, rfl, by omega, rfl, rfl, rfl⟩ ?_
  rintro k ls h2 ⟨i, rfl, hi, ha, he, rfl⟩
  rw [he]
  by_cases q : (i : Int) < l.length
  · have hi' : i < l.length := by omega
    obtain ⟨x, hx⟩ : ∃ x, l[i]? = some x := ⟨l[i], by simp [hi']⟩
    have hd : l.drop i = x :: l.drop (i + 1) := by
      rw [List.drop_eq_getElem_cons hi']; congr 1
      rw [List.getElem?_eq_getElem hi'] at hx; injection hx
    rw [hd, List.any_cons] at ha
    obtain ⟨b, o, m1, m2⟩ := r.at (i := i) (x := val x) (by omega) q (by rw [Int.toNat_natCast, List.getElem?_map, hx]; rfl)
    have en : IntKind.i64.wrap ((i : Int) + 1) = ((i + 1 : Nat) : Int) := by rw [i64_id (by omega) (by omega)]; rfl
    have hc := hE x (List.mem_of_getElem? hx)
    simp only [List.cons_append, List.nil_append] at hc
    cases hp : P x with
    | true =>
      rw [hp, Bool.true_or] at ha
      simp only [go_sem, reduceIte, Nat.reduceAdd, Nat.reduceSub, Nat.reduceMul, Nat.reducePow, Nat.reduceLT, Nat.reduceLeDiff, Nat.reduceEqDiff, Int.reduceAdd, Int.reduceSub, Int.reduceMul, Int.reduceNeg, Int.reducePow, Int.reduceLT, Int.reduceLE, Int.reduceEq, Int.reduceNe, Int.reduceToNat, Int.toNat_natCast, Nat.zero_add, Nat.add_zero, Nat.mul_one, Nat.one_mul, Bool.not_true, Bool.not_false, ne_eq, not_true_eq_false, not_false_eq_true, Bool.false_eq_true, q, m1, m2, List.cons_append, List.nil_append, hc, hp]
      exact hK i (by rw [ha]; simp)
    | false =>
      rw [hp, Bool.false_or] at ha
      simp only [go_sem, reduceIte, Nat.reduceAdd, Nat.reduceSub, Nat.reduceMul, Nat.reducePow, Nat.reduceLT, Nat.reduceLeDiff, Nat.reduceEqDiff, Int.reduceAdd, Int.reduceSub, Int.reduceMul, Int.reduceNeg, Int.reducePow, Int.reduceLT, Int.reduceLE, Int.reduceEq, Int.reduceNe, Int.reduceToNat, Int.toNat_natCast, Nat.zero_add, Nat.add_zero, Nat.mul_one, Nat.one_mul, Bool.not_true, Bool.not_false, ne_eq, not_true_eq_false, not_false_eq_true, Bool.false_eq_true, q, m1, m2, List.cons_append, List.nil_append, hc, hp, en]
      exact ⟨l.length + 1 - (i + 1), by omega, i + 1, rfl, by omega, ha, rfl⟩
  · have : l.drop i = [] := List.drop_eq_nil_of_le (by omega)
    rw [this] at ha
    simp only [go_sem, reduceIte, Nat.reduceAdd, Nat.reduceSub, Nat.reduceMul, Nat.reducePow, Nat.reduceLT, Nat.reduceLeDiff, Nat.reduceEqDiff, Int.reduceAdd, Int.reduceSub, Int.reduceMul, Int.reduceNeg, Int.reducePow, Int.reduceLT, Int.reduceLE, Int.reduceEq, Int.reduceNe, Int.reduceToNat, Int.toNat_natCast, Nat.zero_add, Nat.add_zero, Nat.mul_one, Nat.one_mul, Bool.not_true, Bool.not_false, ne_eq, not_true_eq_false, not_false_eq_true, Bool.false_eq_true, q]
    exact hJ ha
theorem contains97_c {lv : AV} {α : Type} {l : List α} {val : α → AV} (r : Row h lv l.length 1 (l.map val)) (hl : l.length ≤ reachBytes) {E : Nat} {caps : List AV} {P : α → Bool} (hE : ∀ x ∈ l, ∀ K : AV → H → Prop, C E ([val x] ++ caps) h K = K (.bool (P x)) h) {K : AV → H → Prop}
    (hK : K (.bool (l.any P)) h) : C 196 [lv, .fn E [] caps] h K := by
  refine run196 ?_
  unfold sh196
  refine idx109_c r hl hE fun n hn => ?_
  cases ha : l.any P with
  | true =>
    rw [ha] at hK
    have : 0 ≤ n := hn.2 ha
    simp only [go_sem, reduceIte, Nat.reduceAdd, Nat.reduceSub, Nat.reduceMul, Nat.reducePow, Nat.reduceLT, Nat.reduceLeDiff, Nat.reduceEqDiff, Int.reduceAdd, Int.reduceSub, Int.reduceMul, Int.reduceNeg, Int.reducePow, Int.reduceLT, Int.reduceLE, Int.reduceEq, Int.reduceNe, Int.reduceToNat, Int.toNat_natCast, Nat.zero_add, Nat.add_zero, Nat.mul_one, Nat.one_mul, Bool.not_true, Bool.not_false, ne_eq, not_true_eq_false, not_false_eq_true, Bool.false_eq_true, this]; exact hK
  | false =>
    rw [ha] at hK
    have : ¬ 0 ≤ n := fun q => by rw [hn.1 q] at ha; cases ha
    simp only [go_sem, reduceIte, Nat.reduceAdd, Nat.reduceSub, Nat.reduceMul, Nat.reducePow, Nat.reduceLT, Nat.reduceLeDiff, Nat.reduceEqDiff, Int.reduceAdd, Int.reduceSub, Int.reduceMul, Int.reduceNeg, Int.reducePow, Int.reduceLT, Int.reduceLE, Int.reduceEq, Int.reduceNe, Int.reduceToNat, Int.toNat_natCast, Nat.zero_add, Nat.add_zero, Nat.mul_one, Nat.one_mul, Bool.not_true, Bool.not_false, ne_eq, not_true_eq_false, not_false_eq_true, Bool.false_eq_true, this]; exact hK
theorem over70_c {lv : AV} {vks : List (AV × Nat)} (r : Row h lv vks.length 1 (vks.map Prod.fst)) (ok : lensOk vks) (hl : vks.length ≤ reachBytes) (most : Int) {K : AV → H → Prop} (hK : ∀ h', Fr [] h h' → K (.bool (overN most vks)) h') : C 138 [.int .i64 most, lv] h K := by
  refine run138 ?_
  unfold sh138
  refine box_r rfl fun b hb => ?_
  have f : Fr [] h (h.set b (.live (AV.int .i64 most).cells 3 true)) := (Fr.refl _ _).set' hb
  have cb : (h.set b (.live (AV.int .i64 most).cells 3 true)).cell b 0 = some (.int .i64 most) := cell_set
  generalize h.set b (.live (AV.int .i64 most).cells 3 true) = h1 at *
  refine contains97_c (r.fr f) hl (P := fun q => decide (most < (q.2 : Int))) (fun q hq K => ?_) (hK h1 f)
  refine callA_eq (run197 ?_) K
  simp only [sh197, go_sem, reduceIte, Nat.reduceAdd, Nat.reduceSub, Nat.reduceMul, Nat.reducePow, Nat.reduceLT, Nat.reduceLeDiff, Nat.reduceEqDiff, Int.reduceAdd, Int.reduceSub, Int.reduceMul, Int.reduceNeg, Int.reducePow, Int.reduceLT, Int.reduceLE, Int.reduceEq, Int.reduceNe, Int.reduceToNat, Int.toNat_natCast, Nat.zero_add, Nat.add_zero, Nat.mul_one, Nat.one_mul, Bool.not_true, Bool.not_false, ne_eq, not_true_eq_false, not_false_eq_true, Bool.false_eq_true, (ok q hq).2, cb]
theorem idx107_c {lv : AV} {α : Type} {l : List α} {val : α → AV} (r : Row h lv l.length 1 (l.map val)) (hl : l.length ≤ reachBytes) {E : Nat} {caps : List AV} {P : α → Bool} (hE : ∀ x ∈ l, ∀ K : AV → H → Prop, C E ([val x] ++ caps) h K = K (.bool (P x)) h) {K : AV → H → Prop}
    (hK : ∀ n : Int, (0 ≤ n ↔ l.any P = true) → K (.int .i64 n) h) : C 217 [lv, .fn E [] caps] h K := by
  refine run217 ?_
  have hr : reachBytes ≤ 4611686018427387903 := by decide
  simp only [sh217, go_sem, reduceIte, Nat.reduceAdd, Nat.reduceSub, Nat.reduceMul, Nat.reducePow, Nat.reduceLT, Nat.reduceLeDiff, Nat.reduceEqDiff, Int.reduceAdd, Int.reduceSub, Int.reduceMul, Int.reduceNeg, Int.reducePow, Int.reduceLT, Int.reduceLE, Int.reduceEq, Int.reduceNe, Int.reduceToNat, Int.toNat_natCast, Nat.zero_add, Nat.add_zero, Nat.mul_one, Nat.one_mul, Bool.not_true, Bool.not_false, ne_eq, not_true_eq_false, not_false_eq_true, Bool.false_eq_true, r.len]
  refine join_r (fun (J : H → Prop) => l.any P = false → J h) (fun e => hK _ (by rw [e]; simp)) fun J hJ => ?_
  refine loop_r (l.length + 1) (fun k ls h2 => ∃ i : Nat, ls = [.int .i64 i] ∧ i ≤ l.length ∧ l.any P = (l.drop i).any P ∧ h2 = h ∧ k = l.length + 1 - i) ⟨0, rfl, by omega, rfl, rfl, rfl⟩ ?_
  rintro k ls h2 ⟨i, rfl, hi, ha, he, rfl⟩
  rw [he]
  by_cases q : (i : Int) < l.length
  · have hi' : i < l.length := by omega
    obtain ⟨x, hx⟩ : ∃ x, l[i]? = some x := ⟨l[i], by simp [hi']⟩
    have hd : l.drop i = x :: l.drop (i + 1) := by
      rw [List.drop_eq_getElem_cons hi']; congr 1
      rw [List.getElem?_eq_getElem hi'] at hx; injection hx
    rw [hd, List.any_cons] at ha
    obtain ⟨b, o, m1, m2⟩ := r.at (i := i) (x := val x) (by omega) q (by rw [Int.toNat_natCast, List.getElem?_map, hx]; rfl)
    have en : IntKind.i64.wrap ((i : Int) + 1) = ((i + 1 : Nat) : Int) := by rw [i64_id (by omega) (by omega)]; rfl
    have hc := hE x (List.mem_of_getElem? hx)
    simp only [List.cons_append, List.nil_append] at hc
    cases hp : P x with
    | true =>
      rw [hp, Bool.true_or] at ha
      simp only [go_sem, reduceIte, Nat.reduceAdd, Nat.reduceSub, Nat.reduceMul, Nat.reducePow, Nat.reduceLT, Nat.reduceLeDiff, Nat.reduceEqDiff, Int.reduceAdd, Int.reduceSub, Int.reduceMul, Int.reduceNeg, Int.reducePow, Int.reduceLT, Int.reduceLE, Int.reduceEq, Int.reduceNe, Int.reduceToNat, Int.toNat_natCast, Nat.zero_add, Nat.add_zero, Nat.mul_one, Nat.one_mul, Bool.not_true, Bool.not_false, ne_eq, not_true_eq_false, not_false_eq_true, Bool.false_eq_true, q, m1, m2, List.cons_append, List.nil_append, hc, hp]
      exact hK i (by rw [ha]; simp)
    | false =>
      rw [hp, Bool.false_or] at ha
      simp only [go_sem, reduceIte, Nat.reduceAdd, Nat.reduceSub, Nat.reduceMul, Nat.reducePow, Nat.reduceLT, Nat.reduceLeDiff, Nat.reduceEqDiff, Int.reduceAdd, Int.reduceSub, Int.reduceMul, Int.reduceNeg, Int.reducePow, Int.reduceLT, Int.reduceLE, Int.reduceEq, Int.reduceNe, Int.reduceToNat, Int.toNat_natCast, Nat.zero_add, Nat.add_zero, Nat.mul_one, Nat.one_mul, Bool.not_true, Bool.not_false, ne_eq, not_true_eq_false, not_false_eq_true, Bool.false_eq_true, q, m1, m2, List.cons_append, List.nil_append, hc, hp, en]
      exact ⟨l.length + 1 - (i + 1), by omega, i + 1, rfl, by omega, ha, rfl⟩
  · have : l.drop i = [] := List.drop_eq_nil_of_le (by omega)
    rw [this] at ha
    simp only [go_sem, reduceIte, Nat.reduceAdd, Nat.reduceSub, Nat.reduceMul, Nat.reducePow, Nat.reduceLT, Nat.reduceLeDiff, Nat.reduceEqDiff, Int.reduceAdd, Int.reduceSub, Int.reduceMul, Int.reduceNeg, Int.reducePow, Int.reduceLT, Int.reduceLE, Int.reduceEq, Int.reduceNe, Int.reduceToNat, Int.toNat_natCast, Nat.zero_add, Nat.add_zero, Nat.mul_one, Nat.one_mul, Bool.not_true, Bool.not_false, ne_eq, not_true_eq_false, not_false_eq_true, Bool.false_eq_true, q]
    exact hJ ha
theorem contains93_c {lv : AV} {α : Type} {l : List α} {val : α → AV} (r : Row h lv l.length 1 (l.map val)) (hl : l.length ≤ reachBytes) {E : Nat} {caps : List AV} {P : α → Bool} (hE : ∀ x ∈ l, ∀ K : AV → H → Prop, C E ([val x] ++ caps) h K = K (.bool (P x)) h) {K : AV → H → Prop}
    (hK : K (.bool (l.any P)) h) : C 192 [lv, .fn E [] caps] h K := by
  refine run192 ?_
  unfold sh192
  refine idx107_c r hl hE fun n hn => ?_
  cases ha : l.any P with
  | true =>
    rw [ha] at hK
    have : 0 ≤ n := hn.2 ha
    simp only [go_sem, reduceIte, Nat.reduceAdd, Nat.reduceSub, Nat.reduceMul, Nat.reducePow, Nat.reduceLT, Nat.reduceLeDiff, Nat.reduceEqDiff, Int.reduceAdd, Int.reduceSub, Int.reduceMul, Int.reduceNeg, Int.reducePow, Int.reduceLT, Int.reduceLE, Int.reduceEq, Int.reduceNe, Int.reduceToNat, Int.toNat_natCast, Nat.zero_add, Nat.add_zero, Nat.mul_one, Nat.one_mul, Bool.not_true, Bool.not_false, ne_eq, not_true_eq_false, not_false_eq_true, Bool.false_eq_true, this]; exact hK
  | false =>
    rw [ha] at hK
    have : ¬ 0 ≤ n := fun q => by rw [hn.1 q] at ha; cases ha
    simp only [go_sem, reduceIte, Nat.reduceAdd, Nat.reduceSub, Nat.reduceMul, Nat.reducePow, Nat.reduceLT, Nat.reduceLeDiff, Nat.reduceEqDiff, Int.reduceAdd, Int.reduceSub, Int.reduceMul, Int.reduceNeg, Int.reducePow, Int.reduceLT, Int.reduceLE, Int.reduceEq, Int.reduceNe, Int.reduceToNat, Int.toNat_natCast, Nat.zero_add, Nat.add_zero, Nat.mul_one, Nat.one_mul, Bool.not_true, Bool.not_false, ne_eq, not_true_eq_false, not_false_eq_true, Bool.false_eq_true, this]; exact hK
theorem wide_c {lv : AV} {l : List (List UInt8)} (r : Row h lv l.length 1 (l.map AV.str)) (hl : l.length ≤ reachBytes) {K : AV → H → Prop} (hK : K (.bool (l.any fun s => decide (16384 < (s.length : Int)))) h) : C 136 [lv] h K := by
  refine run136 ?_
  unfold sh136
  refine contains93_c r hl (P := fun s => decide (16384 < (s.length : Int))) (fun s hs K => ?_) hK
  refine callA_eq (run193 ?_) K
  simp only [sh193, go_sem, reduceIte, Nat.reduceAdd, Nat.reduceSub, Nat.reduceMul, Nat.reducePow, Nat.reduceLT, Nat.reduceLeDiff, Nat.reduceEqDiff, Int.reduceAdd, Int.reduceSub, Int.reduceMul, Int.reduceNeg, Int.reducePow, Int.reduceLT, Int.reduceLE, Int.reduceEq, Int.reduceNe, Int.reduceToNat, Int.toNat_natCast, Nat.zero_add, Nat.add_zero, Nat.mul_one, Nat.one_mul, Bool.not_true, Bool.not_false, ne_eq, not_true_eq_false, not_false_eq_true, Bool.false_eq_true]
end
end Go.Proofs.YtdljelicbnjfjaaGreat.X
