/- The heap: how its state lies in plain memory; a new one; what it tells. -/
import Derived.Test.YtljkkfcokpimkaaW9
import Derived.Test.YtljkkfcokpimkaaXr
set_option linter.unusedVariables false
set_option linter.unusedSimpArgs false
set_option maxRecDepth 20000
namespace Go.Proofs.Ytljkkfcokpimkaa.X
open Go Go.RowKit

/-- Words; layouts. -/
def wc (l : List Int) : List AV := l.map fun n => AV.int .u64 n
def lc (l : List (Int × Int)) : List AV := l.flatMap fun x => [AV.int .i64 x.1, AV.int .i64 x.2]
theorem wc_length (l : List Int) : (wc l).length = l.length := by simp [wc]
theorem wc_set (l : List Int) (i : Nat) (v : Int) : (wc l).set i (.int .u64 v) = wc (l.set i v) := by simp [wc, List.map_set]
theorem wc_get (l : List Int) (i : Nat) : (wc l)[i]? = l[i]?.map (AV.int .u64 ·) := by simp [wc]
theorem lc_length (l : List (Int × Int)) : (lc l).length = l.length * 2 := by
  induction l with
  | nil => rfl
  | cons x l ih => simp only [lc, List.flatMap_cons] at ih ⊢; simp [ih]; omega
theorem lc_get : ∀ (l : List (Int × Int)) (i : Nat) (x : Int × Int), l[i]? = some x → (lc l)[i * 2]? = some (.int .i64 x.1) ∧ (lc l)[i * 2 + 1]? = some (.int .i64 x.2)
  | [], i, x, h => by simp at h
  | y :: l, 0, x, h => by
    simp at h; subst h
    simp [lc]
  | y :: l, i + 1, x, h => by
    have := lc_get l i x (by simpa using h)
    have e : lc (y :: l) = AV.int .i64 y.1 :: AV.int .i64 y.2 :: lc l := by simp [lc]
    rw [e, show (i + 1) * 2 = i * 2 + 1 + 1 by omega, show i * 2 + 1 + 1 + 1 = (i * 2 + 1) + 1 + 1 by omega]
    simpa using this
theorem lc_leaves (l : List (Int × Int)) : leaves (lc l) = true := by
  induction l with
  | nil => rfl
  | cons x l ih => simp only [lc, List.flatMap_cons] at ih ⊢; simp [leaves, AV.leaf, ih]
theorem wc_leaves (l : List Int) : leaves (wc l) = true := leaves_map _ (fun _ => rfl) l
theorem lc_drop (l : List (Int × Int)) (i : Nat) (x : Int × Int) (h : l[i]? = some x) : ((lc l).drop (i * 2)).take 2 = [.int .i64 x.1, .int .i64 x.2] := by
  have hx := lc_get l i x h
  have hl : i < l.length := (List.getElem?_eq_some_iff.1 h).1
  apply List.ext_getElem?
  intro j
  rw [List.getElem?_take, List.getElem?_drop]
  match j with
  | 0 => simpa using hx.1
  | 1 => simpa using hx.2
  | j + 2 => simp; omega

/-- The program's heap. -/
structure Hs where
  words : List Int
  heads : List Int
  lays : List (Int × Int)
  top : Nat
def LayV (h : H) (v : AV) (B : List Nat) (l : List (Int × Int)) : Prop :=
  (l = [] ∧ v = .nilsl ∧ B = []) ∨ ∃ b, v = .sl b 0 l.length (.more 2) ∧ B = [b] ∧ h.get b = some (.live (lc l) 60 true)
theorem LayV.row {h : H} {v : AV} {B : List Nat} {l : List (Int × Int)} (o : LayV h v B l) : Row h v l.length 2 (lc l) := by
  refine ⟨lc_length l, ?_⟩
  rcases o with ⟨rfl, rfl, _⟩ | ⟨b, rfl, _, hb⟩
  · exact .inl ⟨rfl, rfl⟩
  · exact .inr ⟨b, 0, _, rfl, rfl, H.read_eq hb (by rw [lc_length]; omega) (by rw [List.drop_zero, List.take_of_length_le (by rw [lc_length]; omega)])⟩
/-- Such a heap lies at p; b the struct's block, bw the words', bd the heads', B the layouts'. -/
structure HeapAt (h : H) (b bw bd : Nat) (B : List Nat) (s : Hs) : Prop where
  st : ∃ lv, h.get b = some (.live [.sl bw 0 s.words.length (.exact s.words.length), .sl bd 0 s.heads.length (.exact s.heads.length), lv, .int .i64 s.top] 130 true) ∧ LayV h lv B s.lays
  wd : h.get bw = some (.live (wc s.words) 25 true)
  hd : h.get bd = some (.live (wc s.heads) 25 true)
  ne : b ≠ bw ∧ b ≠ bd ∧ bw ≠ bd ∧ b ∉ B ∧ bw ∉ B ∧ bd ∉ B
/-- What is true of each heap that calls make. -/
structure Hs.good (s : Hs) : Prop where
  wlen : s.words.length ≤ 65536
  hlen : s.heads.length = s.words.length / 64 + 1
  llen : s.lays.length ≤ 512
  kinds : ∀ x ∈ s.lays, 1 ≤ x.1 ∧ x.1 ≤ 3 ∧ 0 ≤ x.2 ∧ x.2 ≤ 65536
  wrange : ∀ w ∈ s.words, 0 ≤ w ∧ w < 18446744073709551616
  hrange : ∀ w ∈ s.heads, 0 ≤ w ∧ w < 18446744073709551616
  top : s.top ≤ s.words.length
/-- Which heaps there may be. -/
def badLay (x : Int × Int) : Bool := decide (x.1 < 1) || decide (3 < x.1) || decide (x.2 < 0) || decide (65536 < x.2)
theorem badLay_t {x y : Int} : badLay (x, y) = true ↔ (x < 1 ∨ 3 < x ∨ y < 0 ∨ 65536 < y) := by simp [badLay, or_assoc]
theorem badLay_f {x y : Int} : badLay (x, y) = false ↔ ¬ (x < 1 ∨ 3 < x ∨ y < 0 ∨ 65536 < y) := by rw [← badLay_t]; simp
def newErr (words : Int) (lays : List (Int × Int)) : Int := if words < 0 ∨ 65536 < words then 1 else if 512 < lays.length then 2 else if lays.any badLay then 1 else 0
def newHs (n : Nat) (lays : List (Int × Int)) : Hs := ⟨List.replicate n 0, List.replicate (n / 64 + 1) 0, lays, 0⟩

section
variable {h : H}
theorem lies_lays {l : List AV} (hl : Lies h (.sl (.st [.int .i64, .int .i64])) l) : ∃ v L, l = [v] ∧ Row h v L.length 2 (lc L) ∧ (∀ x ∈ L, -9223372036854775808 ≤ x.1 ∧ x.1 < 9223372036854775808 ∧ -9223372036854775808 ≤ x.2 ∧ x.2 < 9223372036854775808) ∧ L.length ≤ reachBytes := by
  simp only [Lies] at hl
  rcases hl with rfl | ⟨b, ei, css, rfl, hb, hm, hcs⟩
  · exact ⟨.nilsl, [], rfl, ⟨rfl, .inl ⟨rfl, rfl⟩⟩, by simp, by simp⟩
  · obtain ⟨L, hL, hfl, hlen⟩ : ∃ L : List (Int × Int), (∀ x ∈ L, -9223372036854775808 ≤ x.1 ∧ x.1 < 9223372036854775808 ∧ -9223372036854775808 ≤ x.2 ∧ x.2 < 9223372036854775808) ∧ css.flatten = lc L ∧ L.length = css.length := by
      clear hb hm
      induction css with
      | nil => exact ⟨[], by simp, rfl, rfl⟩
      | cons c css ih =>
        obtain ⟨L, i1, i2, i3⟩ := ih fun c hc => hcs c (by simp [hc])
        have hc := hcs c (by simp)
        simp only [LiesL] at hc
        obtain ⟨a1, t1, rfl, g1, a2, t2, rfl, g2, rfl⟩ := hc
        obtain ⟨x1, rfl, u1, u2⟩ := lies_i64 (h := h) (by simpa only [Lies] using g1)
        obtain ⟨x2, rfl, u3, u4⟩ := lies_i64 (h := h) (by simpa only [Lies] using g2)
        refine ⟨(x1, x2) :: L, ?_, ?_, by simp [i3]⟩
        · intro d hd
          rcases List.mem_cons.1 hd with rfl | hd
          · exact ⟨u1, u2, u3, u4⟩
          · exact i1 d hd
        · simp only [List.flatten_cons, i2, lc, List.flatMap_cons]; rfl
    refine ⟨_, L, rfl, ⟨lc_length L, .inr ⟨b, 0, .any, by rw [hlen], rfl, ?_⟩⟩, hL, by omega⟩
    refine H.read_eq hb (by rw [hfl, lc_length]; omega) ?_
    rw [hfl, List.drop_zero, List.take_of_length_le (by rw [lc_length]; omega)]
/-- An element of a row of layouts. -/
theorem Row.lay {v : AV} {L : List (Int × Int)} (hr : Row h v L.length 2 (lc L)) {i : Nat} {x : Int × Int} (hx : L[i]? = some x) :
    ∃ b o, (∀ k, iaA 2 v (.int k i) = some (.ptr b o)) ∧ h.cell b o = some (.int .i64 x.1) ∧ h.cell b (o + 1) = some (.int .i64 x.2) ∧ h.read b o 2 = some [.int .i64 x.1, .int .i64 x.2] := by
  have hl : i < L.length := (List.getElem?_eq_some_iff.1 hx).1
  obtain ⟨b, o, q1, q2, q3⟩ := hr.el (i := i) (by omega) (by omega)
  have hg := lc_get L i x hx
  refine ⟨b, o, q1, ?_, ?_, ?_⟩
  · have := q2 0 (by decide)
    simpa [hg.1] using this
  · have := q2 1 (by decide)
    simpa [hg.2] using this
  · rw [q3, Int.toNat_natCast, lc_drop L i x hx]
theorem agg_write {b e : Nat} {x y z w : AV} (hv : leaves [z, w] = true) : (h.set b (.live [x, y] e true)).write b 0 [z, w] = some (h.set b (.live [z, w] e true)) := write_new rfl hv
theorem check_c {words : Int} {v : AV} {L : List (Int × Int)} (hr : Row h v L.length 2 (lc L)) (hm : L.length ≤ reachBytes) {K : AV → H → Prop} (hK : ∀ h', Fr [] h h' → K (.int .i64 (newErr words L)) h') :
    C 50 [.int .i64 words, v] h K := by
  refine run50 ?_
  by_cases h1 : words < 0
  · simp only [sh50, go_sem, reduceIte, Nat.reduceAdd, Nat.reduceSub, Nat.reduceMul, Nat.reducePow, Nat.reduceLT, Nat.reduceLeDiff, Nat.reduceEqDiff, Int.reduceAdd, Int.reduceSub, Int.reduceMul, Int.reduceNeg, Int.reducePow, Int.reduceLT, Int.reduceLE, Int.reduceEq, Int.reduceNe, Int.reduceToNat, Int.toNat_natCast, Nat.zero_add, Nat.add_zero, Nat.mul_one, Nat.one_mul, Bool.not_true, Bool.not_false, ne_eq, not_true_eq_false, not_false_eq_true, Bool.false_eq_true, h1]
    have e : newErr words L = 1 := by unfold newErr; rw [if_pos (.inl h1)]
    rw [e] at hK; exact hK h (Fr.refl _ _)
  by_cases h2 : 65536 < words
  · simp only [sh50, go_sem, reduceIte, Nat.reduceAdd, Nat.reduceSub, Nat.reduceMul, Nat.reducePow, Nat.reduceLT, Nat.reduceLeDiff, Nat.reduceEqDiff, Int.reduceAdd, Int.reduceSub, Int.reduceMul, Int.reduceNeg, Int.reducePow, Int.reduceLT, Int.reduceLE, Int.reduceEq, Int.reduceNe, Int.reduceToNat, Int.toNat_natCast, Nat.zero_add, Nat.add_zero, Nat.mul_one, Nat.one_mul, Bool.not_true, Bool.not_false, ne_eq, not_true_eq_false, not_false_eq_true, Bool.false_eq_true, h1, h2]
    have e : newErr words L = 1 := by unfold newErr; rw [if_pos (.inr h2)]
    rw [e] at hK; exact hK h (Fr.refl _ _)
  by_cases h3 : (512 : Int) < L.length
  · simp only [sh50, go_sem, reduceIte, Nat.reduceAdd, Nat.reduceSub, Nat.reduceMul, Nat.reducePow, Nat.reduceLT, Nat.reduceLeDiff, Nat.reduceEqDiff, Int.reduceAdd, Int.reduceSub, Int.reduceMul, Int.reduceNeg, Int.reducePow, Int.reduceLT, Int.reduceLE, Int.reduceEq, Int.reduceNe, Int.reduceToNat, Int.toNat_natCast, Nat.zero_add, Nat.add_zero, Nat.mul_one, Nat.one_mul, Bool.not_true, Bool.not_false, ne_eq, not_true_eq_false, not_false_eq_true, Bool.false_eq_true, h1, h2, hr.len, h3]
    have e : newErr words L = 2 := by unfold newErr; rw [if_neg (by omega), if_pos (by omega)]
    rw [e] at hK; exact hK h (Fr.refl _ _)
  simp only [sh50, go_sem, reduceIte, Nat.reduceAdd, Nat.reduceSub, Nat.reduceMul, Nat.reducePow, Nat.reduceLT, Nat.reduceLeDiff, Nat.reduceEqDiff, Int.reduceAdd, Int.reduceSub, Int.reduceMul, Int.reduceNeg, Int.reducePow, Int.reduceLT, Int.reduceLE, Int.reduceEq, Int.reduceNe, Int.reduceToNat, Int.toNat_natCast, Nat.zero_add, Nat.add_zero, Nat.mul_one, Nat.one_mul, Bool.not_true, Bool.not_false, ne_eq, not_true_eq_false, not_false_eq_true, Bool.false_eq_true, h1, h2, hr.len, h3]
  have e0 : newErr words L = if L.any badLay then 1 else 0 := by unfold newErr; rw [if_neg (by omega), if_neg (by omega)]
  refine join_r (fun J => ∀ h', Fr [] h h' → L.any badLay = false → J h') (fun h' f hb => by rw [e0, hb] at hK; exact hK h' f) fun J hJ => ?_
  refine loop_r L.length (fun k l h' => ∃ i : Nat, l = [.int .i64 i] ∧ i ≤ L.length ∧ Fr [] h h' ∧ (∀ x ∈ L.take i, badLay x = false) ∧ k = L.length - i) ⟨0, rfl, by omega, Fr.refl _ _, by simp, rfl⟩ ?_
  rintro k l h' ⟨i, rfl, hi, f, hall, rfl⟩
  by_cases hlt : (i : Int) < L.length
  · have hlt' : i < L.length := by omega
    obtain ⟨⟨x1, x2⟩, hx⟩ : ∃ x, L[i]? = some x := ⟨L[i], by simp [hlt']⟩
    obtain ⟨b, o, q1, q2, q3, q4⟩ := (hr.fr f).lay hx
    have e2 : IntKind.i64.wrap ((i : Int) + 1) = ((i + 1 : Nat) : Int) := by
      have : reachBytes ≤ 4611686018427387903 := by decide
      rw [i64_id (by omega) (by omega)]; rfl
    have hmem : (x1, x2) ∈ L := List.mem_of_getElem? hx
    simp only [go_sem, reduceIte, Nat.reduceAdd, Nat.reduceSub, Nat.reduceMul, Nat.reducePow, Nat.reduceLT, Nat.reduceLeDiff, Nat.reduceEqDiff, Int.reduceAdd, Int.reduceSub, Int.reduceMul, Int.reduceNeg, Int.reducePow, Int.reduceLT, Int.reduceLE, Int.reduceEq, Int.reduceNe, Int.reduceToNat, Int.toNat_natCast, Nat.zero_add, Nat.add_zero, Nat.mul_one, Nat.one_mul, Bool.not_true, Bool.not_false, ne_eq, not_true_eq_false, not_false_eq_true, Bool.false_eq_true, hlt, q1, q4]
    refine ⟨rfl, fun c hc => ?_⟩
    have hf' : ∀ o, Fr [] h (h'.set c o) := fun o => f.set' (f.free hc)
    have hgoal1 : badLay (x1, x2) = true → ∀ o, K (.int .i64 1) (h'.set c o) := fun hb o => by
      have : L.any badLay = true := List.any_eq_true.2 ⟨_, hmem, hb⟩
      rw [e0, this] at hK; exact hK _ (hf' o)
    have hnext : badLay (x1, x2) = false → ∀ y ∈ L.take (i + 1), badLay y = false := fun hb y hy => by
      rw [List.take_add_one, hx] at hy
      rcases List.mem_append.1 hy with hy | hy
      · exact hall y hy
      · simp at hy; subst hy; exact hb
    have hw : leaves [AV.int .i64 x1, AV.int .i64 x2] = true := rfl
    simp only [go_sem, reduceIte, Nat.reduceAdd, Nat.reduceSub, Nat.reduceMul, Nat.reducePow, Nat.reduceLT, Nat.reduceLeDiff, Nat.reduceEqDiff, Int.reduceAdd, Int.reduceSub, Int.reduceMul, Int.reduceNeg, Int.reducePow, Int.reduceLT, Int.reduceLE, Int.reduceEq, Int.reduceNe, Int.reduceToNat, Int.toNat_natCast, Nat.zero_add, Nat.add_zero, Nat.mul_one, Nat.one_mul, Bool.not_true, Bool.not_false, ne_eq, not_true_eq_false, not_false_eq_true, Bool.false_eq_true, AV.cells, stA_p, agg_write hw, cell_same]
    rw [badLay_t] at hgoal1
    rw [badLay_f] at hnext
    by_cases a1 : x1 = 1
    · subst a1
      by_cases a4 : x2 < 0
      · simp only [go_sem, reduceIte, Nat.reduceAdd, Nat.reduceSub, Nat.reduceMul, Nat.reducePow, Nat.reduceLT, Nat.reduceLeDiff, Nat.reduceEqDiff, Int.reduceAdd, Int.reduceSub, Int.reduceMul, Int.reduceNeg, Int.reducePow, Int.reduceLT, Int.reduceLE, Int.reduceEq, Int.reduceNe, Int.reduceToNat, Int.toNat_natCast, Nat.zero_add, Nat.add_zero, Nat.mul_one, Nat.one_mul, Bool.not_true, Bool.not_false, ne_eq, not_true_eq_false, not_false_eq_true, Bool.false_eq_true, a4]; exact hgoal1 (by omega) _
      · by_cases a5 : 65536 < x2
        · simp only [go_sem, reduceIte, Nat.reduceAdd, Nat.reduceSub, Nat.reduceMul, Nat.reducePow, Nat.reduceLT, Nat.reduceLeDiff, Nat.reduceEqDiff, Int.reduceAdd, Int.reduceSub, Int.reduceMul, Int.reduceNeg, Int.reducePow, Int.reduceLT, Int.reduceLE, Int.reduceEq, Int.reduceNe, Int.reduceToNat, Int.toNat_natCast, Nat.zero_add, Nat.add_zero, Nat.mul_one, Nat.one_mul, Bool.not_true, Bool.not_false, ne_eq, not_true_eq_false, not_false_eq_true, Bool.false_eq_true, a4, a5]; exact hgoal1 (by omega) _
        · simp only [go_sem, reduceIte, Nat.reduceAdd, Nat.reduceSub, Nat.reduceMul, Nat.reducePow, Nat.reduceLT, Nat.reduceLeDiff, Nat.reduceEqDiff, Int.reduceAdd, Int.reduceSub, Int.reduceMul, Int.reduceNeg, Int.reducePow, Int.reduceLT, Int.reduceLE, Int.reduceEq, Int.reduceNe, Int.reduceToNat, Int.toNat_natCast, Nat.zero_add, Nat.add_zero, Nat.mul_one, Nat.one_mul, Bool.not_true, Bool.not_false, ne_eq, not_true_eq_false, not_false_eq_true, Bool.false_eq_true, a4, a5, e2]
          exact ⟨L.length - (i + 1), by omega, i + 1, rfl, by omega, hf' _, hnext (by omega), rfl⟩
    · by_cases a2 : x1 = 2
      · subst a2
        by_cases a4 : x2 < 0
        · simp only [go_sem, reduceIte, Nat.reduceAdd, Nat.reduceSub, Nat.reduceMul, Nat.reducePow, Nat.reduceLT, Nat.reduceLeDiff, Nat.reduceEqDiff, Int.reduceAdd, Int.reduceSub, Int.reduceMul, Int.reduceNeg, Int.reducePow, Int.reduceLT, Int.reduceLE, Int.reduceEq, Int.reduceNe, Int.reduceToNat, Int.toNat_natCast, Nat.zero_add, Nat.add_zero, Nat.mul_one, Nat.one_mul, Bool.not_true, Bool.not_false, ne_eq, not_true_eq_false, not_false_eq_true, Bool.false_eq_true, a4]; exact hgoal1 (by omega) _
        · by_cases a5 : 65536 < x2
          · simp only [go_sem, reduceIte, Nat.reduceAdd, Nat.reduceSub, Nat.reduceMul, Nat.reducePow, Nat.reduceLT, Nat.reduceLeDiff, Nat.reduceEqDiff, Int.reduceAdd, Int.reduceSub, Int.reduceMul, Int.reduceNeg, Int.reducePow, Int.reduceLT, Int.reduceLE, Int.reduceEq, Int.reduceNe, Int.reduceToNat, Int.toNat_natCast, Nat.zero_add, Nat.add_zero, Nat.mul_one, Nat.one_mul, Bool.not_true, Bool.not_false, ne_eq, not_true_eq_false, not_false_eq_true, Bool.false_eq_true, a4, a5]; exact hgoal1 (by omega) _
          · simp only [go_sem, reduceIte, Nat.reduceAdd, Nat.reduceSub, Nat.reduceMul, Nat.reducePow, Nat.reduceLT, Nat.reduceLeDiff, Nat.reduceEqDiff, Int.reduceAdd, Int.reduceSub, Int.reduceMul, Int.reduceNeg, Int.reducePow, Int.reduceLT, Int.reduceLE, Int.reduceEq, Int.reduceNe, Int.reduceToNat, Int.toNat_natCast, Nat.zero_add, Nat.add_zero, Nat.mul_one, Nat.one_mul, Bool.not_true, Bool.not_false, ne_eq, not_true_eq_false, not_false_eq_true, Bool.false_eq_true, a4, a5, e2]
            exact ⟨L.length - (i + 1), by omega, i + 1, rfl, by omega, hf' _, hnext (by omega), rfl⟩
      · by_cases a3 : x1 = 3
        · subst a3
          by_cases a4 : x2 < 0
          · simp only [go_sem, reduceIte, Nat.reduceAdd, Nat.reduceSub, Nat.reduceMul, Nat.reducePow, Nat.reduceLT, Nat.reduceLeDiff, Nat.reduceEqDiff, Int.reduceAdd, Int.reduceSub, Int.reduceMul, Int.reduceNeg, Int.reducePow, Int.reduceLT, Int.reduceLE, Int.reduceEq, Int.reduceNe, Int.reduceToNat, Int.toNat_natCast, Nat.zero_add, Nat.add_zero, Nat.mul_one, Nat.one_mul, Bool.not_true, Bool.not_false, ne_eq, not_true_eq_false, not_false_eq_true, Bool.false_eq_true, a4]; exact hgoal1 (by omega) _
          · by_cases a5 : 65536 < x2
            · simp only [go_sem, reduceIte, Nat.reduceAdd, Nat.reduceSub, Nat.reduceMul, Nat.reducePow, Nat.reduceLT, Nat.reduceLeDiff, Nat.reduceEqDiff, Int.reduceAdd, Int.reduceSub, Int.reduceMul, Int.reduceNeg, Int.reducePow, Int.reduceLT, Int.reduceLE, Int.reduceEq, Int.reduceNe, Int.reduceToNat, Int.toNat_natCast, Nat.zero_add, Nat.add_zero, Nat.mul_one, Nat.one_mul, Bool.not_true, Bool.not_false, ne_eq, not_true_eq_false, not_false_eq_true, Bool.false_eq_true, a4, a5]; exact hgoal1 (by omega) _
            · simp only [go_sem, reduceIte, Nat.reduceAdd, Nat.reduceSub, Nat.reduceMul, Nat.reducePow, Nat.reduceLT, Nat.reduceLeDiff, Nat.reduceEqDiff, Int.reduceAdd, Int.reduceSub, Int.reduceMul, Int.reduceNeg, Int.reducePow, Int.reduceLT, Int.reduceLE, Int.reduceEq, Int.reduceNe, Int.reduceToNat, Int.toNat_natCast, Nat.zero_add, Nat.add_zero, Nat.mul_one, Nat.one_mul, Bool.not_true, Bool.not_false, ne_eq, not_true_eq_false, not_false_eq_true, Bool.false_eq_true, a4, a5, e2]
              exact ⟨L.length - (i + 1), by omega, i + 1, rfl, by omega, hf' _, hnext (by omega), rfl⟩
        · simp only [go_sem, reduceIte, Nat.reduceAdd, Nat.reduceSub, Nat.reduceMul, Nat.reducePow, Nat.reduceLT, Nat.reduceLeDiff, Nat.reduceEqDiff, Int.reduceAdd, Int.reduceSub, Int.reduceMul, Int.reduceNeg, Int.reducePow, Int.reduceLT, Int.reduceLE, Int.reduceEq, Int.reduceNe, Int.reduceToNat, Int.toNat_natCast, Nat.zero_add, Nat.add_zero, Nat.mul_one, Nat.one_mul, Bool.not_true, Bool.not_false, ne_eq, not_true_eq_false, not_false_eq_true, Bool.false_eq_true, a1, a2, a3]; exact hgoal1 (by omega) _
  · simp only [go_sem, reduceIte, Nat.reduceAdd, Nat.reduceSub, Nat.reduceMul, Nat.reducePow, Nat.reduceLT, Nat.reduceLeDiff, Nat.reduceEqDiff, Int.reduceAdd, Int.reduceSub, Int.reduceMul, Int.reduceNeg, Int.reducePow, Int.reduceLT, Int.reduceLE, Int.reduceEq, Int.reduceNe, Int.reduceToNat, Int.toNat_natCast, Nat.zero_add, Nat.add_zero, Nat.mul_one, Nat.one_mul, Bool.not_true, Bool.not_false, ne_eq, not_true_eq_false, not_false_eq_true, Bool.false_eq_true, hlt]
    have : i = L.length := by omega
    subst this
    rw [List.take_length] at hall
    exact hJ h' f (by rw [Bool.eq_false_iff]; intro q; obtain ⟨x, hx, hb⟩ := List.any_eq_true.1 q; rw [hall x hx] at hb; cases hb)
theorem wc_zero (n : Nat) : List.replicate n (AV.int .u64 0) = wc (List.replicate n 0) := by simp [wc]
theorem new_c {words : Int} {v : AV} {L : List (Int × Int)} (hr : Row h v L.length 2 (lc L)) (hm : L.length ≤ reachBytes) {K : AV → H → Prop}
    (hbad : newErr words L ≠ 0 → ∀ h', Fr [] h h' → K (.tup [.nilp, .int .i64 (newErr words L)]) h')
    (hgood : newErr words L = 0 → ∀ h' b bw bd B, Fr [] h h' → Fresh h (b :: bw :: bd :: B) → HeapAt h' b bw bd B (newHs words.toNat L) → K (.tup [.ptr b 0, .int .i64 0]) h') :
    C 49 [.int .i64 words, v] h K := by
  refine run49 ?_
  by_cases h1 : words < 0
  · simp only [sh49, go_sem, reduceIte, Nat.reduceAdd, Nat.reduceSub, Nat.reduceMul, Nat.reducePow, Nat.reduceLT, Nat.reduceLeDiff, Nat.reduceEqDiff, Int.reduceAdd, Int.reduceSub, Int.reduceMul, Int.reduceNeg, Int.reducePow, Int.reduceLT, Int.reduceLE, Int.reduceEq, Int.reduceNe, Int.reduceToNat, Int.toNat_natCast, Nat.zero_add, Nat.add_zero, Nat.mul_one, Nat.one_mul, Bool.not_true, Bool.not_false, ne_eq, not_true_eq_false, not_false_eq_true, Bool.false_eq_true, h1]
    have e : newErr words L = 1 := by unfold newErr; rw [if_pos (.inl h1)]
    rw [e] at hbad; exact hbad (by decide) h (Fr.refl _ _)
  by_cases h2 : 65536 < words
  · simp only [sh49, go_sem, reduceIte, Nat.reduceAdd, Nat.reduceSub, Nat.reduceMul, Nat.reducePow, Nat.reduceLT, Nat.reduceLeDiff, Nat.reduceEqDiff, Int.reduceAdd, Int.reduceSub, Int.reduceMul, Int.reduceNeg, Int.reducePow, Int.reduceLT, Int.reduceLE, Int.reduceEq, Int.reduceNe, Int.reduceToNat, Int.toNat_natCast, Nat.zero_add, Nat.add_zero, Nat.mul_one, Nat.one_mul, Bool.not_true, Bool.not_false, ne_eq, not_true_eq_false, not_false_eq_true, Bool.false_eq_true, h1, h2]
    have e : newErr words L = 1 := by unfold newErr; rw [if_pos (.inr h2)]
    rw [e] at hbad; exact hbad (by decide) h (Fr.refl _ _)
  by_cases h3 : (512 : Int) < L.length
  · simp only [sh49, go_sem, reduceIte, Nat.reduceAdd, Nat.reduceSub, Nat.reduceMul, Nat.reducePow, Nat.reduceLT, Nat.reduceLeDiff, Nat.reduceEqDiff, Int.reduceAdd, Int.reduceSub, Int.reduceMul, Int.reduceNeg, Int.reducePow, Int.reduceLT, Int.reduceLE, Int.reduceEq, Int.reduceNe, Int.reduceToNat, Int.toNat_natCast, Nat.zero_add, Nat.add_zero, Nat.mul_one, Nat.one_mul, Bool.not_true, Bool.not_false, ne_eq, not_true_eq_false, not_false_eq_true, Bool.false_eq_true, h1, h2, hr.len, h3]
    have e : newErr words L = 2 := by unfold newErr; rw [if_neg (by omega), if_pos (by omega)]
    rw [e] at hbad; exact hbad (by decide) h (Fr.refl _ _)
  simp only [sh49, go_sem, reduceIte, Nat.reduceAdd, Nat.reduceSub, Nat.reduceMul, Nat.reducePow, Nat.reduceLT, Nat.reduceLeDiff, Nat.reduceEqDiff, Int.reduceAdd, Int.reduceSub, Int.reduceMul, Int.reduceNeg, Int.reducePow, Int.reduceLT, Int.reduceLE, Int.reduceEq, Int.reduceNe, Int.reduceToNat, Int.toNat_natCast, Nat.zero_add, Nat.add_zero, Nat.mul_one, Nat.one_mul, Bool.not_true, Bool.not_false, ne_eq, not_true_eq_false, not_false_eq_true, Bool.false_eq_true, h1, h2, hr.len, h3]
  have e0 : newErr words L = if L.any badLay then 1 else 0 := by unfold newErr; rw [if_neg (by omega), if_neg (by omega)]
  have ew : IntKind.i64.wrap (IntKind.i64.wrap (words.tdiv 64) + 1) = words / 64 + 1 := by
    rw [Int.tdiv_eq_ediv_of_nonneg (by omega), i64_id (n := words / 64) (by omega) (by omega), i64_id (by omega) (by omega)]
  refine join_r (fun J => ∀ h', Fr [] h h' → L.any badLay = false → J h') ?_ fun J hJ => ?_
  · intro h' f hb
    rw [hb] at e0
    have hgood := hgood e0
    have fin : ∀ lv B h1, Fr [] h h1 → Fresh h B → LayV h1 lv B L →
        mksA h1 25 [.int .u64 0] 8 (.int .i64 words) (.int .i64 words) (fun t43 h => mksA h 25 [.int .u64 0] 8 (.int .i64 (words / 64 + 1)) (.int .i64 (words / 64 + 1)) fun t47 h =>
          valA (buildA (fillV [.nilsl, .nilsl, .nilsl, .int .i64 0] [(0, 1, t43), (1, 1, t47), (2, 1, lv)])) h fun t50 h => newA h (AV.cells t50) 130 (fun b => .ptr b 0) fun t51 h => K (.tup [t51, .int .i64 0]) h) := by
      intro lv B h1 f1 hB hlv
      have n1 : natOf (.int .i64 words) = some words.toNat := by simp [natOf]; omega
      have n2 : natOf (.int .i64 (words / 64 + 1)) = some (words.toNat / 64 + 1) := by simp only [natOf]; rw [if_pos (by omega)]; congr 1; omega
      unfold mksA
      rw [n1]
      simp only
      refine ⟨⟨Nat.le_refl _, by unfold most; omega, by omega⟩, by rw [repCells_int]; exact leaves_replicate .., fun bw hbw => ?_⟩
      rw [n2]
      simp only
      refine ⟨⟨Nat.le_refl _, by unfold most; omega, by omega⟩, by rw [repCells_int]; exact leaves_replicate .., fun bd hbd => ?_⟩
      have hlvl : lv.leaf = true ∧ lv.cells = [lv] := by rcases hlv with ⟨_, rfl, _⟩ | ⟨_, rfl, _⟩ <;> exact ⟨rfl, rfl⟩
      have efill : fillV [.nilsl, .nilsl, .nilsl, .int .i64 0] [(0, 1, .sl bw 0 words.toNat (.exact words.toNat)), (1, 1, .sl bd 0 (words.toNat / 64 + 1) (.exact (words.toNat / 64 + 1))), (2, 1, lv)] =
          some [.sl bw 0 words.toNat (.exact words.toNat), .sl bd 0 (words.toNat / 64 + 1) (.exact (words.toNat / 64 + 1)), lv, .int .i64 0] := by
        rcases hlv with ⟨_, e, _⟩ | ⟨_, e, _⟩ <;> subst e <;> simp [fillV, AV.cells, leaves, AV.leaf, overlay]
      simp only [efill, buildA_s, valA_some]
      refine ⟨by simp only [AV.cells, leaves, hlvl.1]; rfl, fun b hb => ?_⟩
      have nb : b ≠ bw ∧ b ≠ bd ∧ bw ≠ bd := by
        refine ⟨fun e => ?_, fun e => ?_, fun e => ?_⟩
        · subst e; by_cases q : b = bd
          · subst q; rw [H.get_same] at hb; cases hb
          · rw [H.get_other _ _ q, H.get_same] at hb; cases hb
        · subst e; rw [H.get_same] at hb; cases hb
        · subst e; rw [H.get_same] at hbd; cases hbd
      have hbd1 : h1.get bd = none := by rw [H.get_other _ _ (fun e => nb.2.2 e.symm)] at hbd; exact hbd
      have hb1 : h1.get b = none := by rw [H.get_other _ _ nb.2.1, H.get_other _ _ nb.1] at hb; exact hb
      have hBne : ∀ c ∈ B, h1.get c ≠ none := by
        intro c hc
        rcases hlv with ⟨_, _, rfl⟩ | ⟨bl, _, rfl, hg⟩
        · cases hc
        · simp at hc; subst hc; rw [hg]; simp
      refine hgood _ b bw bd B (((f1.set' (f1.free hbw)).set' (f1.free hbd1)).set' (f1.free hb1)) ?_ ⟨⟨lv, ?_, ?_⟩, ?_, ?_, nb.1, nb.2.1, nb.2.2, fun q => hBne _ q hb1, fun q => hBne _ q hbw, fun q => hBne _ q hbd1⟩
      · intro c hc
        simp only [List.mem_cons] at hc
        rcases hc with rfl | rfl | rfl | hc
        · exact f1.free hb1
        · exact f1.free hbw
        · exact f1.free hbd1
        · exact hB c hc
      · rw [H.get_same]; simp [newHs, AV.cells]
      · rcases hlv with q | ⟨bl, q1, q2, q3⟩
        · exact .inl q
        · have g1 : bl ≠ b := fun e => by subst e; rw [hb1] at q3; cases q3
          have g2 : bl ≠ bd := fun e => by subst e; rw [hbd1] at q3; cases q3
          have g3 : bl ≠ bw := fun e => by subst e; rw [hbw] at q3; cases q3
          exact .inr ⟨bl, q1, q2, by rw [H.get_other _ _ g1, H.get_other _ _ g2, H.get_other _ _ g3]; exact q3⟩
      · rw [H.get_other _ _ (fun e => nb.1 e.symm), H.get_other _ _ nb.2.2, H.get_same, repCells_int, wc_zero]; rfl
      · rw [H.get_other _ _ (fun e => nb.2.1 e.symm), H.get_same, repCells_int, wc_zero]; rfl
    simp only [go_sem, reduceIte, Nat.reduceAdd, Nat.reduceSub, Nat.reduceMul, Nat.reducePow, Nat.reduceLT, Nat.reduceLeDiff, Nat.reduceEqDiff, Int.reduceAdd, Int.reduceSub, Int.reduceMul, Int.reduceNeg, Int.reducePow, Int.reduceLT, Int.reduceLE, Int.reduceEq, Int.reduceNe, Int.reduceToNat, Int.toNat_natCast, Nat.zero_add, Nat.add_zero, Nat.mul_one, Nat.one_mul, Bool.not_true, Bool.not_false, ne_eq, not_true_eq_false, not_false_eq_true, Bool.false_eq_true, ew]
    unfold appendA
    rw [(hr.fr f).src]
    simp only
    by_cases hn : L.length = 0
    · have : L = [] := List.eq_nil_of_length_eq_zero hn
      subst this
      simp only [List.length_nil, if_true]
      exact fin .nilsl [] h' f (by intro c hc; cases hc) (.inl ⟨rfl, rfl, rfl⟩)
    · rw [if_neg hn]
      refine ⟨by unfold most; omega, lc_leaves L, fun bl hbl => ?_⟩
      exact fin _ [bl] _ (f.set' (f.free hbl)) (by intro c hc; simp at hc; subst hc; exact f.free hbl) (.inr ⟨bl, rfl, rfl, H.get_same ..⟩)
  refine loop_r L.length (fun k l h' => ∃ i : Nat, l = [.int .i64 i] ∧ i ≤ L.length ∧ Fr [] h h' ∧ (∀ x ∈ L.take i, badLay x = false) ∧ k = L.length - i) ⟨0, rfl, by omega, Fr.refl _ _, by simp, rfl⟩ ?_
  rintro k l h' ⟨i, rfl, hi, f, hall, rfl⟩
  by_cases hlt : (i : Int) < L.length
  · have hlt' : i < L.length := by omega
    obtain ⟨⟨x1, x2⟩, hx⟩ : ∃ x, L[i]? = some x := ⟨L[i], by simp [hlt']⟩
    obtain ⟨b, o, q1, q2, q3, q4⟩ := (hr.fr f).lay hx
    have e2 : IntKind.i64.wrap ((i : Int) + 1) = ((i + 1 : Nat) : Int) := by
      have : reachBytes ≤ 4611686018427387903 := by decide
      rw [i64_id (by omega) (by omega)]; rfl
    have hmem : (x1, x2) ∈ L := List.mem_of_getElem? hx
    simp only [go_sem, reduceIte, Nat.reduceAdd, Nat.reduceSub, Nat.reduceMul, Nat.reducePow, Nat.reduceLT, Nat.reduceLeDiff, Nat.reduceEqDiff, Int.reduceAdd, Int.reduceSub, Int.reduceMul, Int.reduceNeg, Int.reducePow, Int.reduceLT, Int.reduceLE, Int.reduceEq, Int.reduceNe, Int.reduceToNat, Int.toNat_natCast, Nat.zero_add, Nat.add_zero, Nat.mul_one, Nat.one_mul, Bool.not_true, Bool.not_false, ne_eq, not_true_eq_false, not_false_eq_true, Bool.false_eq_true, hlt, q1, q4]
    refine ⟨rfl, fun c hc => ?_⟩
    have hf' : ∀ o, Fr [] h (h'.set c o) := fun o => f.set' (f.free hc)
    have hgoal1 : badLay (x1, x2) = true → ∀ o, K (.tup [.nilp, .int .i64 1]) (h'.set c o) := fun hb o => by
      have : L.any badLay = true := List.any_eq_true.2 ⟨_, hmem, hb⟩
      rw [e0, this] at hbad; exact hbad (by decide) _ (hf' o)
    have hnext : badLay (x1, x2) = false → ∀ y ∈ L.take (i + 1), badLay y = false := fun hb y hy => by
      rw [List.take_add_one, hx] at hy
      rcases List.mem_append.1 hy with hy | hy
      · exact hall y hy
      · simp at hy; subst hy; exact hb
    have hw : leaves [AV.int .i64 x1, AV.int .i64 x2] = true := rfl
    simp only [go_sem, reduceIte, Nat.reduceAdd, Nat.reduceSub, Nat.reduceMul, Nat.reducePow, Nat.reduceLT, Nat.reduceLeDiff, Nat.reduceEqDiff, Int.reduceAdd, Int.reduceSub, Int.reduceMul, Int.reduceNeg, Int.reducePow, Int.reduceLT, Int.reduceLE, Int.reduceEq, Int.reduceNe, Int.reduceToNat, Int.toNat_natCast, Nat.zero_add, Nat.add_zero, Nat.mul_one, Nat.one_mul, Bool.not_true, Bool.not_false, ne_eq, not_true_eq_false, not_false_eq_true, Bool.false_eq_true, AV.cells, stA_p, agg_write hw, cell_same]
    rw [badLay_t] at hgoal1
    rw [badLay_f] at hnext
    by_cases a1 : x1 < 1
    · simp only [go_sem, reduceIte, Nat.reduceAdd, Nat.reduceSub, Nat.reduceMul, Nat.reducePow, Nat.reduceLT, Nat.reduceLeDiff, Nat.reduceEqDiff, Int.reduceAdd, Int.reduceSub, Int.reduceMul, Int.reduceNeg, Int.reducePow, Int.reduceLT, Int.reduceLE, Int.reduceEq, Int.reduceNe, Int.reduceToNat, Int.toNat_natCast, Nat.zero_add, Nat.add_zero, Nat.mul_one, Nat.one_mul, Bool.not_true, Bool.not_false, ne_eq, not_true_eq_false, not_false_eq_true, Bool.false_eq_true, a1]; exact hgoal1 (by omega) _
    · by_cases a3 : 3 < x1
      · simp only [go_sem, reduceIte, Nat.reduceAdd, Nat.reduceSub, Nat.reduceMul, Nat.reducePow, Nat.reduceLT, Nat.reduceLeDiff, Nat.reduceEqDiff, Int.reduceAdd, Int.reduceSub, Int.reduceMul, Int.reduceNeg, Int.reducePow, Int.reduceLT, Int.reduceLE, Int.reduceEq, Int.reduceNe, Int.reduceToNat, Int.toNat_natCast, Nat.zero_add, Nat.add_zero, Nat.mul_one, Nat.one_mul, Bool.not_true, Bool.not_false, ne_eq, not_true_eq_false, not_false_eq_true, Bool.false_eq_true, a1, a3]; exact hgoal1 (by omega) _
      · by_cases a4 : x2 < 0
        · simp only [go_sem, reduceIte, Nat.reduceAdd, Nat.reduceSub, Nat.reduceMul, Nat.reducePow, Nat.reduceLT, Nat.reduceLeDiff, Nat.reduceEqDiff, Int.reduceAdd, Int.reduceSub, Int.reduceMul, Int.reduceNeg, Int.reducePow, Int.reduceLT, Int.reduceLE, Int.reduceEq, Int.reduceNe, Int.reduceToNat, Int.toNat_natCast, Nat.zero_add, Nat.add_zero, Nat.mul_one, Nat.one_mul, Bool.not_true, Bool.not_false, ne_eq, not_true_eq_false, not_false_eq_true, Bool.false_eq_true, a1, a3, a4]; exact hgoal1 (by omega) _
        · by_cases a5 : 65536 < x2
          · simp only [go_sem, reduceIte, Nat.reduceAdd, Nat.reduceSub, Nat.reduceMul, Nat.reducePow, Nat.reduceLT, Nat.reduceLeDiff, Nat.reduceEqDiff, Int.reduceAdd, Int.reduceSub, Int.reduceMul, Int.reduceNeg, Int.reducePow, Int.reduceLT, Int.reduceLE, Int.reduceEq, Int.reduceNe, Int.reduceToNat, Int.toNat_natCast, Nat.zero_add, Nat.add_zero, Nat.mul_one, Nat.one_mul, Bool.not_true, Bool.not_false, ne_eq, not_true_eq_false, not_false_eq_true, Bool.false_eq_true, a1, a3, a4, a5]; exact hgoal1 (by omega) _
          · simp only [go_sem, reduceIte, Nat.reduceAdd, Nat.reduceSub, Nat.reduceMul, Nat.reducePow, Nat.reduceLT, Nat.reduceLeDiff, Nat.reduceEqDiff, Int.reduceAdd, Int.reduceSub, Int.reduceMul, Int.reduceNeg, Int.reducePow, Int.reduceLT, Int.reduceLE, Int.reduceEq, Int.reduceNe, Int.reduceToNat, Int.toNat_natCast, Nat.zero_add, Nat.add_zero, Nat.mul_one, Nat.one_mul, Bool.not_true, Bool.not_false, ne_eq, not_true_eq_false, not_false_eq_true, Bool.false_eq_true, a1, a3, a4, a5, e2]
            exact ⟨L.length - (i + 1), by omega, i + 1, rfl, by omega, hf' _, hnext (by omega), rfl⟩
  · simp only [go_sem, reduceIte, Nat.reduceAdd, Nat.reduceSub, Nat.reduceMul, Nat.reducePow, Nat.reduceLT, Nat.reduceLeDiff, Nat.reduceEqDiff, Int.reduceAdd, Int.reduceSub, Int.reduceMul, Int.reduceNeg, Int.reducePow, Int.reduceLT, Int.reduceLE, Int.reduceEq, Int.reduceNe, Int.reduceToNat, Int.toNat_natCast, Nat.zero_add, Nat.add_zero, Nat.mul_one, Nat.one_mul, Bool.not_true, Bool.not_false, ne_eq, not_true_eq_false, not_false_eq_true, Bool.false_eq_true, hlt]
    have : i = L.length := by omega
    subst this
    rw [List.take_length] at hall
    exact hJ h' f (by rw [Bool.eq_false_iff]; intro q; obtain ⟨x, hx, hb⟩ := List.any_eq_true.1 q; rw [hall x hx] at hb; cases hb)
end
end Go.Proofs.Ytljkkfcokpimkaa.X
