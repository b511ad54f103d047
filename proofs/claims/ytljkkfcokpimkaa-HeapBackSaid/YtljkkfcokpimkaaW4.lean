/- Bytes as numbers, by the program and by the reference; the examples. -/
import Derived.Test.YtljkkfcokpimkaaW3
set_option linter.unusedVariables false
set_option linter.unusedSimpArgs false
set_option maxRecDepth 20000
namespace Go.Proofs.Ytljkkfcokpimkaa.X
open Go Go.RowKit

theorem pow128 (i : Nat) : 128 ^ i = 2 ^ (7 * i) := by rw [Nat.pow_mul]
theorem or_step {i d x : Nat} (hi : i ≤ 9) (hx : x < 128 ^ i) (hd : i = 9 → d ≤ 1) (hd2 : d < 128) :
    bits .or .u64 (x : Int) (IntKind.u64.wrap ((d : Int) * 2 ^ (7 * i))) = ((x + 128 ^ i * d : Nat) : Int) ∧ x + 128 ^ i * d < 2 ^ 64 := by
  have hp : 128 ^ i * d ≤ 2 ^ 64 - 128 ^ i := by
    by_cases h9 : i = 9
    · subst h9
      have := hd rfl
      have : 128 ^ 9 * d ≤ 128 ^ 9 * 1 := Nat.mul_le_mul_left _ this
      have e : (128 : Nat) ^ 9 = 9223372036854775808 := by decide
      omega
    · have h8 : 128 ^ (i + 1) ≤ 128 ^ 9 := Nat.pow_le_pow_right (by decide) (by omega)
      have e : (128 : Nat) ^ 9 = 9223372036854775808 := by decide
      rw [Nat.pow_succ] at h8
      have h7 : 128 ^ i * d ≤ 128 ^ i * 127 := Nat.mul_le_mul_left _ (by omega)
      rw [e] at h8
      omega
  have hpos : 0 < 128 ^ i := Nat.pow_pos (by decide)
  have hle : 128 ^ i ≤ 128 ^ 9 := Nat.pow_le_pow_right (by decide) hi
  have e99 : (128 : Nat) ^ 9 = 9223372036854775808 := by decide
  have hb : x + 128 ^ i * d < 2 ^ 64 := by omega
  refine ⟨?_, hb⟩
  have e1 : (d : Int) * 2 ^ (7 * i) = ((128 ^ i * d : Nat) : Int) := by rw [pow128]; push_cast; rw [Int.mul_comm]
  rw [e1, u64_id (by omega) (by omega), or_comm, or_join (7 * i) _ _ (by omega) ?_ (by omega) (by omega) ?_ (by omega)]
  · omega
  · rw [← e1]; exact Int.mul_emod_left _ _
  · rw [pow128] at hx; exact_mod_cast hx
theorem decS_out {L : List Nat} {a : Int} (h : a < 0 ∨ (L.length : Int) ≤ a) : decS L a = (0, 0, false) := by unfold decS; rw [if_pos h]
theorem decS_none {L : List Nat} {a : Int} (h : cut (L.drop a.toNat) 10 = none) : decS L a = (0, 0, false) := by
  unfold decS; split
  · rfl
  · rw [h]
theorem decS_bad {L : List Nat} {a : Int} {t : List Nat} (h : cut (L.drop a.toNat) 10 = some t) (hb : ¬(putL (val t) = t ∧ val t < 2 ^ 64)) : decS L a = (0, 0, false) := by
  unfold decS; split
  · rfl
  · rw [h]; simp only; rw [if_neg hb]
theorem decS_good {L : List Nat} {a : Int} {t : List Nat} (h0 : 0 ≤ a) (h1 : a < L.length) (h : cut (L.drop a.toNat) 10 = some t) (hb : putL (val t) = t ∧ val t < 2 ^ 64) : decS L a = (unz (val t), a + t.length, true) := by
  unfold decS; rw [if_neg (by omega), h]; simp only; rw [if_pos hb]
def decV (r : Int × Int × Bool) : AV := .tup [.int .i64 r.1, .int .i64 r.2.1, .bool r.2.2]
theorem unz_val {x : Nat} (h : x < 2 ^ 64) : (if (x : Int) % 2 = 1 then -((x : Int) / 2) - 1 else (x : Int) / 2) = unz x := by
  unfold unz; split <;> split <;> omega
section
variable {h : H}
theorem get_c {v : AV} {L : List Nat} (hr : Row h v L.length 1 (bc L)) (hL : ∀ d ∈ L, d < 256) (hm : L.length < 9223372036854775808) {a : Int} (ha0 : -9223372036854775808 ≤ a) (ha1 : a < 9223372036854775808) {K : AV → H → Prop}
    (hK : K (decV (decS L a)) h) : C 44 [v, .int .i64 a] h K := by
  refine run44 ?_
  simp only [sh44, go_sem, reduceIte, Nat.reduceAdd, Nat.reduceSub, Nat.reduceMul, Nat.reducePow, Nat.reduceLT, Nat.reduceLeDiff, Nat.reduceEqDiff, Int.reduceAdd, Int.reduceSub, Int.reduceMul, Int.reduceNeg, Int.reducePow, Int.reduceLT, Int.reduceLE, Int.reduceEq, Int.reduceNe, Int.reduceToNat, Int.toNat_natCast, Nat.zero_add, Nat.add_zero, Nat.mul_one, Nat.one_mul, Bool.not_true, Bool.not_false, ne_eq, not_true_eq_false, not_false_eq_true, Bool.false_eq_true, hr.len]
  by_cases h1 : a < 0
  · simp only [go_sem, reduceIte, Nat.reduceAdd, Nat.reduceSub, Nat.reduceMul, Nat.reducePow, Nat.reduceLT, Nat.reduceLeDiff, Nat.reduceEqDiff, Int.reduceAdd, Int.reduceSub, Int.reduceMul, Int.reduceNeg, Int.reducePow, Int.reduceLT, Int.reduceLE, Int.reduceEq, Int.reduceNe, Int.reduceToNat, Int.toNat_natCast, Nat.zero_add, Nat.add_zero, Nat.mul_one, Nat.one_mul, Bool.not_true, Bool.not_false, ne_eq, not_true_eq_false, not_false_eq_true, Bool.false_eq_true, h1]
    rw [decS_out (.inl h1)] at hK
    exact hK
  by_cases h2 : (L.length : Int) ≤ a
  · simp only [go_sem, reduceIte, Nat.reduceAdd, Nat.reduceSub, Nat.reduceMul, Nat.reducePow, Nat.reduceLT, Nat.reduceLeDiff, Nat.reduceEqDiff, Int.reduceAdd, Int.reduceSub, Int.reduceMul, Int.reduceNeg, Int.reducePow, Int.reduceLT, Int.reduceLE, Int.reduceEq, Int.reduceNe, Int.reduceToNat, Int.toNat_natCast, Nat.zero_add, Nat.add_zero, Nat.mul_one, Nat.one_mul, Bool.not_true, Bool.not_false, ne_eq, not_true_eq_false, not_false_eq_true, Bool.false_eq_true, h1, h2]
    rw [decS_out (.inr h2)] at hK
    exact hK
  have e1 : IntKind.i64.wrap ((L.length : Int) - a) = L.length - a := i64_id (by omega) (by omega)
  simp only [go_sem, reduceIte, Nat.reduceAdd, Nat.reduceSub, Nat.reduceMul, Nat.reducePow, Nat.reduceLT, Nat.reduceLeDiff, Nat.reduceEqDiff, Int.reduceAdd, Int.reduceSub, Int.reduceMul, Int.reduceNeg, Int.reducePow, Int.reduceLT, Int.reduceLE, Int.reduceEq, Int.reduceNe, Int.reduceToNat, Int.toNat_natCast, Nat.zero_add, Nat.add_zero, Nat.mul_one, Nat.one_mul, Bool.not_true, Bool.not_false, ne_eq, not_true_eq_false, not_false_eq_true, Bool.false_eq_true, h1, h2, e1]
  have hfail : ∀ (p r : List Nat), L.drop a.toNat = p ++ r → (∀ c ∈ p, 128 ≤ c) → (r = [] ∨ p.length = 10) → K (decV (0, 0, false)) h := fun p r hp hc hr => by
    rw [decS_none (by rw [hp]; exact cut_none p r 10 hc hr)] at hK; exact hK
  refine join_r (fun J => ∀ (p r : List Nat), L.drop a.toNat = p ++ r → (∀ c ∈ p, 128 ≤ c) → (r = [] ∨ p.length = 10) → J h) hfail ?_
  intro J hJ
  refine loop_r 10 (fun k l h' => ∃ (i : Nat) (p r : List Nat), l = [.int .u64 (val p : Nat), .int .i64 i] ∧ h' = h ∧ L.drop a.toNat = p ++ r ∧ p.length = i ∧ (∀ c ∈ p, 128 ≤ c) ∧ (i : Int) ≤ (if (L.length : Int) - a < 10 then (L.length : Int) - a else 10) ∧ k = 10 - i)
    ⟨0, [], L.drop a.toNat, by simp [val], rfl, rfl, rfl, by simp, by split <;> omega, rfl⟩ ?_
  rintro k l h' ⟨i, p, r, rfl, rfl, hp, hpl, hc, hi, rfl⟩
  have hlen := congrArg List.length hp
  simp only [List.length_drop, List.length_append] at hlen
  by_cases hlt : (i : Int) < (if (L.length : Int) - a < 10 then (L.length : Int) - a else 10)
  · have hi10 : i < 10 ∧ (i : Int) < L.length - a := by split at hlt <;> omega
    obtain ⟨d, r, rfl⟩ : ∃ d r', r = d :: r' := by
      cases r with
      | nil => simp at hlen; omega
      | cons d r => exact ⟨d, r, rfl⟩
    have hat : L[(a + i).toNat]? = some d := by
      have : (L.drop a.toNat)[i]? = some d := by rw [hp, List.getElem?_append_right (by omega), hpl]; simp
      rw [List.getElem?_drop] at this
      rw [← this]; congr 1; omega
    have hdm : d ∈ L := List.mem_of_getElem? hat
    have hd := hL d hdm
    have e2 : IntKind.i64.wrap (a + (i : Int)) = a + i := i64_id (by omega) (by omega)
    obtain ⟨b, o, q1, q2⟩ := hr.at (i := a + i) (x := .int .u8 (d : Nat)) (by omega) (by omega) (by simp only [bc, List.getElem?_map, hat, Option.map_some])
    have e3 : IntKind.u64.wrap ((d % 128 : Nat) : Int) = ((d % 128 : Nat) : Int) := u64_id (by omega) (by omega)
    have e4 : IntKind.i64.wrap (7 * (i : Int)) = ((7 * i : Nat) : Int) := by rw [i64_id (by omega) (by omega)]; omega
    have hvl := val_lt p
    rw [hpl] at hvl
    have e5 : bits .and .u8 (d : Int) 127 = ((d % 128 : Nat) : Int) := u8_and127n hd
    by_cases h9 : i = 9 ∧ 1 < d
    · -- ten bytes, and too much
      obtain ⟨h9, hd1⟩ := h9
      have h9' : decide ((i : Int) = 9) = true := by simp; omega
      have hd1' : decide ((1 : Int) < d) = true := by simp; omega
      simp only [go_sem, reduceIte, Nat.reduceAdd, Nat.reduceSub, Nat.reduceMul, Nat.reducePow, Nat.reduceLT, Nat.reduceLeDiff, Nat.reduceEqDiff, Int.reduceAdd, Int.reduceSub, Int.reduceMul, Int.reduceNeg, Int.reducePow, Int.reduceLT, Int.reduceLE, Int.reduceEq, Int.reduceNe, Int.reduceToNat, Int.toNat_natCast, Nat.zero_add, Nat.add_zero, Nat.mul_one, Nat.one_mul, Bool.not_true, Bool.not_false, ne_eq, not_true_eq_false, not_false_eq_true, Bool.false_eq_true, hlt, e2, q1, q2, h9', hd1']
      have hf : decS L a = (0, 0, false) := by
        by_cases hds : d < 128
        · refine decS_bad (by rw [hp]; exact cut_some p d r 10 hc hds (by omega)) ?_
          rintro ⟨_, hlt⟩
          rw [val_append, hpl, h9, Nat.mod_eq_of_lt hds] at hlt
          have e : (128 : Nat) ^ 9 = 9223372036854775808 := by decide
          rw [e] at hlt
          omega
        · have hc' : ∀ c ∈ p ++ [d], 128 ≤ c := by
            intro c hcm
            rcases List.mem_append.1 hcm with q | q
            · exact hc c q
            · simp at q; omega
          exact decS_none (by rw [hp, show p ++ d :: r = (p ++ [d]) ++ r by simp]; exact cut_none _ _ _ hc' (.inr (by simp; omega)))
      rw [hf] at hK
      exact hK
    · obtain ⟨o1, o2⟩ := or_step (i := i) (d := d % 128) (x := val p) (by omega) hvl (by omega) (by omega)
      have ev : val p + 128 ^ i * (d % 128) = val (p ++ [d]) := by rw [val_append, hpl]
      rw [ev] at o1 o2
      have h70 : (0 : Int) ≤ ((7 * i : Nat) : Int) := by omega
      have h71 : ((7 * i : Nat) : Int) ≤ 64 := by omega
      have hb : decide ((i : Int) = 9) = true ∧ decide ((1 : Int) < d) = false ∨ decide ((i : Int) = 9) = false := by
        by_cases q : i = 9
        · left; simp; omega
        · right; simp; omega
      by_cases hds : d < 128
      · have hds' : decide ((d : Int) < 128) = true := by simp; omega
        have hcut : cut (L.drop a.toNat) 10 = some (p ++ [d]) := by rw [hp]; exact cut_some p d r 10 hc hds (by omega)
        have hcan := canon p d (fun c hcm => ⟨hc c hcm, hL c (by
          have : c ∈ L.drop a.toNat := by rw [hp]; exact List.mem_append_left _ hcm
          exact List.mem_of_mem_drop this)⟩) hds
        by_cases h0 : d = 0 ∧ 0 < i
        · obtain ⟨h0, hi0⟩ := h0
          have h0' : decide ((d : Int) = 0) = true := by simp; omega
          have hi0' : decide ((0 : Int) < i) = true := by simp; omega
          have hf : decS L a = (0, 0, false) := by
            refine decS_bad hcut fun q => ?_
            rcases hcan.1 q.1 with q | q
            · subst q; simp at hpl; omega
            · exact q h0
          rw [hf] at hK
          rcases hb with ⟨w1, w2⟩ | w1
          · simp only [go_sem, reduceIte, Nat.reduceAdd, Nat.reduceSub, Nat.reduceMul, Nat.reducePow, Nat.reduceLT, Nat.reduceLeDiff, Nat.reduceEqDiff, Int.reduceAdd, Int.reduceSub, Int.reduceMul, Int.reduceNeg, Int.reducePow, Int.reduceLT, Int.reduceLE, Int.reduceEq, Int.reduceNe, Int.reduceToNat, Int.toNat_natCast, Nat.zero_add, Nat.add_zero, Nat.mul_one, Nat.one_mul, Bool.not_true, Bool.not_false, ne_eq, not_true_eq_false, not_false_eq_true, Bool.false_eq_true, hlt, e2, q1, q2, w1, w2, e3, e4, e5, b_shl_u64 h70 h71, o1, hds', h0', hi0']
            exact hK
          · simp only [go_sem, reduceIte, Nat.reduceAdd, Nat.reduceSub, Nat.reduceMul, Nat.reducePow, Nat.reduceLT, Nat.reduceLeDiff, Nat.reduceEqDiff, Int.reduceAdd, Int.reduceSub, Int.reduceMul, Int.reduceNeg, Int.reducePow, Int.reduceLT, Int.reduceLE, Int.reduceEq, Int.reduceNe, Int.reduceToNat, Int.toNat_natCast, Nat.zero_add, Nat.add_zero, Nat.mul_one, Nat.one_mul, Bool.not_true, Bool.not_false, ne_eq, not_true_eq_false, not_false_eq_true, Bool.false_eq_true, hlt, e2, q1, q2, w1, e3, e4, e5, b_shl_u64 h70 h71, o1, hds', h0', hi0']
            exact hK
        · have hgood : decS L a = (unz (val (p ++ [d])), a + (p ++ [d]).length, true) := decS_good (by omega) (by omega) hcut ⟨hcan.2 (by
            by_cases q : d = 0
            · left; exact List.eq_nil_of_length_eq_zero (by omega)
            · exact .inr q), o2⟩
          have hz : decide ((d : Int) = 0) = true ∧ decide ((0 : Int) < i) = false ∨ decide ((d : Int) = 0) = false := by
            by_cases q : d = 0
            · left; simp; omega
            · right; simp; omega
          have e6 : IntKind.i64.wrap ((val (p ++ [d]) : Int) / 2) = (val (p ++ [d]) : Int) / 2 := i64_id (by omega) (by omega)
          have e7 : bits .and .u64 (val (p ++ [d]) : Int) 1 = (val (p ++ [d]) : Int) % 2 := and1 _ (by omega) (by omega)
          have e8 : IntKind.i64.wrap (a + (i : Int) + 1) = a + (p ++ [d]).length := by rw [i64_id (by omega) (by omega)]; simp; omega
          have fin : ∀ n : Int, n = unz (val (p ++ [d])) → K (.tup [.int .i64 n, .int .i64 (a + (p ++ [d]).length), .bool true]) h' := fun n hn => by
            rw [hgood] at hK; subst hn; exact hK
          have hu := unz_val o2
          have rest : (if (val (p ++ [d]) : Int) % 2 = 1 then K (.tup [.int .i64 (bits .xor .i64 (if IntKind.i64.signed = true then -1 else IntKind.i64.max) ((val (p ++ [d]) : Int) / 2)), .int .i64 (a + (p ++ [d]).length), .bool true]) h'
              else K (.tup [.int .i64 ((val (p ++ [d]) : Int) / 2), .int .i64 (a + (p ++ [d]).length), .bool true]) h') := by
            split
            · rename_i hodd
              rw [if_pos hodd] at hu
              rw [xor_i64 (by omega) (by omega)]
              exact fin _ hu
            · rename_i hev
              rw [if_neg hev] at hu
              exact fin _ hu
          rcases hb with ⟨w1, w2⟩ | w1 <;> rcases hz with ⟨z1, z2⟩ | z1
          · simp only [go_sem, reduceIte, Nat.reduceAdd, Nat.reduceSub, Nat.reduceMul, Nat.reducePow, Nat.reduceLT, Nat.reduceLeDiff, Nat.reduceEqDiff, Int.reduceAdd, Int.reduceSub, Int.reduceMul, Int.reduceNeg, Int.reducePow, Int.reduceLT, Int.reduceLE, Int.reduceEq, Int.reduceNe, Int.reduceToNat, Int.toNat_natCast, Nat.zero_add, Nat.add_zero, Nat.mul_one, Nat.one_mul, Bool.not_true, Bool.not_false, ne_eq, not_true_eq_false, not_false_eq_true, Bool.false_eq_true, hlt, e2, q1, q2, w1, w2, e3, e4, e5, b_shl_u64 h70 h71, o1, hds', z1, z2, joinA, e6, e7, e8]
            exact rest
          · simp only [go_sem, reduceIte, Nat.reduceAdd, Nat.reduceSub, Nat.reduceMul, Nat.reducePow, Nat.reduceLT, Nat.reduceLeDiff, Nat.reduceEqDiff, Int.reduceAdd, Int.reduceSub, Int.reduceMul, Int.reduceNeg, Int.reducePow, Int.reduceLT, Int.reduceLE, Int.reduceEq, Int.reduceNe, Int.reduceToNat, Int.toNat_natCast, Nat.zero_add, Nat.add_zero, Nat.mul_one, Nat.one_mul, Bool.not_true, Bool.not_false, ne_eq, not_true_eq_false, not_false_eq_true, Bool.false_eq_true, hlt, e2, q1, q2, w1, w2, e3, e4, e5, b_shl_u64 h70 h71, o1, hds', z1, joinA, e6, e7, e8]
            exact rest
          · simp only [go_sem, reduceIte, Nat.reduceAdd, Nat.reduceSub, Nat.reduceMul, Nat.reducePow, Nat.reduceLT, Nat.reduceLeDiff, Nat.reduceEqDiff, Int.reduceAdd, Int.reduceSub, Int.reduceMul, Int.reduceNeg, Int.reducePow, Int.reduceLT, Int.reduceLE, Int.reduceEq, Int.reduceNe, Int.reduceToNat, Int.toNat_natCast, Nat.zero_add, Nat.add_zero, Nat.mul_one, Nat.one_mul, Bool.not_true, Bool.not_false, ne_eq, not_true_eq_false, not_false_eq_true, Bool.false_eq_true, hlt, e2, q1, q2, w1, e3, e4, e5, b_shl_u64 h70 h71, o1, hds', z1, z2, joinA, e6, e7, e8]
            exact rest
          · simp only [go_sem, reduceIte, Nat.reduceAdd, Nat.reduceSub, Nat.reduceMul, Nat.reducePow, Nat.reduceLT, Nat.reduceLeDiff, Nat.reduceEqDiff, Int.reduceAdd, Int.reduceSub, Int.reduceMul, Int.reduceNeg, Int.reducePow, Int.reduceLT, Int.reduceLE, Int.reduceEq, Int.reduceNe, Int.reduceToNat, Int.toNat_natCast, Nat.zero_add, Nat.add_zero, Nat.mul_one, Nat.one_mul, Bool.not_true, Bool.not_false, ne_eq, not_true_eq_false, not_false_eq_true, Bool.false_eq_true, hlt, e2, q1, q2, w1, e3, e4, e5, b_shl_u64 h70 h71, o1, hds', z1, joinA, e6, e7, e8]
            exact rest
      · have hds' : decide ((d : Int) < 128) = false := by simp; omega
        have e9 : IntKind.i64.wrap ((i : Int) + 1) = ((i + 1 : Nat) : Int) := by rw [i64_id (by omega) (by omega)]; rfl
        have fin : ∃ n', n' < 10 - i ∧ ∃ (i_1 : Nat) (p_1 r_1 : List Nat), [AV.int .u64 (val (p ++ [d]) : Nat), AV.int .i64 ((i + 1 : Nat) : Int)] = [.int .u64 (val p_1 : Nat), .int .i64 i_1] ∧ L.drop a.toNat = p_1 ++ r_1 ∧ p_1.length = i_1 ∧ (∀ c ∈ p_1, 128 ≤ c) ∧ (i_1 : Int) ≤ (if (L.length : Int) - a < 10 then (L.length : Int) - a else 10) ∧ n' = 10 - i_1 := by
          refine ⟨10 - (i + 1), by omega, i + 1, p ++ [d], r, rfl, by rw [hp]; simp, by simp [hpl], ?_, ?_, rfl⟩
          · intro c hcm
            rcases List.mem_append.1 hcm with q | q
            · exact hc c q
            · simp at q; omega
          · split <;> omega
        rcases hb with ⟨w1, w2⟩ | w1
        · simp only [go_sem, reduceIte, Nat.reduceAdd, Nat.reduceSub, Nat.reduceMul, Nat.reducePow, Nat.reduceLT, Nat.reduceLeDiff, Nat.reduceEqDiff, Int.reduceAdd, Int.reduceSub, Int.reduceMul, Int.reduceNeg, Int.reducePow, Int.reduceLT, Int.reduceLE, Int.reduceEq, Int.reduceNe, Int.reduceToNat, Int.toNat_natCast, Nat.zero_add, Nat.add_zero, Nat.mul_one, Nat.one_mul, Bool.not_true, Bool.not_false, ne_eq, not_true_eq_false, not_false_eq_true, Bool.false_eq_true, hlt, e2, q1, q2, w1, w2, e3, e4, e5, b_shl_u64 h70 h71, o1, hds', e9]
          exact fin
        · simp only [go_sem, reduceIte, Nat.reduceAdd, Nat.reduceSub, Nat.reduceMul, Nat.reducePow, Nat.reduceLT, Nat.reduceLeDiff, Nat.reduceEqDiff, Int.reduceAdd, Int.reduceSub, Int.reduceMul, Int.reduceNeg, Int.reducePow, Int.reduceLT, Int.reduceLE, Int.reduceEq, Int.reduceNe, Int.reduceToNat, Int.toNat_natCast, Nat.zero_add, Nat.add_zero, Nat.mul_one, Nat.one_mul, Bool.not_true, Bool.not_false, ne_eq, not_true_eq_false, not_false_eq_true, Bool.false_eq_true, hlt, e2, q1, q2, w1, e3, e4, e5, b_shl_u64 h70 h71, o1, hds', e9]
          exact fin
  · simp only [go_sem, reduceIte, Nat.reduceAdd, Nat.reduceSub, Nat.reduceMul, Nat.reducePow, Nat.reduceLT, Nat.reduceLeDiff, Nat.reduceEqDiff, Int.reduceAdd, Int.reduceSub, Int.reduceMul, Int.reduceNeg, Int.reducePow, Int.reduceLT, Int.reduceLE, Int.reduceEq, Int.reduceNe, Int.reduceToNat, Int.toNat_natCast, Nat.zero_add, Nat.add_zero, Nat.mul_one, Nat.one_mul, Bool.not_true, Bool.not_false, ne_eq, not_true_eq_false, not_false_eq_true, Bool.false_eq_true, hlt]
    refine hJ p r hp hc ?_
    split at hi <;> split at hlt
    · left; exact List.eq_nil_of_length_eq_zero (by omega)
    · omega
    · omega
    · right; omega
end
end Go.Proofs.Ytljkkfcokpimkaa.X
