/- Bytes as a number, by the reference; any number as bytes, any bytes as a number. -/
import Derived.Test.YtljkkfcokpimkaaW7
set_option linter.unusedVariables false
set_option linter.unusedSimpArgs false
set_option maxRecDepth 20000
namespace Go.Proofs.Ytljkkfcokpimkaa.X
open Go Go.RowKit

theorem bc_drop (l : List Nat) (i j : Nat) : ((bc l).drop i).take j = bc ((l.drop i).take j) := by simp [bc]
section
variable {h : H}
theorem rget_c {v : AV} {L : List Nat} (hr : Row h v L.length 1 (bc L)) (hL : ∀ d ∈ L, d < 256) (hm : L.length < 4611686018427387904) {a : Int} (ha0 : -9223372036854775808 ≤ a) (ha1 : a < 9223372036854775808) {K : AV → H → Prop}
    (hK : ∀ h', Fr [] h h' → K (decV (decS L a)) h') : C 45 [v, .int .i64 a] h K := by
  refine run45 ?_
  by_cases h1 : a < 0
  · simp only [sh45, go_sem, reduceIte, Nat.reduceAdd, Nat.reduceSub, Nat.reduceMul, Nat.reducePow, Nat.reduceLT, Nat.reduceLeDiff, Nat.reduceEqDiff, Int.reduceAdd, Int.reduceSub, Int.reduceMul, Int.reduceNeg, Int.reducePow, Int.reduceLT, Int.reduceLE, Int.reduceEq, Int.reduceNe, Int.reduceToNat, Int.toNat_natCast, Nat.zero_add, Nat.add_zero, Nat.mul_one, Nat.one_mul, Bool.not_true, Bool.not_false, ne_eq, not_true_eq_false, not_false_eq_true, Bool.false_eq_true, h1]
    rw [decS_out (.inl h1)] at hK
    exact hK h (Fr.refl _ _)
  by_cases h2 : (L.length : Int) ≤ a
  · simp only [sh45, go_sem, reduceIte, Nat.reduceAdd, Nat.reduceSub, Nat.reduceMul, Nat.reducePow, Nat.reduceLT, Nat.reduceLeDiff, Nat.reduceEqDiff, Int.reduceAdd, Int.reduceSub, Int.reduceMul, Int.reduceNeg, Int.reducePow, Int.reduceLT, Int.reduceLE, Int.reduceEq, Int.reduceNe, Int.reduceToNat, Int.toNat_natCast, Nat.zero_add, Nat.add_zero, Nat.mul_one, Nat.one_mul, Bool.not_true, Bool.not_false, ne_eq, not_true_eq_false, not_false_eq_true, Bool.false_eq_true, h1, h2, hr.len]
    rw [decS_out (.inr h2)] at hK
    exact hK h (Fr.refl _ _)
  simp only [sh45, go_sem, reduceIte, Nat.reduceAdd, Nat.reduceSub, Nat.reduceMul, Nat.reducePow, Nat.reduceLT, Nat.reduceLeDiff, Nat.reduceEqDiff, Int.reduceAdd, Int.reduceSub, Int.reduceMul, Int.reduceNeg, Int.reducePow, Int.reduceLT, Int.reduceLE, Int.reduceEq, Int.reduceNe, Int.reduceToNat, Int.toNat_natCast, Nat.zero_add, Nat.add_zero, Nat.mul_one, Nat.one_mul, Bool.not_true, Bool.not_false, ne_eq, not_true_eq_false, not_false_eq_true, Bool.false_eq_true, h1, h2, hr.len]
  have hfail : ∀ (p r : List Nat), L.drop a.toNat = p ++ r → (∀ c ∈ p, 128 ≤ c) → (r = [] ∨ p.length = 10) → K (decV (0, 0, false)) h := fun p r hp hc hr => by
    rw [decS_none (by rw [hp]; exact cut_none p r 10 hc hr)] at hK; exact hK h (Fr.refl _ _)
  refine join_r (fun J => ∀ (p r : List Nat), L.drop a.toNat = p ++ r → (∀ c ∈ p, 128 ≤ c) → (r = [] ∨ p.length = 10) → J h) hfail ?_
  intro J hJ
  refine loop_r 10 (fun k l h' => ∃ (x u : Int) (p r : List Nat), l = [.int .u64 x, .int .u64 u, .int .i64 (a + p.length)] ∧ h' = h ∧ L.drop a.toNat = p ++ r ∧ p.length ≤ 10 ∧ (∀ c ∈ p, 128 ≤ c) ∧ (p.length ≤ 9 → x = val p ∧ u = ((128 ^ p.length : Nat) : Int)) ∧ k = 10 - p.length)
    ⟨0, 1, [], L.drop a.toNat, by simp, rfl, rfl, by simp, by simp, by simp [val], rfl⟩ ?_
  rintro k l h' ⟨x, u, p, r, rfl, rfl, hp, hp10, hc, hx, rfl⟩
  have hlen := congrArg List.length hp
  simp only [List.length_drop, List.length_append] at hlen
  have e10 : IntKind.i64.wrap (a + 10) = a + 10 := i64_id (by omega) (by omega)
  by_cases g1 : a + (p.length : Int) < L.length
  · by_cases g2 : a + (p.length : Int) < a + 10
    · obtain ⟨d, r, rfl⟩ : ∃ d r', r = d :: r' := by
        cases r with
        | nil => simp at hlen; omega
        | cons d r => exact ⟨d, r, rfl⟩
      have hat : L[(a + p.length).toNat]? = some d := by
        have : (L.drop a.toNat)[p.length]? = some d := by rw [hp, List.getElem?_append_right (by omega)]; simp
        rw [List.getElem?_drop] at this
        rw [← this]; congr 1; omega
      have hd := hL d (List.mem_of_getElem? hat)
      obtain ⟨b, o, q1, q2⟩ := hr.at (i := a + p.length) (x := .int .u8 (d : Nat)) (by omega) (by omega) (by simp only [bc, List.getElem?_map, hat, Option.map_some])
      obtain ⟨rfl, rfl⟩ := hx (by omega)
      have hvl := val_lt p
      have e0 : (d : Int).tmod 128 = ((d % 128 : Nat) : Int) := by rw [Int.tmod_eq_emod_of_nonneg (by omega)]; omega
      have e3 : IntKind.u64.wrap ((d % 128 : Nat) : Int) = ((d % 128 : Nat) : Int) := u64_id (by omega) (by omega)
      have e4 : IntKind.u64.wrap ((val p : Int) + IntKind.u64.wrap (((d % 128 : Nat) : Int) * ((128 ^ p.length : Nat) : Int))) = ((val (p ++ [d]) % 2 ^ 64 : Nat) : Int) := by
        rw [val_append, ← Int.natCast_mul, u64_wrap, u64_wrap, Nat.mul_comm]
        omega
      have e9 : IntKind.i64.wrap (a + (p.length : Int) + 1) = a + (p ++ [d]).length := by rw [i64_id (by omega) (by omega)]; simp; omega
      by_cases hds : d < 128
      · have hds' : decide ((128 : Int) ≤ d) = false := by simp; omega
        have hcut : cut (L.drop a.toNat) 10 = some (p ++ [d]) := by rw [hp]; exact cut_some p d r 10 hc hds (by omega)
        generalize hX : val (p ++ [d]) % 2 ^ 64 = X at e4
        have hX1 : X < 2 ^ 64 := by omega
        have e5 : IntKind.u64.wrap ((X : Int).tdiv 2) = ((X / 2 : Nat) : Int) := by rw [Int.tdiv_eq_ediv_of_nonneg (by omega), u64_id (by omega) (by omega)]; omega
        have e6 : IntKind.i64.wrap ((X / 2 : Nat) : Int) = ((X / 2 : Nat) : Int) := i64_id (by omega) (by omega)
        have e7 : (X : Int).tmod 2 = ((X % 2 : Nat) : Int) := by rw [Int.tmod_eq_emod_of_nonneg (by omega)]; omega
        simp only [go_sem, reduceIte, Nat.reduceAdd, Nat.reduceSub, Nat.reduceMul, Nat.reducePow, Nat.reduceLT, Nat.reduceLeDiff, Nat.reduceEqDiff, Int.reduceAdd, Int.reduceSub, Int.reduceMul, Int.reduceNeg, Int.reducePow, Int.reduceLT, Int.reduceLE, Int.reduceEq, Int.reduceNe, Int.reduceToNat, Int.toNat_natCast, Nat.zero_add, Nat.add_zero, Nat.mul_one, Nat.one_mul, Bool.not_true, Bool.not_false, ne_eq, not_true_eq_false, not_false_eq_true, Bool.false_eq_true, g1, g2, e10, q1, q2, e0, e3, e4, hds', e5, e6, e7]
        refine join_r (fun J' => J' (.int .i64 (unz X)) h') ?_ ?_
        · simp only [go_sem, reduceIte, Nat.reduceAdd, Nat.reduceSub, Nat.reduceMul, Nat.reducePow, Nat.reduceLT, Nat.reduceLeDiff, Nat.reduceEqDiff, Int.reduceAdd, Int.reduceSub, Int.reduceMul, Int.reduceNeg, Int.reducePow, Int.reduceLT, Int.reduceLE, Int.reduceEq, Int.reduceNe, Int.reduceToNat, Int.toNat_natCast, Nat.zero_add, Nat.add_zero, Nat.mul_one, Nat.one_mul, Bool.not_true, Bool.not_false, ne_eq, not_true_eq_false, not_false_eq_true, Bool.false_eq_true, e9]
          obtain ⟨v', w1, w2⟩ := hr.slice (k := .i64) (k' := .i64) (i := a) (j := a + (p ++ [d]).length) (by omega) (by omega) (by simp; omega) (by omega)
          have hsl : (L.drop a.toNat).take ((a + (p ++ [d]).length).toNat - a.toNat) = p ++ [d] := by
            rw [hp, show p ++ d :: r = (p ++ [d]) ++ r by simp, List.take_append_of_le_length (by simp; omega), List.take_of_length_le (by simp; omega)]
          rw [Nat.mul_one, Nat.mul_one, bc_drop, hsl] at w2
          have hle : (a + ((p ++ [d]).length : Int)).toNat - a.toNat = (p ++ [d]).length := by simp; omega
          rw [hle] at w2
          simp only [go_sem, reduceIte, Nat.reduceAdd, Nat.reduceSub, Nat.reduceMul, Nat.reducePow, Nat.reduceLT, Nat.reduceLeDiff, Nat.reduceEqDiff, Int.reduceAdd, Int.reduceSub, Int.reduceMul, Int.reduceNeg, Int.reducePow, Int.reduceLT, Int.reduceLE, Int.reduceEq, Int.reduceNe, Int.reduceToNat, Int.toNat_natCast, Nat.zero_add, Nat.add_zero, Nat.mul_one, Nat.one_mul, Bool.not_true, Bool.not_false, ne_eq, not_true_eq_false, not_false_eq_true, Bool.false_eq_true, w1, w2.b2s]
          refine rput_c (by unfold unz; split <;> omega) (by unfold unz; split <;> omega) fun v2 h2 o1 o2 => ?_
          rw [zig_unz] at o1
          simp only [go_sem, reduceIte, Nat.reduceAdd, Nat.reduceSub, Nat.reduceMul, Nat.reducePow, Nat.reduceLT, Nat.reduceLeDiff, Nat.reduceEqDiff, Int.reduceAdd, Int.reduceSub, Int.reduceMul, Int.reduceNeg, Int.reducePow, Int.reduceLT, Int.reduceLE, Int.reduceEq, Int.reduceNe, Int.reduceToNat, Int.toNat_natCast, Nat.zero_add, Nat.add_zero, Nat.mul_one, Nat.one_mul, Bool.not_true, Bool.not_false, ne_eq, not_true_eq_false, not_false_eq_true, Bool.false_eq_true, (w2.fr o2).b2s, o1.row.b2s]
          by_cases heq : putL X = p ++ [d]
          · have hv := congrArg val heq
            rw [val_putL] at hv
            have hgood : decS L a = (unz (val (p ++ [d])), a + (p ++ [d]).length, true) := decS_good (by omega) (by omega) hcut ⟨by rw [← hv]; exact heq, by omega⟩
            have hd1 : decide (List.map UInt8.ofNat (putL X) = List.map UInt8.ofNat (p ++ [d])) = true := by simp only [heq, decide_true]
            simp only [go_sem, reduceIte, Nat.reduceAdd, Nat.reduceSub, Nat.reduceMul, Nat.reducePow, Nat.reduceLT, Nat.reduceLeDiff, Nat.reduceEqDiff, Int.reduceAdd, Int.reduceSub, Int.reduceMul, Int.reduceNeg, Int.reducePow, Int.reduceLT, Int.reduceLE, Int.reduceEq, Int.reduceNe, Int.reduceToNat, Int.toNat_natCast, Nat.zero_add, Nat.add_zero, Nat.mul_one, Nat.one_mul, Bool.not_true, Bool.not_false, ne_eq, not_true_eq_false, not_false_eq_true, Bool.false_eq_true, hd1, heq]
            have := hK h2 o2
            rw [hgood, ← hv] at this
            exact this
          · have hf : decS L a = (0, 0, false) := by
              refine decS_bad hcut fun ⟨q, q'⟩ => heq ?_
              rw [← hX, Nat.mod_eq_of_lt q']; exact q
            have hne : ¬ List.map UInt8.ofNat (putL X) = List.map UInt8.ofNat (p ++ [d]) := fun q => heq (ofNat_inj (putL_lt X) (by
              intro c hcm
              have : c ∈ L.drop a.toNat := by rw [hp, show p ++ d :: r = (p ++ [d]) ++ r by simp]; exact List.mem_append_left _ hcm
              exact hL c (List.mem_of_mem_drop this)) q)
            simp only [go_sem, reduceIte, Nat.reduceAdd, Nat.reduceSub, Nat.reduceMul, Nat.reducePow, Nat.reduceLT, Nat.reduceLeDiff, Nat.reduceEqDiff, Int.reduceAdd, Int.reduceSub, Int.reduceMul, Int.reduceNeg, Int.reducePow, Int.reduceLT, Int.reduceLE, Int.reduceEq, Int.reduceNe, Int.reduceToNat, Int.toNat_natCast, Nat.zero_add, Nat.add_zero, Nat.mul_one, Nat.one_mul, Bool.not_true, Bool.not_false, ne_eq, not_true_eq_false, not_false_eq_true, Bool.false_eq_true, hne]
            have := hK h2 o2
            rw [hf] at this
            exact this
        · intro J' hJ'
          by_cases hodd : X % 2 = 1
          · have q : ((X % 2 : Nat) : Int) = 1 := by omega
            have : IntKind.i64.wrap (IntKind.i64.wrap (0 - ((X / 2 : Nat) : Int)) - 1) = unz X := by
              rw [i64_id (n := 0 - _) (by omega) (by omega), i64_id (by omega) (by omega)]; unfold unz; rw [if_pos hodd]; omega
            simp only [go_sem, reduceIte, Nat.reduceAdd, Nat.reduceSub, Nat.reduceMul, Nat.reducePow, Nat.reduceLT, Nat.reduceLeDiff, Nat.reduceEqDiff, Int.reduceAdd, Int.reduceSub, Int.reduceMul, Int.reduceNeg, Int.reducePow, Int.reduceLT, Int.reduceLE, Int.reduceEq, Int.reduceNe, Int.reduceToNat, Int.toNat_natCast, Nat.zero_add, Nat.add_zero, Nat.mul_one, Nat.one_mul, Bool.not_true, Bool.not_false, ne_eq, not_true_eq_false, not_false_eq_true, Bool.false_eq_true, q, this]
            exact hJ'
          · have q : ¬ ((X % 2 : Nat) : Int) = 1 := by omega
            have : ((X / 2 : Nat) : Int) = unz X := by unfold unz; rw [if_neg hodd]
            simp only [go_sem, reduceIte, Nat.reduceAdd, Nat.reduceSub, Nat.reduceMul, Nat.reducePow, Nat.reduceLT, Nat.reduceLeDiff, Nat.reduceEqDiff, Int.reduceAdd, Int.reduceSub, Int.reduceMul, Int.reduceNeg, Int.reducePow, Int.reduceLT, Int.reduceLE, Int.reduceEq, Int.reduceNe, Int.reduceToNat, Int.toNat_natCast, Nat.zero_add, Nat.add_zero, Nat.mul_one, Nat.one_mul, Bool.not_true, Bool.not_false, ne_eq, not_true_eq_false, not_false_eq_true, Bool.false_eq_true, q, this]
            exact hJ'
      · have hds' : decide ((128 : Int) ≤ d) = true := by simp; omega
        simp only [go_sem, reduceIte, Nat.reduceAdd, Nat.reduceSub, Nat.reduceMul, Nat.reducePow, Nat.reduceLT, Nat.reduceLeDiff, Nat.reduceEqDiff, Int.reduceAdd, Int.reduceSub, Int.reduceMul, Int.reduceNeg, Int.reducePow, Int.reduceLT, Int.reduceLE, Int.reduceEq, Int.reduceNe, Int.reduceToNat, Int.toNat_natCast, Nat.zero_add, Nat.add_zero, Nat.mul_one, Nat.one_mul, Bool.not_true, Bool.not_false, ne_eq, not_true_eq_false, not_false_eq_true, Bool.false_eq_true, g1, g2, e10, q1, q2, e0, e3, e4, hds', e9]
        refine ⟨10 - (p ++ [d]).length, by simp; omega, _, _, p ++ [d], r, rfl, by rw [hp]; simp, by simp; omega, ?_, ?_, rfl⟩
        · intro c hcm
          rcases List.mem_append.1 hcm with q | q
          · exact hc c q
          · simp at q; omega
        · intro h9
          have hv := val_lt (p ++ [d])
          have h64 : 128 ^ (p ++ [d]).length ≤ 128 ^ 9 := Nat.pow_le_pow_right (by decide) h9
          have e99 : (128 : Nat) ^ 9 = 9223372036854775808 := by decide
          refine ⟨by rw [Nat.mod_eq_of_lt (by omega)], ?_⟩
          have e : ((128 ^ p.length : Nat) : Int) * 128 = ((128 ^ (p ++ [d]).length : Nat) : Int) := by rw [List.length_append, List.length_singleton, Nat.pow_succ]; simp
          rw [e]; exact u64_id (by omega) (by omega)
    · simp only [go_sem, reduceIte, Nat.reduceAdd, Nat.reduceSub, Nat.reduceMul, Nat.reducePow, Nat.reduceLT, Nat.reduceLeDiff, Nat.reduceEqDiff, Int.reduceAdd, Int.reduceSub, Int.reduceMul, Int.reduceNeg, Int.reducePow, Int.reduceLT, Int.reduceLE, Int.reduceEq, Int.reduceNe, Int.reduceToNat, Int.toNat_natCast, Nat.zero_add, Nat.add_zero, Nat.mul_one, Nat.one_mul, Bool.not_true, Bool.not_false, ne_eq, not_true_eq_false, not_false_eq_true, Bool.false_eq_true, g1, g2, e10]
      exact hJ p r hp hc (.inr (by omega))
  · simp only [go_sem, reduceIte, Nat.reduceAdd, Nat.reduceSub, Nat.reduceMul, Nat.reducePow, Nat.reduceLT, Nat.reduceLeDiff, Nat.reduceEqDiff, Int.reduceAdd, Int.reduceSub, Int.reduceMul, Int.reduceNeg, Int.reducePow, Int.reduceLT, Int.reduceLE, Int.reduceEq, Int.reduceNe, Int.reduceToNat, Int.toNat_natCast, Nat.zero_add, Nat.add_zero, Nat.mul_one, Nat.one_mul, Bool.not_true, Bool.not_false, ne_eq, not_true_eq_false, not_false_eq_true, Bool.false_eq_true, g1]
    exact hJ p r hp hc (.inl (List.eq_nil_of_length_eq_zero (by omega)))
/-- A row of bytes that is given. -/
theorem lies_bytes {l : List AV} (hl : Lies h (.sl (.int .u8)) l) : ∃ v L, l = [v] ∧ Row h v L.length 1 (bc L) ∧ (∀ d ∈ L, d < 256) ∧ L.length ≤ reachBytes := by
  simp only [Lies] at hl
  rcases hl with rfl | ⟨b, ei, css, rfl, hb, hm, hcs⟩
  · exact ⟨.nilsl, [], rfl, ⟨rfl, .inl ⟨rfl, rfl⟩⟩, by simp, by simp⟩
  · obtain ⟨L, hL, hfl, hlen⟩ : ∃ L : List Nat, (∀ d ∈ L, d < 256) ∧ css.flatten = bc L ∧ L.length = css.length := by
      clear hb hm
      induction css with
      | nil => exact ⟨[], by simp, rfl, rfl⟩
      | cons c css ih =>
        obtain ⟨L, i1, i2, i3⟩ := ih fun c hc => hcs c (by simp [hc])
        obtain ⟨n, rfl, hw⟩ := hcs c (by simp)
        have hn : 0 ≤ n ∧ n ≤ 255 := by simpa [Lit.wf, IntKind.min, IntKind.max, IntKind.signed, IntKind.bits] using hw
        refine ⟨n.toNat :: L, ?_, ?_, by simp [i3]⟩
        · intro d hd
          rcases List.mem_cons.1 hd with rfl | hd
          · omega
          · exact i1 d hd
        · have : ((n.toNat : Nat) : Int) = n := by omega
          simp [bc, i2, this]
    refine ⟨_, L, rfl, ⟨by simp [bc], .inr ⟨b, 0, .any, by rw [hlen], rfl, ?_⟩⟩, hL, by omega⟩
    refine H.read_eq hb (by rw [hfl]; simp [bc]) ?_
    rw [hfl, List.drop_zero, List.take_of_length_le (by simp [bc])]
theorem wordBytes_c {n : Int} (n0 : -9223372036854775808 ≤ n) (n1 : n ≤ 9223372036854775807) {v : AV} {L : List Nat} (hr : Row h v L.length 1 (bc L)) (hL : ∀ d ∈ L, d < 256) (hm : L.length < 4611686018427387904) {a : Int} (ha0 : -9223372036854775808 ≤ a) (ha1 : a < 9223372036854775808) :
    C 7 [.int .i64 n, v, .int .i64 a] h yes := by
  refine run7 ?_
  unfold sh7
  refine get_c hr hL (by omega) ha0 ha1 ?_
  simp only [decV, go_sem, reduceIte, Nat.reduceAdd, Nat.reduceSub, Nat.reduceMul, Nat.reducePow, Nat.reduceLT, Nat.reduceLeDiff, Nat.reduceEqDiff, Int.reduceAdd, Int.reduceSub, Int.reduceMul, Int.reduceNeg, Int.reducePow, Int.reduceLT, Int.reduceLE, Int.reduceEq, Int.reduceNe, Int.reduceToNat, Int.toNat_natCast, Nat.zero_add, Nat.add_zero, Nat.mul_one, Nat.one_mul, Bool.not_true, Bool.not_false, ne_eq, not_true_eq_false, not_false_eq_true, Bool.false_eq_true]
  refine rget_c hr hL hm ha0 ha1 fun h1 f1 => ?_
  simp only [decV, go_sem, reduceIte, Nat.reduceAdd, Nat.reduceSub, Nat.reduceMul, Nat.reducePow, Nat.reduceLT, Nat.reduceLeDiff, Nat.reduceEqDiff, Int.reduceAdd, Int.reduceSub, Int.reduceMul, Int.reduceNeg, Int.reducePow, Int.reduceLT, Int.reduceLE, Int.reduceEq, Int.reduceNe, Int.reduceToNat, Int.toNat_natCast, Nat.zero_add, Nat.add_zero, Nat.mul_one, Nat.one_mul, Bool.not_true, Bool.not_false, ne_eq, not_true_eq_false, not_false_eq_true, Bool.false_eq_true]
  refine put_c n0 n1 fun v1 h2 o1 f2 => ?_
  simp only [go_sem, reduceIte, Nat.reduceAdd, Nat.reduceSub, Nat.reduceMul, Nat.reducePow, Nat.reduceLT, Nat.reduceLeDiff, Nat.reduceEqDiff, Int.reduceAdd, Int.reduceSub, Int.reduceMul, Int.reduceNeg, Int.reducePow, Int.reduceLT, Int.reduceLE, Int.reduceEq, Int.reduceNe, Int.reduceToNat, Int.toNat_natCast, Nat.zero_add, Nat.add_zero, Nat.mul_one, Nat.one_mul, Bool.not_true, Bool.not_false, ne_eq, not_true_eq_false, not_false_eq_true, Bool.false_eq_true, o1.row.b2s]
  refine rput_c n0 n1 fun v2 h3 o2 f3 => ?_
  simp only [go_sem, reduceIte, Nat.reduceAdd, Nat.reduceSub, Nat.reduceMul, Nat.reducePow, Nat.reduceLT, Nat.reduceLeDiff, Nat.reduceEqDiff, Int.reduceAdd, Int.reduceSub, Int.reduceMul, Int.reduceNeg, Int.reducePow, Int.reduceLT, Int.reduceLE, Int.reduceEq, Int.reduceNe, Int.reduceToNat, Int.toNat_natCast, Nat.zero_add, Nat.add_zero, Nat.mul_one, Nat.one_mul, Bool.not_true, Bool.not_false, ne_eq, not_true_eq_false, not_false_eq_true, Bool.false_eq_true, (o1.row.fr f3).b2s, o2.row.b2s]
  exact lives_c fun h' _ => rfl
theorem law7 (h : H) (ls : List (List AV)) (hl : LiesA h [.int .i64, .sl (.int .u8), .int .i64] ls) : C 7 (argsOf [.int .i64, .sl (.int .u8), .int .i64] ls) h yes := by
  obtain ⟨l0, ls, rfl, h0, hl⟩ := liesA_cons hl
  obtain ⟨l1, ls, rfl, h1, hl⟩ := liesA_cons hl
  obtain ⟨l2, ls, rfl, h2, hl⟩ := liesA_cons hl
  obtain rfl := liesA_nil hl
  obtain ⟨n, rfl, n0, n1⟩ := lies_i64 h0
  obtain ⟨v, L, rfl, hr, hL, hm⟩ := lies_bytes h1
  obtain ⟨a, rfl, a0, a1⟩ := lies_i64 h2
  have : reachBytes ≤ 4611686018427387903 := by decide
  exact wordBytes_c n0 (by omega) hr hL (by omega) a0 a1
end
end Go.Proofs.Ytljkkfcokpimkaa.X
