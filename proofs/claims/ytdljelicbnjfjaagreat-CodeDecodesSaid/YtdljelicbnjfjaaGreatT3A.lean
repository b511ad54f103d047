/- What the law law3 needs: texts of one's own, put together; functions' contracts and plain facts. -/
import Derived.Test.YtdljelicbnjfjaaGreatT3Ft
import Derived.Test.YtdljelicbnjfjaaGreatXr
import Derived.RowKit
import Derived.Laws.BitsLemmas
import Derived.Test.YtdljelicbnjfjaaGreatXu
namespace Go.Proofs.YtdljelicbnjfjaaGreat.X
open Go Go.RowKit
theorem u64_wrap (n : Int) : IntKind.u64.wrap n = n % 18446744073709551616 := by simp [IntKind.wrap, IntKind.bits, IntKind.signed]
/-! ### bits -/
theorem wraps_u64 (n : Int) (h₀ : 0 ≤ n) (h₁ : n < 2 ^ 64) : IntKind.u64.wrap n = n := by rw [u64_wrap]; omega
theorem and_low (x : Int) (i : Nat) (hi : i ≤ 64) (h₀ : 0 ≤ x) (h₁ : x ≤ 18446744073709551615) : bits .and .u64 x (2 ^ i - 1) = x % 2 ^ i :=
  bits_mask .u64 64 (by decide) wraps_u64 i hi x h₀ (by omega)
theorem and1 (x : Int) (h₀ : 0 ≤ x) (h₁ : x ≤ 18446744073709551615) : bits .and .u64 x 1 = x % 2 := and_low x 1 (by decide) h₀ h₁
theorem or_comm (x y : Int) : bits .or .u64 x y = bits .or .u64 y x := by
  show IntKind.u64.wrap ((BitVec.ofInt _ x ||| BitVec.ofInt _ y).toNat : Int) = IntKind.u64.wrap ((BitVec.ofInt _ y ||| BitVec.ofInt _ x).toNat : Int)
  rw [BitVec.or_comm]
theorem or_join (i : Nat) (x y : Int) (hx₀ : 0 ≤ x) (hx : x % 2 ^ i = 0) (hx₁ : x ≤ 18446744073709551615) (hy₀ : 0 ≤ y) (hy : y < 2 ^ i) (hy₁ : y ≤ 18446744073709551615) : bits .or .u64 x y = x + y :=
  bits_join .u64 64 (by decide) wraps_u64 i x y hx₀ hx (by omega) hy₀ hy (by omega)
end Go.Proofs.YtdljelicbnjfjaaGreat.X
namespace Go.Proofs.YtdljelicbnjfjaaGreat.X
def putL (x : Nat) : List Nat := if x < 128 then [x] else (x % 128 + 128) :: putL (x / 128)
def val : List Nat → Nat
  | [] => 0
  | d :: l => d % 128 + 128 * val l
def cut : List Nat → Nat → Option (List Nat)
  | [], _ => none
  | _ :: _, 0 => none
  | d :: l, k + 1 => if d < 128 then some [d] else (cut l k).map (d :: ·)
def zig (n : Int) : Nat := if n < 0 then (-2 * n - 1).toNat else (2 * n).toNat
def unz (x : Nat) : Int := if x % 2 = 1 then -((x / 2 : Nat) : Int) - 1 else ((x / 2 : Nat) : Int)
def decS (l : List Nat) (at_ : Int) : Int × Int × Bool :=
  if at_ < 0 ∨ (l.length : Int) ≤ at_ then (0, 0, false) else
  match cut (l.drop at_.toNat) 10 with
  | none => (0, 0, false)
  | some t => if putL (val t) = t ∧ val t < 2 ^ 64 then (unz (val t), at_ + t.length, true) else (0, 0, false)
theorem unz_zig (n : Int) : unz (zig n) = n := by unfold unz zig; split <;> split <;> omega
theorem zig_lt {n : Int} (h0 : -9223372036854775808 ≤ n) (h1 : n ≤ 9223372036854775807) : zig n < 2 ^ 64 := by unfold zig; split <;> omega
theorem zig_unz (x : Nat) : zig (unz x) = x := by unfold unz zig; split <;> split <;> omega
theorem val_putL (x : Nat) : val (putL x) = x := by
  induction x using putL.induct with
  | case1 x h => rw [putL, if_pos h]; simp [val]; omega
  | case2 x h ih =>
    rw [putL, if_neg h]
    simp only [val, ih]
    omega
theorem putL_len {x : Nat} : ∀ k, x < 128 ^ (k + 1) → (putL x).length ≤ k + 1 := by
  induction x using putL.induct with
  | case1 x h => intro k _; rw [putL, if_pos h]; simp
  | case2 x h ih =>
    intro k hk
    rw [putL, if_neg h]
    cases k with
    | zero => simp at hk; omega
    | succ k =>
      have := ih k (by rw [Nat.pow_succ] at hk; exact Nat.div_lt_of_lt_mul (by rw [Nat.mul_comm]; exact hk))
      simpa using this
theorem cut_putL (x : Nat) (r : List Nat) : ∀ k, (putL x).length ≤ k → cut (putL x ++ r) k = some (putL x) := by
  induction x using putL.induct with
  | case1 x h =>
    intro k hk
    rw [putL, if_pos h] at hk ⊢
    cases k with
    | zero => simp at hk
    | succ k => simp [cut, h]
  | case2 x h ih =>
    intro k hk
    rw [putL, if_neg h] at hk ⊢
    cases k with
    | zero => simp at hk
    | succ k =>
      simp only [List.cons_append, cut]
      rw [if_neg (by omega), ih k (by simpa using hk)]
      rfl
theorem cut_some (p : List Nat) (d : Nat) (r : List Nat) : ∀ k, (∀ c ∈ p, 128 ≤ c) → d < 128 → p.length < k → cut (p ++ d :: r) k = some (p ++ [d]) := by
  induction p with
  | nil =>
    intro k _ hd hk
    cases k with
    | zero => simp at hk
    | succ k => simp [cut, hd]
  | cons c p ih =>
    intro k hp hd hk
    cases k with
    | zero => simp at hk
    | succ k =>
      simp only [List.cons_append, cut]
      rw [if_neg (by have := hp c (by simp); omega), ih k (fun c hc => hp c (by simp [hc])) hd (by simpa using hk)]
      rfl
theorem cut_none (p : List Nat) (r : List Nat) : ∀ k, (∀ c ∈ p, 128 ≤ c) → (r = [] ∨ p.length = k) → cut (p ++ r) k = none := by
  induction p with
  | nil =>
    intro k _ hr
    rcases hr with rfl | hr
    · cases k <;> rfl
    · simp at hr; subst hr; cases r <;> rfl
  | cons c p ih =>
    intro k hp hr
    cases k with
    | zero => rfl
    | succ k =>
      simp only [List.cons_append, cut]
      rw [if_neg (by have := hp c (by simp); omega), ih k (fun c hc => hp c (by simp [hc])) (by simpa using hr)]
      rfl
theorem val_append (p : List Nat) (d : Nat) : val (p ++ [d]) = val p + 128 ^ p.length * (d % 128) := by
  induction p with
  | nil => simp [val]
  | cons c p ih =>
    simp only [List.cons_append, val, ih, List.length_cons, Nat.pow_succ]
    rw [Nat.mul_add, ← Nat.add_assoc]
    congr 1
    rw [Nat.mul_comm (128 ^ p.length) 128, Nat.mul_assoc]
theorem val_lt (p : List Nat) : val p < 128 ^ p.length := by
  induction p with
  | nil => simp [val]
  | cons c p ih =>
    simp only [val, List.length_cons, Nat.pow_succ]
    omega
theorem putL_last {x : Nat} : ∀ q, putL x = q ++ [0] → q = [] := by
  induction x using putL.induct with
  | case1 x h =>
    intro q hq
    rw [putL, if_pos h] at hq
    cases q with
    | nil => rfl
    | cons a q => simp at hq
  | case2 x h ih =>
    intro q hq
    rw [putL, if_neg h] at hq
    cases q with
    | nil => simp at hq
    | cons a q =>
      simp only [List.cons_append, List.cons.injEq] at hq
      have := ih q hq.2
      subst this
      have h2 : putL (x / 128) = [0] := by simpa using hq.2
      have h3 := val_putL (x / 128)
      rw [h2] at h3
      simp [val] at h3
      omega
theorem canon (p : List Nat) (d : Nat) : (∀ c ∈ p, 128 ≤ c ∧ c < 256) → d < 128 → (putL (val (p ++ [d])) = p ++ [d] ↔ (p = [] ∨ d ≠ 0)) := by
  intro hp hd
  constructor
  · intro h
    by_cases h0 : d = 0
    · subst h0; exact .inl (putL_last p h)
    · exact .inr h0
  · intro h
    induction p with
    | nil => simp [val]; rw [Nat.mod_eq_of_lt hd, putL, if_pos hd]
    | cons c p ih =>
      have h0 : d ≠ 0 := by simpa using h
      have hc := hp c (by simp)
      have ih := ih (fun c hc => hp c (by simp [hc])) (.inr h0)
      have hpos : 0 < val (p ++ [d]) := by
        rw [val_append, Nat.mod_eq_of_lt hd]
        have : 0 < 128 ^ p.length * d := Nat.mul_pos (Nat.pow_pos (by decide)) (Nat.pos_of_ne_zero h0)
        omega
      simp only [List.cons_append, val]
      rw [putL, if_neg (by omega)]
      have e1 : (c % 128 + 128 * val (p ++ [d])) / 128 = val (p ++ [d]) := by omega
      rw [e1, ih]
      congr 1
      omega
end Go.Proofs.YtdljelicbnjfjaaGreat.X
set_option linter.unusedVariables false
set_option linter.unusedSimpArgs false
set_option maxRecDepth 20000
namespace Go.Proofs.YtdljelicbnjfjaaGreat.X
open Go Go.RowKit
theorem i64_wrap (n : Int) : IntKind.i64.wrap n = wrap64 n := by simp only [IntKind.wrap, wrap64, IntKind.bits, IntKind.signed]; simp; omega
theorem i64_id {n : Int} (h0 : -9223372036854775808 ≤ n) (h1 : n < 9223372036854775808) : IntKind.i64.wrap n = n := by rw [i64_wrap]; unfold wrap64; omega
theorem u64_id {n : Int} (h0 : 0 ≤ n) (h1 : n < 18446744073709551616) : IntKind.u64.wrap n = n := by rw [u64_wrap]; omega
theorem u8_wrap (n : Int) : IntKind.u8.wrap n = n % 256 := IntKind.wrap_u8 n
end Go.Proofs.YtdljelicbnjfjaaGreat.X
set_option linter.unusedVariables false
set_option linter.unusedSimpArgs false
set_option maxRecDepth 20000
namespace Go.Proofs.YtdljelicbnjfjaaGreat.X
open Go Go.RowKit
@[go_sem] theorem fillV_int {z : AV} {k : IntKind} {n : Int} : fillV [z] [(0, 1, .int k n)] = some [.int k n] := by
  simp [fillV, AV.cells, leaves, AV.leaf, overlay]
theorem u8_or128' : ∀ a : Fin 256, bits .or .u8 (a.val : Int) 128 = ((a.val % 128 + 128 : Nat) : Int) := by decide +kernel
theorem u8_or128n {a : Nat} (h : a < 256) : bits .or .u8 (a : Int) 128 = ((a % 128 + 128 : Nat) : Int) := u8_or128' ⟨a, h⟩
theorem u8_and127' : ∀ a : Fin 256, bits .and .u8 (a.val : Int) 127 = ((a.val % 128 : Nat) : Int) := by decide +kernel
theorem u8_and127n {a : Nat} (h : a < 256) : bits .and .u8 (a : Int) 127 = ((a % 128 : Nat) : Int) := u8_and127' ⟨a, h⟩
theorem allones (k : IntKind) : BitVec.ofInt k.bits (if k.signed then -1 else k.max) = BitVec.allOnes k.bits := by cases k <;> decide
theorem xor_u64 {a : Int} (h0 : 0 ≤ a) (h1 : a < 18446744073709551616) : bits .xor .u64 (if IntKind.u64.signed then -1 else IntKind.u64.max) a = 18446744073709551615 - a := by
  show IntKind.u64.wrap ((BitVec.ofInt 64 (if IntKind.u64.signed then -1 else IntKind.u64.max) ^^^ BitVec.ofInt 64 a).toNat : Int) = _
  have e := allones .u64
  rw [show IntKind.u64.bits = 64 from rfl] at e
  rw [e, BitVec.allOnes_xor, BitVec.toNat_not, BitVec.toNat_ofInt, u64_wrap]
  omega
theorem xor_i64 {a : Int} (h0 : -9223372036854775808 ≤ a) (h1 : a < 9223372036854775808) : bits .xor .i64 (if IntKind.i64.signed then -1 else IntKind.i64.max) a = -a - 1 := by
  show IntKind.i64.wrap ((BitVec.ofInt 64 (if IntKind.i64.signed then -1 else IntKind.i64.max) ^^^ BitVec.ofInt 64 a).toNat : Int) = _
  have e := allones .i64
  rw [show IntKind.i64.bits = 64 from rfl] at e
  rw [e, BitVec.allOnes_xor, BitVec.toNat_not, BitVec.toNat_ofInt, i64_wrap]
  unfold wrap64
  omega
theorem putL_ge {x : Nat} (h : ¬ x < 128) : putL x = (x % 128 + 128) :: putL (x / 128) := by rw [putL, if_neg h]
theorem putL_small {x : Nat} (h : x < 128) : putL x = [x] := by rw [putL, if_pos h]
theorem putL_len64 {x : Nat} (h : x < 2 ^ 64) : (putL x).length ≤ 10 := putL_len 9 (Nat.lt_of_lt_of_le h (by decide))
section
variable {h : H}
def Putting (h : H) (y : Nat) (x : Nat) (v : AV) (h' : H) : Prop := ∃ pre : List Nat, Own h h' 5 1 v pre.length (bc pre) ∧ Fr [] h h' ∧ pre ++ putL x = putL y
theorem put_c {n : Int} (h0 : -9223372036854775808 ≤ n) (h1 : n ≤ 9223372036854775807) {K : AV → H → Prop}
    (hK : ∀ v h', Own h h' 5 1 v (putL (zig n)).length (bc (putL (zig n))) → Fr [] h h' → K v h') : C 144 [.int .i64 n] h K := by
  refine run144 ?_
  have hz := zig_lt h0 h1
  have hlen := putL_len64 hz
  simp only [sh144, go_sem, reduceIte, Nat.reduceAdd, Nat.reduceSub, Nat.reduceMul, Nat.reducePow, Nat.reduceLT, Nat.reduceLeDiff, Nat.reduceEqDiff, Int.reduceAdd, Int.reduceSub, Int.reduceMul, Int.reduceNeg, Int.reducePow, Int.reduceLT, Int.reduceLE, Int.reduceEq, Int.reduceNe, Int.reduceToNat, Int.toNat_natCast, Nat.zero_add, Nat.add_zero, Nat.mul_one, Nat.one_mul, Bool.not_true, Bool.not_false, ne_eq, not_true_eq_false, not_false_eq_true, Bool.false_eq_true]
  refine join_r (fun J => J (.int .u64 (zig n)) h) ?_ ?_
  · refine join_r (fun J => ∀ x v h', x < 128 → Putting h (zig n) x v h' → J (.int .u64 (x : Nat)) v h') ?_ ?_
    · rintro x v h' hx ⟨pre, ho, hf, hp⟩
      have e : IntKind.u8.wrap (x : Int) = x := by rw [u8_wrap]; omega
      simp only [go_sem, reduceIte, Nat.reduceAdd, Nat.reduceSub, Nat.reduceMul, Nat.reducePow, Nat.reduceLT, Nat.reduceLeDiff, Nat.reduceEqDiff, Int.reduceAdd, Int.reduceSub, Int.reduceMul, Int.reduceNeg, Int.reducePow, Int.reduceLT, Int.reduceLE, Int.reduceEq, Int.reduceNe, Int.reduceToNat, Int.toNat_natCast, Nat.zero_add, Nat.add_zero, Nat.mul_one, Nat.one_mul, Bool.not_true, Bool.not_false, ne_eq, not_true_eq_false, not_false_eq_true, Bool.false_eq_true, e]
      rw [putL_small hx] at hp
      refine append_one (esz := 1) ho rfl (by decide) (bc_leaves _) rfl hf ?_ fun v' h'' a1 a2 _ => hK v' h'' ?_ a2
      · have := congrArg List.length hp
        simp at this
        unfold most; omega
      · rw [← hp, bc_append, List.length_append]; exact a1
    · intro J hJ
      refine loop_r (zig n) (fun k l h' => ∃ x v, l = [.int .u64 (x : Nat), v] ∧ x < 2 ^ 64 ∧ Putting h (zig n) x v h' ∧ x = k) ⟨zig n, .nilsl, rfl, hz, ⟨[], Own.nil .., Fr.refl _ _, rfl⟩, rfl⟩ ?_
      rintro k l h' ⟨x, v, rfl, hx, ⟨pre, ho, hf, hp⟩, rfl⟩
      simp only [go_sem, reduceIte, Nat.reduceAdd, Nat.reduceSub, Nat.reduceMul, Nat.reducePow, Nat.reduceLT, Nat.reduceLeDiff, Nat.reduceEqDiff, Int.reduceAdd, Int.reduceSub, Int.reduceMul, Int.reduceNeg, Int.reducePow, Int.reduceLT, Int.reduceLE, Int.reduceEq, Int.reduceNe, Int.reduceToNat, Int.toNat_natCast, Nat.zero_add, Nat.add_zero, Nat.mul_one, Nat.one_mul, Bool.not_true, Bool.not_false, ne_eq, not_true_eq_false, not_false_eq_true, Bool.false_eq_true]
      split
      · rename_i hge
        have hge : ¬ x < 128 := by omega
        have e : IntKind.u8.wrap (x : Int) = ((x % 256 : Nat) : Int) := by rw [u8_wrap]; omega
        have e2 : bits .or .u8 ((x % 256 : Nat) : Int) 128 = ((x % 128 + 128 : Nat) : Int) := by rw [u8_or128n (by omega)]; congr 1; omega
        simp only [go_sem, reduceIte, Nat.reduceAdd, Nat.reduceSub, Nat.reduceMul, Nat.reducePow, Nat.reduceLT, Nat.reduceLeDiff, Nat.reduceEqDiff, Int.reduceAdd, Int.reduceSub, Int.reduceMul, Int.reduceNeg, Int.reducePow, Int.reduceLT, Int.reduceLE, Int.reduceEq, Int.reduceNe, Int.reduceToNat, Int.toNat_natCast, Nat.zero_add, Nat.add_zero, Nat.mul_one, Nat.one_mul, Bool.not_true, Bool.not_false, ne_eq, not_true_eq_false, not_false_eq_true, Bool.false_eq_true, e, e2]
        rw [putL_ge hge] at hp
        refine append_one (esz := 1) ho rfl (by decide) (bc_leaves _) rfl hf ?_ fun v' h'' a1 a2 _ => ?_
        · have := congrArg List.length hp
          simp at this
          unfold most; omega
        · refine ⟨x / 128, by omega, x / 128, v', ?_, by omega, ⟨pre ++ [x % 128 + 128], ?_, a2, ?_⟩, rfl⟩
          · rfl
          · rw [bc_append, List.length_append]; exact a1
          · rw [← hp]; simp
      · rename_i hlt
        exact hJ x v h' (by omega) ⟨pre, ho, hf, hp⟩
  · intro J hJ
    have e1 : IntKind.u64.wrap (IntKind.u64.wrap n * 2) = n * 2 % 18446744073709551616 := by rw [u64_wrap, u64_wrap]; omega
    simp only [go_sem, reduceIte, Nat.reduceAdd, Nat.reduceSub, Nat.reduceMul, Nat.reducePow, Nat.reduceLT, Nat.reduceLeDiff, Nat.reduceEqDiff, Int.reduceAdd, Int.reduceSub, Int.reduceMul, Int.reduceNeg, Int.reducePow, Int.reduceLT, Int.reduceLE, Int.reduceEq, Int.reduceNe, Int.reduceToNat, Int.toNat_natCast, Nat.zero_add, Nat.add_zero, Nat.mul_one, Nat.one_mul, Bool.not_true, Bool.not_false, ne_eq, not_true_eq_false, not_false_eq_true, Bool.false_eq_true, e1]
    split
    · rename_i hn
      rw [xor_u64 (by omega) (by omega)]
      have : 18446744073709551615 - n * 2 % 18446744073709551616 = (zig n : Int) := by unfold zig; rw [if_pos hn]; omega
      rw [this]; exact hJ
    · rename_i hn
      have : n * 2 % 18446744073709551616 = (zig n : Int) := by unfold zig; rw [if_neg hn]; omega
      rw [this]; exact hJ
theorem rput_c {n : Int} (h0 : -9223372036854775808 ≤ n) (h1 : n ≤ 9223372036854775807) {K : AV → H → Prop}
    (hK : ∀ v h', Own h h' 5 1 v (putL (zig n)).length (bc (putL (zig n))) → Fr [] h h' → K v h') : C 140 [.int .i64 n] h K := by
  refine run140 ?_
  have hz := zig_lt h0 h1
  have hlen := putL_len64 hz
  simp only [sh140, go_sem, reduceIte, Nat.reduceAdd, Nat.reduceSub, Nat.reduceMul, Nat.reducePow, Nat.reduceLT, Nat.reduceLeDiff, Nat.reduceEqDiff, Int.reduceAdd, Int.reduceSub, Int.reduceMul, Int.reduceNeg, Int.reducePow, Int.reduceLT, Int.reduceLE, Int.reduceEq, Int.reduceNe, Int.reduceToNat, Int.toNat_natCast, Nat.zero_add, Nat.add_zero, Nat.mul_one, Nat.one_mul, Bool.not_true, Bool.not_false, ne_eq, not_true_eq_false, not_false_eq_true, Bool.false_eq_true]
  refine join_r (fun J => J (.int .u64 (zig n)) h) ?_ ?_
  · refine join_r (fun J => ∀ x v h', x < 128 → Putting h (zig n) x v h' → J (.int .u64 (x : Nat)) v h') ?_ ?_
    · rintro x v h' hx ⟨pre, ho, hf, hp⟩
      have e : IntKind.u8.wrap (x : Int) = x := by rw [u8_wrap]; omega
      simp only [go_sem, reduceIte, Nat.reduceAdd, Nat.reduceSub, Nat.reduceMul, Nat.reducePow, Nat.reduceLT, Nat.reduceLeDiff, Nat.reduceEqDiff, Int.reduceAdd, Int.reduceSub, Int.reduceMul, Int.reduceNeg, Int.reducePow, Int.reduceLT, Int.reduceLE, Int.reduceEq, Int.reduceNe, Int.reduceToNat, Int.toNat_natCast, Nat.zero_add, Nat.add_zero, Nat.mul_one, Nat.one_mul, Bool.not_true, Bool.not_false, ne_eq, not_true_eq_false, not_false_eq_true, Bool.false_eq_true, e]
      rw [putL_small hx] at hp
      refine append_one (esz := 1) ho rfl (by decide) (bc_leaves _) rfl hf ?_ fun v' h'' a1 a2 _ => hK v' h'' ?_ a2
      · have := congrArg List.length hp
        simp at this
        unfold most; omega
      · rw [← hp, bc_append, List.length_append]; exact a1
    · intro J hJ
      refine loop_r (zig n) (fun k l h' => ∃ x v, l = [.int .u64 (x : Nat), v] ∧ x < 2 ^ 64 ∧ Putting h (zig n) x v h' ∧ x = k) ⟨zig n, .nilsl, rfl, hz, ⟨[], Own.nil .., Fr.refl _ _, rfl⟩, rfl⟩ ?_
      rintro k l h' ⟨x, v, rfl, hx, ⟨pre, ho, hf, hp⟩, rfl⟩
      simp only [go_sem, reduceIte, Nat.reduceAdd, Nat.reduceSub, Nat.reduceMul, Nat.reducePow, Nat.reduceLT, Nat.reduceLeDiff, Nat.reduceEqDiff, Int.reduceAdd, Int.reduceSub, Int.reduceMul, Int.reduceNeg, Int.reducePow, Int.reduceLT, Int.reduceLE, Int.reduceEq, Int.reduceNe, Int.reduceToNat, Int.toNat_natCast, Nat.zero_add, Nat.add_zero, Nat.mul_one, Nat.one_mul, Bool.not_true, Bool.not_false, ne_eq, not_true_eq_false, not_false_eq_true, Bool.false_eq_true]
      split
      · rename_i hge
        have hge : ¬ x < 128 := by omega
        have e0 : (x : Int).tmod 128 = ((x % 128 : Nat) : Int) := by rw [Int.tmod_eq_emod_of_nonneg (by omega)]; omega
        have e : IntKind.u8.wrap (IntKind.u64.wrap (((x % 128 : Nat) : Int) + 128)) = ((x % 128 + 128 : Nat) : Int) := by rw [u64_id (by omega) (by omega), u8_wrap]; omega
        have e2 : IntKind.u64.wrap ((x : Int).tdiv 128) = ((x / 128 : Nat) : Int) := by rw [Int.tdiv_eq_ediv_of_nonneg (by omega), u64_id (by omega) (by omega)]; omega
        simp only [go_sem, reduceIte, Nat.reduceAdd, Nat.reduceSub, Nat.reduceMul, Nat.reducePow, Nat.reduceLT, Nat.reduceLeDiff, Nat.reduceEqDiff, Int.reduceAdd, Int.reduceSub, Int.reduceMul, Int.reduceNeg, Int.reducePow, Int.reduceLT, Int.reduceLE, Int.reduceEq, Int.reduceNe, Int.reduceToNat, Int.toNat_natCast, Nat.zero_add, Nat.add_zero, Nat.mul_one, Nat.one_mul, Bool.not_true, Bool.not_false, ne_eq, not_true_eq_false, not_false_eq_true, Bool.false_eq_true, e0, e]
        rw [putL_ge hge] at hp
        refine append_one (esz := 1) ho rfl (by decide) (bc_leaves _) rfl hf ?_ fun v' h'' a1 a2 _ => ?_
        · have := congrArg List.length hp
          simp at this
          unfold most; omega
        · simp only [go_sem, reduceIte, Nat.reduceAdd, Nat.reduceSub, Nat.reduceMul, Nat.reducePow, Nat.reduceLT, Nat.reduceLeDiff, Nat.reduceEqDiff, Int.reduceAdd, Int.reduceSub, Int.reduceMul, Int.reduceNeg, Int.reducePow, Int.reduceLT, Int.reduceLE, Int.reduceEq, Int.reduceNe, Int.reduceToNat, Int.toNat_natCast, Nat.zero_add, Nat.add_zero, Nat.mul_one, Nat.one_mul, Bool.not_true, Bool.not_false, ne_eq, not_true_eq_false, not_false_eq_true, Bool.false_eq_true, e2]
          refine ⟨x / 128, by omega, x / 128, v', rfl, by omega, ⟨pre ++ [x % 128 + 128], ?_, a2, ?_⟩, rfl⟩
          · rw [bc_append, List.length_append]; exact a1
          · rw [← hp]; simp
      · rename_i hlt
        exact hJ x v h' (by omega) ⟨pre, ho, hf, hp⟩
  · intro J hJ
    have e1 : IntKind.u64.wrap (IntKind.u64.wrap n * 2) = n * 2 % 18446744073709551616 := by rw [u64_wrap, u64_wrap]; omega
    simp only [go_sem, reduceIte, Nat.reduceAdd, Nat.reduceSub, Nat.reduceMul, Nat.reducePow, Nat.reduceLT, Nat.reduceLeDiff, Nat.reduceEqDiff, Int.reduceAdd, Int.reduceSub, Int.reduceMul, Int.reduceNeg, Int.reducePow, Int.reduceLT, Int.reduceLE, Int.reduceEq, Int.reduceNe, Int.reduceToNat, Int.toNat_natCast, Nat.zero_add, Nat.add_zero, Nat.mul_one, Nat.one_mul, Bool.not_true, Bool.not_false, ne_eq, not_true_eq_false, not_false_eq_true, Bool.false_eq_true, e1]
    split
    · rename_i hn
      have : IntKind.u64.wrap (IntKind.u64.wrap (IntKind.u64.wrap (IntKind.i64.wrap (0 - IntKind.i64.wrap (n + 1))) * 2) + 1) = (zig n : Int) := by
        rw [i64_id (n := n + 1) (by omega) (by omega), i64_id (by omega) (by omega), u64_id (n := 0 - (n + 1)) (by omega) (by omega), u64_id (n := (0 - (n + 1)) * 2) (by omega) (by omega), u64_id (by omega) (by omega)]
        unfold zig; rw [if_pos hn]; omega
      simp only [go_sem, reduceIte, Nat.reduceAdd, Nat.reduceSub, Nat.reduceMul, Nat.reducePow, Nat.reduceLT, Nat.reduceLeDiff, Nat.reduceEqDiff, Int.reduceAdd, Int.reduceSub, Int.reduceMul, Int.reduceNeg, Int.reducePow, Int.reduceLT, Int.reduceLE, Int.reduceEq, Int.reduceNe, Int.reduceToNat, Int.toNat_natCast, Nat.zero_add, Nat.add_zero, Nat.mul_one, Nat.one_mul, Bool.not_true, Bool.not_false, ne_eq, not_true_eq_false, not_false_eq_true, Bool.false_eq_true, this]
      exact hJ
    · rename_i hn
      have : n * 2 % 18446744073709551616 = (zig n : Int) := by unfold zig; rw [if_neg hn]; omega
      rw [this]; exact hJ
end
end Go.Proofs.YtdljelicbnjfjaaGreat.X
set_option linter.unusedVariables false
set_option linter.unusedSimpArgs false
set_option maxRecDepth 20000
namespace Go.Proofs.YtdljelicbnjfjaaGreat.X
open Go Go.RowKit
theorem pow128 (i : Nat) : 128 ^ i = 2 ^ (7 * i) := by rw [Nat.pow_mul]
theorem or_step {i d x : Nat} (hi : i ≤ 9) (hx : x < 128 ^ i) (hd : i = 9 → d ≤ 1) (hd2 : d < 128) :
    bits .or .u64 (x : Int) (IntKind.u64.wrap ((d : Int) * 2 ^ (7 * i))) = ((x + 128 ^ i * d : Nat) : Int) ∧ x + 128 ^ i * d < 2 ^ 64 := by
  have hp : 128 ^ i * d ≤ 2 ^ 64 - 128 ^ i := by
    by_cases h9 : i = 9
    · subst h9
      have := hd rfl
      have : 128 ^ 9 * d ≤ 128 ^ 9 * 1 := Nat.mul_le_mul_left _ this
      have e : (128 : Nat) ^ 9 = 9223372036854775808 := by decide
      omega
    · have h8 : 128 ^ (i + 1) ≤ 128 ^ 9 := Nat.pow_le_pow_right (by decide) (by omega)
      have e : (128 : Nat) ^ 9 = 9223372036854775808 := by decide
      rw [Nat.pow_succ] at h8
      have h7 : 128 ^ i * d ≤ 128 ^ i * 127 := Nat.mul_le_mul_left _ (by omega)
      rw [e] at h8
      omega
  have hpos : 0 < 128 ^ i := Nat.pow_pos (by decide)
  have hle : 128 ^ i ≤ 128 ^ 9 := Nat.pow_le_pow_right (by decide) hi
  have e99 : (128 : Nat) ^ 9 = 9223372036854775808 := by decide
  have hb : x + 128 ^ i * d < 2 ^ 64 := by omega
  refine ⟨?_, hb⟩
  have e1 : (d : Int) * 2 ^ (7 * i) = ((128 ^ i * d : Nat) : Int) := by rw [pow128]; push_cast; rw [Int.mul_comm]
  rw [e1, u64_id (by omega) (by omega), or_comm, or_join (7 * i) _ _ (by omega) ?_ (by omega) (by omega) ?_ (by omega)]
  · omega
  · rw [← e1]; exact Int.mul_emod_left _ _
  · rw [pow128] at hx; exact_mod_cast hx
theorem decS_out {L : List Nat} {a : Int} (h : a < 0 ∨ (L.length : Int) ≤ a) : decS L a = (0, 0, false) := by unfold decS; rw [if_pos h]
theorem decS_none {L : List Nat} {a : Int} (h : cut (L.drop a.toNat) 10 = none) : decS L a = (0, 0, false) := by
  unfold decS; split
  · rfl
  · rw [h]
theorem decS_bad {L : List Nat} {a : Int} {t : List Nat} (h : cut (L.drop a.toNat) 10 = some t) (hb : ¬(putL (val t) = t ∧ val t < 2 ^ 64)) : decS L a = (0, 0, false) := by
  unfold decS; split
  · rfl
  · rw [h]; simp only; rw [if_neg hb]
theorem decS_good {L : List Nat} {a : Int} {t : List Nat} (h0 : 0 ≤ a) (h1 : a < L.length) (h : cut (L.drop a.toNat) 10 = some t) (hb : putL (val t) = t ∧ val t < 2 ^ 64) : decS L a = (unz (val t), a + t.length, true) := by
  unfold decS; rw [if_neg (by omega), h]; simp only; rw [if_pos hb]
def decV (r : Int × Int × Bool) : AV := .tup [.int .i64 r.1, .int .i64 r.2.1, .bool r.2.2]
theorem unz_val {x : Nat} (h : x < 2 ^ 64) : (if (x : Int) % 2 = 1 then -((x : Int) / 2) - 1 else (x : Int) / 2) = unz x := by
  unfold unz; split <;> split <;> omega
section
variable {h : H}
theorem get_c {v : AV} {L : List Nat} (hr : Row h v L.length 1 (bc L)) (hL : ∀ d ∈ L, d < 256) (hm : L.length < 9223372036854775808) {a : Int} (ha0 : -9223372036854775808 ≤ a) (ha1 : a < 9223372036854775808) {K : AV → H → Prop}
    (hK : K (decV (decS L a)) h) : C 131 [v, .int .i64 a] h K := by
  refine run131 ?_
  simp only [sh131, go_sem, reduceIte, Nat.reduceAdd, Nat.reduceSub, Nat.reduceMul, Nat.reducePow, Nat.reduceLT, Nat.reduceLeDiff, Nat.reduceEqDiff, Int.reduceAdd, Int.reduceSub, Int.reduceMul, Int.reduceNeg, Int.reducePow, Int.reduceLT, Int.reduceLE, Int.reduceEq, Int.reduceNe, Int.reduceToNat, Int.toNat_natCast, Nat.zero_add, Nat.add_zero, Nat.mul_one, Nat.one_mul, Bool.not_true, Bool.not_false, ne_eq, not_true_eq_false, not_false_eq_true, Bool.false_eq_true, hr.len]
  by_cases h1 : a < 0
  · simp only [go_sem, reduceIte, Nat.reduceAdd, Nat.reduceSub, Nat.reduceMul, Nat.reducePow, Nat.reduceLT, Nat.reduceLeDiff, Nat.reduceEqDiff, Int.reduceAdd, Int.reduceSub, Int.reduceMul, Int.reduceNeg, Int.reducePow, Int.reduceLT, Int.reduceLE, Int.reduceEq, Int.reduceNe, Int.reduceToNat, Int.toNat_natCast, Nat.zero_add, Nat.add_zero, Nat.mul_one, Nat.one_mul, Bool.not_true, Bool.not_false, ne_eq, not_true_eq_false, not_false_eq_true, Bool.false_eq_true, h1]
    rw [decS_out (.inl h1)] at hK
    exact hK
  by_cases h2 : (L.length : Int) ≤ a
  · simp only [go_sem, reduceIte, Nat.reduceAdd, Nat.reduceSub, Nat.reduceMul, Nat.reducePow, Nat.reduceLT, Nat.reduceLeDiff, Nat.reduceEqDiff, Int.reduceAdd, Int.reduceSub, Int.reduceMul, Int.reduceNeg, Int.reducePow, Int.reduceLT, Int.reduceLE, Int.reduceEq, Int.reduceNe, Int.reduceToNat, Int.toNat_natCast, Nat.zero_add, Nat.add_zero, Nat.mul_one, Nat.one_mul, Bool.not_true, Bool.not_false, ne_eq, not_true_eq_false, not_false_eq_true, Bool.false_eq_true, h1, h2]
    rw [decS_out (.inr h2)] at hK
    exact hK
  have e1 : IntKind.i64.wrap ((L.length : Int) - a) = L.length - a := i64_id (by omega) (by omega)
  simp only [go_sem, reduceIte, Nat.reduceAdd, Nat.reduceSub, Nat.reduceMul, Nat.reducePow, Nat.reduceLT, Nat.reduceLeDiff, Nat.reduceEqDiff, Int.reduceAdd, Int.reduceSub, Int.reduceMul, Int.reduceNeg, Int.reducePow, Int.reduceLT, Int.reduceLE, Int.reduceEq, Int.reduceNe, Int.reduceToNat, Int.toNat_natCast, Nat.zero_add, Nat.add_zero, Nat.mul_one, Nat.one_mul, Bool.not_true, Bool.not_false, ne_eq, not_true_eq_false, not_false_eq_true, Bool.false_eq_true, h1, h2, e1]
  have hfail : ∀ (p r : List Nat), L.drop a.toNat = p ++ r → (∀ c ∈ p, 128 ≤ c) → (r = [] ∨ p.length = 10) → K (decV (0, 0, false)) h := fun p r hp hc hr => by
    rw [decS_none (by rw [hp]; exact cut_none p r 10 hc hr)] at hK; exact hK
  refine join_r (fun J => ∀ (p r : List Nat), L.drop a.toNat = p ++ r → (∀ c ∈ p, 128 ≤ c) → (r = [] ∨ p.length = 10) → J h) hfail ?_
  intro J hJ
  refine loop_r 10 (fun k l h' => ∃ (i : Nat) (p r : List Nat), l = [.int .u64 (val p : Nat), .int .i64 i] ∧ h' = h ∧ L.drop a.toNat = p ++ r ∧ p.length = i ∧ (∀ c ∈ p, 128 ≤ c) ∧ (i : Int) ≤ (if (L.length : Int) - a < 10 then (L.length : Int) - a else 10) ∧ k = 10 - i)
    ⟨0, [], L.drop a.toNat, by simp [val], rfl, rfl, rfl, by simp, by split <;> omega, rfl⟩ ?_
  rintro k l h' ⟨i, p, r, rfl, rfl, hp, hpl, hc, hi, rfl⟩
  have hlen := congrArg List.length hp
  simp only [List.length_drop, List.length_append] at hlen
  by_cases hlt : (i : Int) < (if (L.length : Int) - a < 10 then (L.length : Int) - a else 10)
  · have hi10 : i < 10 ∧ (i : Int) < L.length - a := by split at hlt <;> omega
    obtain ⟨d, r, rfl⟩ : ∃ d r', r = d :: r' := by
      cases r with
      | nil => simp at hlen; omega
      | cons d r => exact ⟨d, r, rfl⟩
    have hat : L[(a + i).toNat]? = some d := by
      have : (L.drop a.toNat)[i]? = some d := by rw [hp, List.getElem?_append_right (by omega), hpl]; simp
      rw [List.getElem?_drop] at this
      rw [← this]; congr 1; omega
    have hdm : d ∈ L := List.mem_of_getElem? hat
    have hd := hL d hdm
    have e2 : IntKind.i64.wrap (a + (i : Int)) = a + i := i64_id (by omega) (by omega)
    obtain ⟨b, o, q1, q2⟩ := hr.at (i := a + i) (x := .int .u8 (d : Nat)) (by omega) (by omega) (by simp only [bc, List.getElem?_map, hat, Option.map_some])
    have e3 : IntKind.u64.wrap ((d % 128 : Nat) : Int) = ((d % 128 : Nat) : Int) := u64_id (by omega) (by omega)
    have e4 : IntKind.i64.wrap (7 * (i : Int)) = ((7 * i : Nat) : Int) := by rw [i64_id (by omega) (by omega)]; omega
    have hvl := val_lt p
    rw [hpl] at hvl
    have e5 : bits .and .u8 (d : Int) 127 = ((d % 128 : Nat) : Int) := u8_and127n hd
    by_cases h9 : i = 9 ∧ 1 < d
    · -- ten bytes, and too much
      obtain ⟨h9, hd1⟩ := h9
      have h9' : decide ((i : Int) = 9) = true := by simp; omega
      have hd1' : decide ((1 : Int) < d) = true := by simp; omega
      simp only [go_sem, reduceIte, Nat.reduceAdd, Nat.reduceSub, Nat.reduceMul, Nat.reducePow, Nat.reduceLT, Nat.reduceLeDiff, Nat.reduceEqDiff, Int.reduceAdd, Int.reduceSub, Int.reduceMul, Int.reduceNeg, Int.reducePow, Int.reduceLT, Int.reduceLE, Int.reduceEq, Int.reduceNe, Int.reduceToNat, Int.toNat_natCast, Nat.zero_add, Nat.add_zero, Nat.mul_one, Nat.one_mul, Bool.not_true, Bool.not_false, ne_eq, not_true_eq_false, not_false_eq_true, Bool.false_eq_true, hlt, e2, q1, q2, h9', hd1']
      have hf : decS L a = (0, 0, false) := by
        by_cases hds : d < 128
        · refine decS_bad (by rw [hp]; exact cut_some p d r 10 hc hds (by omega)) ?_
          rintro ⟨_, hlt⟩
          rw [val_append, hpl, h9, Nat.mod_eq_of_lt hds] at hlt
          have e : (128 : Nat) ^ 9 = 9223372036854775808 := by decide
          rw [e] at hlt
          omega
        · have hc' : ∀ c ∈ p ++ [d], 128 ≤ c := by
            intro c hcm
            rcases List.mem_append.1 hcm with q | q
            · exact hc c q
            · simp at q; omega
          exact decS_none (by rw [hp, show p ++ d :: r = (p ++ [d]) ++ r by simp]; exact cut_none _ _ _ hc' (.inr (by simp; omega)))
      rw [hf] at hK
      exact hK
    · obtain ⟨o1, o2⟩ := or_step (i := i) (d := d % 128) (x := val p) (by omega) hvl (by omega) (by omega)
      have ev : val p + 128 ^ i * (d % 128) = val (p ++ [d]) := by rw [val_append, hpl]
      rw [ev] at o1 o2
      have h70 : (0 : Int) ≤ ((7 * i : Nat) : Int) := by omega
      have h71 : ((7 * i : Nat) : Int) ≤ 64 := by omega
      have hb : decide ((i : Int) = 9) = true ∧ decide ((1 : Int) < d) = false ∨ decide ((i : Int) = 9) = false := by
        by_cases q : i = 9
        · left; simp; omega
        · right; simp; omega
      by_cases hds : d < 128
      · have hds' : decide ((d : Int) < 128) = true := by simp; omega
        have hcut : cut (L.drop a.toNat) 10 = some (p ++ [d]) := by rw [hp]; exact cut_some p d r 10 hc hds (by omega)
        have hcan := canon p d (fun c hcm => ⟨hc c hcm, hL c (by
          have : c ∈ L.drop a.toNat := by rw [hp]; exact List.mem_append_left _ hcm
          exact List.mem_of_mem_drop this)⟩) hds
        by_cases h0 : d = 0 ∧ 0 < i
        · obtain ⟨h0, hi0⟩ := h0
          have h0' : decide ((d : Int) = 0) = true := by simp; omega
          have hi0' : decide ((0 : Int) < i) = true := by simp; omega
          have hf : decS L a = (0, 0, false) := by
            refine decS_bad hcut fun q => ?_
            rcases hcan.1 q.1 with q | q
            · subst q; simp at hpl; omega
            · exact q h0
          rw [hf] at hK
          rcases hb with ⟨w1, w2⟩ | w1
          · simp only [go_sem, reduceIte, Nat.reduceAdd, Nat.reduceSub, Nat.reduceMul, Nat.reducePow, Nat.reduceLT, Nat.reduceLeDiff, Nat.reduceEqDiff, Int.reduceAdd, Int.reduceSub, Int.reduceMul, Int.reduceNeg, Int.reducePow, Int.reduceLT, Int.reduceLE, Int.reduceEq, Int.reduceNe, Int.reduceToNat, Int.toNat_natCast, Nat.zero_add, Nat.add_zero, Nat.mul_one, Nat.one_mul, Bool.not_true, Bool.not_false, ne_eq, not_true_eq_false, not_false_eq_true, Bool.false_eq_true, hlt, e2, q1, q2, w1, w2, e3, e4, e5, b_shl_u64 h70 h71, o1, hds', h0', hi0']
            exact hK
          · simp only [go_sem, reduceIte, Nat.reduceAdd, Nat.reduceSub, Nat.reduceMul, Nat.reducePow, Nat.reduceLT, Nat.reduceLeDiff, Nat.reduceEqDiff, Int.reduceAdd, Int.reduceSub, Int.reduceMul, Int.reduceNeg, Int.reducePow, Int.reduceLT, Int.reduceLE, Int.reduceEq, Int.reduceNe, Int.reduceToNat, Int.toNat_natCast, Nat.zero_add, Nat.add_zero, Nat.mul_one, Nat.one_mul, Bool.not_true, Bool.not_false, ne_eq, not_true_eq_false, not_false_eq_true, Bool.false_eq_true, hlt, e2, q1, q2, w1, e3, e4, e5, b_shl_u64 h70 h71, o1, hds', h0', hi0']
            exact hK
        · have hgood : decS L a = (unz (val (p ++ [d])), a + (p ++ [d]).length, true) := decS_good (by omega) (by omega) hcut ⟨hcan.2 (by
            by_cases q : d = 0
            · left; exact List.eq_nil_of_length_eq_zero (by omega)
            · exact .inr q), o2⟩
          have hz : decide ((d : Int) = 0) = true ∧ decide ((0 : Int) < i) = false ∨ decide ((d : Int) = 0) = false := by
            by_cases q : d = 0
            · left; simp; omega
            · right; simp; omega
          have e6 : IntKind.i64.wrap ((val (p ++ [d]) : Int) / 2) = (val (p ++ [d]) : Int) / 2 := i64_id (by omega) (by omega)
          have e7 : bits .and .u64 (val (p ++ [d]) : Int) 1 = (val (p ++ [d]) : Int) % 2 := and1 _ (by omega) (by omega)
          have e8 : IntKind.i64.wrap (a + (i : Int) + 1) = a + (p ++ [d]).length := by rw [i64_id (by omega) (by omega)]; simp; omega
          have fin : ∀ n : Int, n = unz (val (p ++ [d])) → K (.tup [.int .i64 n, .int .i64 (a + (p ++ [d]).length), .bool true]) h' := fun n hn => by
            rw [hgood] at hK; subst hn; exact hK
          have hu := unz_val o2
          have rest : (if (val (p ++ [d]) : Int) % 2 = 1 then K (.tup [.int .i64 (bits .xor .i64 (if IntKind.i64.signed = true then -1 else IntKind.i64.max) ((val (p ++ [d]) : Int) / 2)), .int .i64 (a + (p ++ [d]).length), .bool true]) h'
              else K (.tup [.int .i64 ((val (p ++ [d]) : Int) / 2), .int .i64 (a + (p ++ [d]).length), .bool true]) h') := by
            split
            · rename_i hodd
              rw [if_pos hodd] at hu
              rw [xor_i64 (by omega) (by omega)]
              exact fin _ hu
            · rename_i hev
              rw [if_neg hev] at hu
              exact fin _ hu
          rcases hb with ⟨w1, w2⟩ | w1 <;> rcases hz with ⟨z1, z2⟩ | z1
          · simp only [go_sem, reduceIte, Nat.reduceAdd, Nat.reduceSub, Nat.reduceMul, Nat.reducePow, Nat.reduceLT, Nat.reduceLeDiff, Nat.reduceEqDiff, Int.reduceAdd, Int.reduceSub, Int.reduceMul, Int.reduceNeg, Int.reducePow, Int.reduceLT, Int.reduceLE, Int.reduceEq, Int.reduceNe, Int.reduceToNat, Int.toNat_natCast, Nat.zero_add, Nat.add_zero, Nat.mul_one, Nat.one_mul, Bool.not_true, Bool.not_false, ne_eq, not_true_eq_false, not_false_eq_true, Bool.false_eq_true, hlt, e2, q1, q2, w1, w2, e3, e4, e5, b_shl_u64 h70 h71, o1, hds', z1, z2, joinA, e6, e7, e8]
            exact rest
          · simp only [go_sem, reduceIte, Nat.reduceAdd, Nat.reduceSub, Nat.reduceMul, Nat.reducePow, Nat.reduceLT, Nat.reduceLeDiff, Nat.reduceEqDiff, Int.reduceAdd, Int.reduceSub, Int.reduceMul, Int.reduceNeg, Int.reducePow, Int.reduceLT, Int.reduceLE, Int.reduceEq, Int.reduceNe, Int.reduceToNat, Int.toNat_natCast, Nat.zero_add, Nat.add_zero, Nat.mul_one, Nat.one_mul, Bool.not_true, Bool.not_false, ne_eq, not_true_eq_false, not_false_eq_true, Bool.false_eq_true, hlt, e2, q1, q2, w1, w2, e3, e4, e5, b_shl_u64 h70 h71, o1, hds', z1, joinA, e6, e7, e8]
            exact rest
          · simp only [go_sem, reduceIte, Nat.reduceAdd, Nat.reduceSub, Nat.reduceMul, Nat.reducePow, Nat.reduceLT, Nat.reduceLeDiff, Nat.reduceEqDiff, Int.reduceAdd, Int.reduceSub, Int.reduceMul, Int.reduceNeg, Int.reducePow, Int.reduceLT, Int.reduceLE, Int.reduceEq, Int.reduceNe, Int.reduceToNat, Int.toNat_natCast, Nat.zero_add, Nat.add_zero, Nat.mul_one, Nat.one_mul, Bool.not_true, Bool.not_false, ne_eq, not_true_eq_false, not_false_eq_true, Bool.false_eq_true, hlt, e2, q1, q2, w1, e3, e4, e5, b_shl_u64 h70 h71, o1, hds', z1, z2, joinA, e6, e7, e8]
            exact rest
          · simp only [go_sem, reduceIte, Nat.reduceAdd, Nat.reduceSub, Nat.reduceMul, Nat.reducePow, Nat.reduceLT, Nat.reduceLeDiff, Nat.reduceEqDiff, Int.reduceAdd, Int.reduceSub, Int.reduceMul, Int.reduceNeg, Int.reducePow, Int.reduceLT, Int.reduceLE, Int.reduceEq, Int.reduceNe, Int.reduceToNat, Int.toNat_natCast, Nat.zero_add, Nat.add_zero, Nat.mul_one, Nat.one_mul, Bool.not_true, Bool.not_false, ne_eq, not_true_eq_false, not_false_eq_true, Bool.false_eq_true, hlt, e2, q1, q2, w1, e3, e4, e5, b_shl_u64 h70 h71, o1, hds', z1, joinA, e6, e7, e8]
            exact rest
      · have hds' : decide ((d : Int) < 128) = false := by simp; omega
        have e9 : IntKind.i64.wrap ((i : Int) + 1) = ((i + 1 : Nat) : Int) := by rw [i64_id (by omega) (by omega)]; rfl
        have fin : ∃ n', n' < 10 - i ∧ ∃ (i_1 : Nat) (p_1 r_1 : List Nat), [AV.int .u64 (val (p ++ [d]) : Nat), AV.int .i64 ((i + 1 : Nat) : Int)] = [.int .u64 (val p_1 : Nat), .int .i64 i_1] ∧ L.drop a.toNat = p_1 ++ r_1 ∧ p_1.length = i_1 ∧ (∀ c ∈ p_1, 128 ≤ c) ∧ (i_1 : Int) ≤ (if (L.length : Int) - a < 10 then (L.length : Int) - a else 10) ∧ n' = 10 - i_1 := by
          refine ⟨10 - (i + 1), by omega, i + 1, p ++ [d], r, rfl, by rw [hp]; simp, by simp [hpl], ?_, ?_, rfl⟩
          · intro c hcm
            rcases List.mem_append.1 hcm with q | q
            · exact hc c q
            · simp at q; omega
          · split <;> omega
        rcases hb with ⟨w1, w2⟩ | w1
        · simp only [go_sem, reduceIte, Nat.reduceAdd, Nat.reduceSub, Nat.reduceMul, Nat.reducePow, Nat.reduceLT, Nat.reduceLeDiff, Nat.reduceEqDiff, Int.reduceAdd, Int.reduceSub, Int.reduceMul, Int.reduceNeg, Int.reducePow, Int.reduceLT, Int.reduceLE, Int.reduceEq, Int.reduceNe, Int.reduceToNat, Int.toNat_natCast, Nat.zero_add, Nat.add_zero, Nat.mul_one, Nat.one_mul, Bool.not_true, Bool.not_false, ne_eq, not_true_eq_false, not_false_eq_true, Bool.false_eq_true, hlt, e2, q1, q2, w1, w2, e3, e4, e5, b_shl_u64 h70 h71, o1, hds', e9]
          exact fin
        · simp only [go_sem, reduceIte, Nat.reduceAdd, Nat.reduceSub, Nat.reduceMul, Nat.reducePow, Nat.reduceLT, Nat.reduceLeDiff, Nat.reduceEqDiff, Int.reduceAdd, Int.reduceSub, Int.reduceMul, Int.reduceNeg, Int.reducePow, Int.reduceLT, Int.reduceLE, Int.reduceEq, Int.reduceNe, Int.reduceToNat, Int.toNat_natCast, Nat.zero_add, Nat.add_zero, Nat.mul_one, Nat.one_mul, Bool.not_true, Bool.not_false, ne_eq, not_true_eq_false, not_false_eq_true, Bool.false_eq_true, hlt, e2, q1, q2, w1, e3, e4, e5, b_shl_u64 h70 h71, o1, hds', e9]
          exact fin
  · simp only [go_sem, reduceIte, Nat.reduceAdd, Nat.reduceSub, Nat.reduceMul, Nat.reducePow, Nat.reduceLT, Nat.reduceLeDiff, Nat.reduceEqDiff, Int.reduceAdd, Int.reduceSub, Int.reduceMul, Int.reduceNeg, Int.reducePow, Int.reduceLT, Int.reduceLE, Int.reduceEq, Int.reduceNe, Int.reduceToNat, Int.toNat_natCast, Nat.zero_add, Nat.add_zero, Nat.mul_one, Nat.one_mul, Bool.not_true, Bool.not_false, ne_eq, not_true_eq_false, not_false_eq_true, Bool.false_eq_true, hlt]
    refine hJ p r hp hc ?_
    split at hi <;> split at hlt
    · left; exact List.eq_nil_of_length_eq_zero (by omega)
    · omega
    · omega
    · right; omega
end
end Go.Proofs.YtdljelicbnjfjaaGreat.X
set_option linter.unusedVariables false
set_option linter.unusedSimpArgs false
set_option maxRecDepth 20000
namespace Go.Proofs.YtdljelicbnjfjaaGreat.X
open Go Go.RowKit
theorem liesA_nil {h : H} {ls : List (List AV)} (hl : LiesA h [] ls) : ls = [] := by cases ls <;> first | rfl | exact hl.elim
theorem liesA_cons {h : H} {s : Sh} {ss : List Sh} {ls : List (List AV)} (hl : LiesA h (s :: ss) ls) : ∃ l ls', ls = l :: ls' ∧ Lies h s l ∧ LiesA h ss ls' := by
  cases ls with
  | nil => exact hl.elim
  | cons l ls => exact ⟨l, ls, rfl, hl.1, hl.2⟩
end Go.Proofs.YtdljelicbnjfjaaGreat.X
set_option linter.unusedVariables false
set_option linter.unusedSimpArgs false
set_option maxRecDepth 20000
namespace Go.Proofs.YtdljelicbnjfjaaGreat.X
open Go Go.RowKit
theorem bc_drop (l : List Nat) (i j : Nat) : ((bc l).drop i).take j = bc ((l.drop i).take j) := by simp [bc]
section
variable {h : H}
theorem lies_bytes {l : List AV} (hl : Lies h (.sl (.int .u8)) l) : ∃ v L, l = [v] ∧ Row h v L.length 1 (bc L) ∧ (∀ d ∈ L, d < 256) ∧ L.length ≤ reachBytes := by
  simp only [Lies] at hl
  rcases hl with rfl | ⟨b, ei, css, rfl, hb, hm, hcs⟩
  · exact ⟨.nilsl, [], rfl, ⟨rfl, .inl ⟨rfl, rfl⟩⟩, by simp, by simp⟩
  · obtain ⟨L, hL, hfl, hlen⟩ : ∃ L : List Nat, (∀ d ∈ L, d < 256) ∧ css.flatten = bc L ∧ L.length = css.length := by
      clear hb hm
      induction css with
      | nil => exact ⟨[], by simp, rfl, rfl⟩
      | cons c css ih =>
        obtain ⟨L, i1, i2, i3⟩ := ih fun c hc => hcs c (by simp [hc])
        obtain ⟨n, rfl, hw⟩ := hcs c (by simp)
        have hn : 0 ≤ n ∧ n ≤ 255 := by simpa [Lit.wf, IntKind.min, IntKind.max, IntKind.signed, IntKind.bits] using hw
        refine ⟨n.toNat :: L, ?_, ?_, by simp [i3]⟩
        · intro d hd
          rcases List.mem_cons.1 hd with rfl | hd
          · omega
          · exact i1 d hd
        · have : ((n.toNat : Nat) : Int) = n := by omega
          simp [bc, i2, this]
    refine ⟨_, L, rfl, ⟨by simp [bc], .inr ⟨b, 0, .any, by rw [hlen], rfl, ?_⟩⟩, hL, by omega⟩
    refine H.read_eq hb (by rw [hfl]; simp [bc]) ?_
    rw [hfl, List.drop_zero, List.take_of_length_le (by simp [bc])]
end
end Go.Proofs.YtdljelicbnjfjaaGreat.X
set_option linter.unusedVariables false
set_option linter.unusedSimpArgs false
set_option maxRecDepth 20000
namespace Go.Proofs.YtdljelicbnjfjaaGreat.X
open Go Go.RowKit
def ic (L : List Int) : List AV := L.map fun n => AV.int .i64 n
section
variable {h : H}
theorem Own.fr {h0 h h' : H} {ty esz : Nat} {v : AV} {n : Nat} {cs : List AV} (o : Own h0 h ty esz v n cs) (f : Fr [] h h') : Own h0 h' ty esz v n cs := by
  refine ⟨o.1, ?_⟩
  rcases o.2 with q | ⟨b, q1, q2, q3⟩
  · exact .inl q
  · exact .inr ⟨b, q1, q2, f b _ (by simp) q3⟩
end
end Go.Proofs.YtdljelicbnjfjaaGreat.X
set_option linter.unusedVariables false
set_option linter.unusedSimpArgs false
set_option maxRecDepth 20000
namespace Go.Proofs.YtdljelicbnjfjaaGreat.X
open Go Go.RowKit
section
variable {h : H}
theorem Row.one {v : AV} {n esz : Nat} {cs : List AV} (r : Row h v n esz cs) : v.leaf = true ∧ v.cells = [v] := by
  rcases r.2 with ⟨_, rfl⟩ | ⟨_, _, _, rfl, _⟩ <;> exact ⟨rfl, rfl⟩
end
end Go.Proofs.YtdljelicbnjfjaaGreat.X
set_option linter.unusedVariables false
set_option linter.unusedSimpArgs false
set_option maxRecDepth 20000
namespace Go.Proofs.YtdljelicbnjfjaaGreat.X
open Go Go.RowKit
end Go.Proofs.YtdljelicbnjfjaaGreat.X
set_option linter.unusedVariables false
set_option linter.unusedSimpArgs false
set_option maxRecDepth 20000
namespace Go.Proofs.YtdljelicbnjfjaaGreat.X
open Go Go.RowKit
theorem cell_fr {h h' : H} (f : Fr [] h h') {b o : Nat} {x : AV} (hx : h.cell b o = some x) : h'.cell b o = some x := by
  unfold H.cell at hx ⊢
  cases hg : h.get b with
  | none => rw [hg] at hx; cases hx
  | some ob => rw [f b ob (by simp) hg]; rw [hg] at hx; exact hx
end Go.Proofs.YtdljelicbnjfjaaGreat.X
set_option linter.unusedVariables false
set_option linter.unusedSimpArgs false
set_option maxRecDepth 20000
namespace Go.Proofs.YtdljelicbnjfjaaGreat.X
open Go Go.RowKit
theorem st_val {h : H} {b e off : Nat} {cs : List AV} {v : AV} (hb : h.get b = some (.live cs e true)) (ho : off < cs.length) (hv : v.leaf = true) (hc : v.cells = [v]) : stA h 1 (.ptr b off) v = some (h.set b (.live (cs.set off v) e true)) := by
  simp only [stA, hc, List.length_singleton, if_true]
  exact write_one hb ho hv
theorem Own.ne {h1 h' : H} {ty esz : Nat} {v : AV} {n : Nat} {cs : List AV} (o : Own h1 h' ty esz v n cs) {d ty' : Nat} {cs' : List AV} {w : Bool} (hd : h'.get d = some (.live cs' ty' w)) (ht : ty ≠ ty') : ∀ n' p, v ≠ .sl d 0 n' p := by
  rintro n' p rfl
  rcases o.2 with ⟨_, q⟩ | ⟨b, q, _, q3⟩
  · cases q
  · injection q with q _
    rw [← q, hd] at q3
    injection q3 with q3; injection q3 with _ q3 _
    exact ht q3.symm
theorem Own.keep {h1 h' h'' : H} {ty esz : Nat} {v : AV} {n : Nat} {cs : List AV} (o : Own h1 h' ty esz v n cs) (k : ∀ c n' p, v = .sl c 0 n' p → ∀ ob, h'.get c = some ob → h''.get c = some ob) : Own h1 h'' ty esz v n cs := by
  refine ⟨o.1, ?_⟩
  rcases o.2 with q | ⟨b, q1, q2, q3⟩
  · exact .inl q
  · exact .inr ⟨b, q1, q2, k b _ _ q1 _ q3⟩
theorem set_set {h : H} {b : Nat} {x y : Obj} : (h.set b x).set b y = h.set b y := by
  apply H.ext'
  intro k
  simp only [H.get_set]
  split <;> rfl
theorem Fr.cons {S : List Nat} {h0 h1 h2 : H} {P : List Nat} (f : Fr S h0 h1) (hP : ∀ c ∈ P, h0.get c = none) (f2 : Fr P h1 h2) : Fr S h0 h2 := fun c o hc hg => by
  refine f2 c o (fun q => ?_) (f c o hc hg)
  rw [hP c q] at hg; cases hg
theorem box_r {h : H} {cs : List AV} {e : Nat} {K : AV → H → Prop} (hl : leaves cs = true) (hK : ∀ b, h.get b = none → K (.ptr b 0) (h.set b (.live cs e true))) : boxA h cs e K := ⟨hl, hK⟩
theorem new_r {h : H} {cs : List AV} {e : Nat} {mk : Nat → AV} {K : AV → H → Prop} (hl : leaves cs = true) (hK : ∀ b, h.get b = none → K (mk b) (h.set b (.live cs e true))) : newA h cs e mk K := ⟨hl, hK⟩
theorem ldA_read {h : H} {b off n : Nat} {cs : List AV} (hr : h.read b off n = some cs) : ldA h (some n) (.ptr b off) = some (.agg cs) := by rw [ldA_s, hr]
/-! ### Images -/
structure Ty where
  imm : Bool
  sh : List Int
structure Shp where
  kind : Int
  fs : List Int
  name : List UInt8
structure Ins where
  op : Int
  d : Int
  a : Int
  b : Int
  c : Int
  n : Int
  l : List Int
  m : List Int
  live : List Int
structure Blk where
  inn : List Int
  code : List Ins
structure Fn where
  params : List Int
  result : Int
  slots : Int
  blocks : List Blk
structure Img where
  types : List Ty
  shapes : List Shp
  strs : List (List UInt8)
  names : List (List UInt8)
  fns : List Fn
  main : Int
  exn : Int
def rg (n : Int) : Prop := -9223372036854775808 ≤ n ∧ n ≤ 9223372036854775807
def rgs (l : List Int) : Prop := l.length ≤ reachBytes ∧ ∀ n ∈ l, rg n
def Ty.ok (t : Ty) : Prop := rgs t.sh
def Shp.ok (s : Shp) : Prop := rg s.kind ∧ rgs s.fs ∧ s.name.length ≤ reachBytes
def Ins.ok (x : Ins) : Prop := (rg x.op ∧ rg x.d ∧ rg x.a ∧ rg x.b ∧ rg x.c ∧ rg x.n) ∧ rgs x.l ∧ rgs x.m ∧ rgs x.live
def Blk.ok (b : Blk) : Prop := rgs b.inn ∧ b.code.length ≤ reachBytes ∧ ∀ x ∈ b.code, x.ok
def Fn.ok (f : Fn) : Prop := rgs f.params ∧ rg f.result ∧ rg f.slots ∧ f.blocks.length ≤ reachBytes ∧ ∀ b ∈ f.blocks, b.ok
def Img.ok (m : Img) : Prop := (m.types.length ≤ reachBytes ∧ ∀ t ∈ m.types, t.ok) ∧ (m.shapes.length ≤ reachBytes ∧ ∀ s ∈ m.shapes, s.ok) ∧ (m.strs.length ≤ reachBytes ∧ ∀ s ∈ m.strs, s.length ≤ reachBytes) ∧
  (m.names.length ≤ reachBytes ∧ ∀ s ∈ m.names, s.length ≤ reachBytes) ∧ (m.fns.length ≤ reachBytes ∧ ∀ f ∈ m.fns, f.ok) ∧ rg m.main ∧ rg m.exn
def RowOf {α : Type} (h : H) (esz : Nat) (Rel : α → List AV → Prop) (v : AV) (l : List α) : Prop :=
  ∃ css : List (List AV), css.length = l.length ∧ (∀ (i : Nat) (x : α) (c : List AV), l[i]? = some x → css[i]? = some c → Rel x c) ∧ (∀ c ∈ css, c.length = esz) ∧ Row h v l.length esz css.flatten
def tyR (h : H) (t : Ty) (c : List AV) : Prop := ∃ v, c = [.bool t.imm, v] ∧ Row h v t.sh.length 1 (ic t.sh)
def shR (h : H) (s : Shp) (c : List AV) : Prop := ∃ v, c = [.int .i64 s.kind, v, .str s.name] ∧ Row h v s.fs.length 1 (ic s.fs)
def stR (s : List UInt8) (c : List AV) : Prop := c = [.str s]
def insC (x : Ins) (vl vm vv : AV) : List AV := [.int .i64 x.op, .int .i64 x.d, .int .i64 x.a, .int .i64 x.b, .int .i64 x.c, .int .i64 x.n, vl, vm, vv]
def insR (h : H) (x : Ins) (c : List AV) : Prop := ∃ vl vm vv, c = insC x vl vm vv ∧ Row h vl x.l.length 1 (ic x.l) ∧ Row h vm x.m.length 1 (ic x.m) ∧ Row h vv x.live.length 1 (ic x.live)
def blkR (h : H) (b : Blk) (c : List AV) : Prop := ∃ vi vc, c = [vi, vc] ∧ Row h vi b.inn.length 1 (ic b.inn) ∧ RowOf h 9 (insR h) vc b.code
def fnR (h : H) (f : Fn) (c : List AV) : Prop := ∃ vp vb, c = [vp, .int .i64 f.result, .int .i64 f.slots, vb] ∧ Row h vp f.params.length 1 (ic f.params) ∧ RowOf h 2 (blkR h) vb f.blocks
def imgR (h : H) (m : Img) (c : List AV) : Prop := ∃ vt vs vx vn vf, c = [vt, vs, vx, vn, vf, .int .i64 m.main, .int .i64 m.exn] ∧
  RowOf h 2 (tyR h) vt m.types ∧ RowOf h 3 (shR h) vs m.shapes ∧ RowOf h 1 stR vx m.strs ∧ RowOf h 1 stR vn m.names ∧ RowOf h 4 (fnR h) vf m.fns
theorem Row.nil (h : H) (esz : Nat) : Row h .nilsl 0 esz [] := ⟨by simp, .inl ⟨rfl, rfl⟩⟩
theorem RowOf.nil {α : Type} (h : H) (esz : Nat) (Rel : α → List AV → Prop) : RowOf h esz Rel .nilsl [] := ⟨[], rfl, by simp, by simp, Row.nil h esz⟩
section
variable {α : Type} {h : H} {esz : Nat} {Rel : α → List AV → Prop} {v : AV} {l : List α}
theorem RowOf.one (r : RowOf h esz Rel v l) : v.leaf = true ∧ v.cells = [v] := by obtain ⟨_, _, _, _, r⟩ := r; exact r.one
theorem RowOf.len (r : RowOf h esz Rel v l) : lenA false v = some (.int .i64 l.length) := by obtain ⟨_, _, _, _, r⟩ := r; exact r.len
theorem flat_at : ∀ {css : List (List AV)} {e : Nat}, (∀ c ∈ css, c.length = e) → ∀ (i : Nat) (c : List AV), css[i]? = some c → (css.flatten.drop (i * e)).take e = c
  | [], e, _, i, c, h => by simp at h
  | y :: css, e, he, 0, c, h => by
    simp at h; subst h
    have := he y (by simp)
    rw [Nat.zero_mul, List.drop_zero, List.flatten_cons, List.take_append, List.take_of_length_le (by omega), this, Nat.sub_self, List.take_zero, List.append_nil]
  | y :: css, e, he, i + 1, c, h => by
    have hy := he y (by simp)
    rw [List.flatten_cons, List.drop_append, List.drop_eq_nil_of_le (by rw [hy, Nat.add_mul]; omega), List.nil_append, hy, show (i + 1) * e - e = i * e by rw [Nat.add_mul]; omega]
    exact flat_at (fun d hd => he d (by simp [hd])) i c (by simpa using h)
theorem RowOf.el (r : RowOf h esz Rel v l) {i : Nat} {x : α} (hx : l[i]? = some x) : ∃ b o c, (∀ k, iaA esz v (.int k i) = some (.ptr b o)) ∧ Rel x c ∧ c.length = esz ∧ h.read b o esz = some c ∧ ∀ j, j < esz → h.cell b (o + j) = c[j]? := by
  obtain ⟨css, h1, h2, h3, r⟩ := r
  have hi : i < l.length := (List.getElem?_eq_some_iff.1 hx).1
  obtain ⟨b, o, q1, q2, q3⟩ := r.el (i := i) (by omega) (by omega)
  have hc : i < css.length := by omega
  have hat := flat_at h3 i css[i] (by simp [hc])
  rw [Int.toNat_natCast] at q2 q3
  rw [hat] at q3
  have hl := h3 css[i] (List.getElem_mem hc)
  refine ⟨b, o, css[i], q1, h2 i x _ hx (by simp [hc]), hl, q3, fun j hj => ?_⟩
  rw [q2 j hj]
  conv => rhs; rw [← hat]
  rw [List.getElem?_take, if_pos hj, List.getElem?_drop]
theorem RowOf.mono (r : RowOf h esz Rel v l) {h' : H} {Rel' : α → List AV → Prop} (f : Fr [] h h') (hr : ∀ x ∈ l, ∀ c, Rel x c → Rel' x c) : RowOf h' esz Rel' v l := by
  obtain ⟨css, h1, h2, h3, r⟩ := r
  exact ⟨css, h1, fun i x c hx hc => hr x (List.mem_of_getElem? hx) c (h2 i x c hx hc), h3, r.fr f⟩
end
section
variable {h h' : H}
theorem tyR.fr (f : Fr [] h h') {t : Ty} {c : List AV} (r : tyR h t c) : tyR h' t c := by obtain ⟨v, h1, h2⟩ := r; exact ⟨v, h1, h2.fr f⟩
theorem shR.fr (f : Fr [] h h') {t : Shp} {c : List AV} (r : shR h t c) : shR h' t c := by obtain ⟨v, h1, h2⟩ := r; exact ⟨v, h1, h2.fr f⟩
theorem insR.fr (f : Fr [] h h') {t : Ins} {c : List AV} (r : insR h t c) : insR h' t c := by obtain ⟨x, y, z, h1, h2, h3, h4⟩ := r; exact ⟨x, y, z, h1, h2.fr f, h3.fr f, h4.fr f⟩
theorem blkR.fr (f : Fr [] h h') {t : Blk} {c : List AV} (r : blkR h t c) : blkR h' t c := by obtain ⟨x, y, h1, h2, h3⟩ := r; exact ⟨x, y, h1, h2.fr f, h3.mono f fun _ _ _ => insR.fr f⟩
theorem fnR.fr (f : Fr [] h h') {t : Fn} {c : List AV} (r : fnR h t c) : fnR h' t c := by obtain ⟨x, y, h1, h2, h3⟩ := r; exact ⟨x, y, h1, h2.fr f, h3.mono f fun _ _ _ => blkR.fr f⟩
theorem imgR.fr (f : Fr [] h h') {t : Img} {c : List AV} (r : imgR h t c) : imgR h' t c := by
  obtain ⟨a1, a2, a3, a4, a5, h1, h2, h3, h4, h5, h6⟩ := r
  exact ⟨a1, a2, a3, a4, a5, h1, h2.mono f fun _ _ _ => tyR.fr f, h3.mono f fun _ _ _ => shR.fr f, h4.mono f fun _ _ _ x => x, h5.mono f fun _ _ _ x => x, h6.mono f fun _ _ _ => fnR.fr f⟩
theorem tyR.leaves {t : Ty} {c : List AV} (r : tyR h t c) : leaves c = true := by obtain ⟨v, rfl, h2⟩ := r; simp only [X.leaves, h2.one.1]; rfl
theorem shR.leaves {t : Shp} {c : List AV} (r : shR h t c) : leaves c = true := by obtain ⟨v, rfl, h2⟩ := r; simp only [X.leaves, h2.one.1]; rfl
theorem insR.leaves {t : Ins} {c : List AV} (r : insR h t c) : leaves c = true := by obtain ⟨x, y, z, rfl, h2, h3, h4⟩ := r; simp only [insC, X.leaves, h2.one.1, h3.one.1, h4.one.1]; rfl
theorem blkR.leaves {t : Blk} {c : List AV} (r : blkR h t c) : leaves c = true := by obtain ⟨x, y, rfl, h2, h3⟩ := r; simp only [X.leaves, h2.one.1, h3.one.1]; rfl
theorem fnR.leaves {t : Fn} {c : List AV} (r : fnR h t c) : leaves c = true := by obtain ⟨x, y, rfl, h2, h3⟩ := r; simp only [X.leaves, h2.one.1, h3.one.1]; rfl
theorem imgR.leaves {t : Img} {c : List AV} (r : imgR h t c) : leaves c = true := by
  obtain ⟨a1, a2, a3, a4, a5, rfl, h2, h3, h4, h5, h6⟩ := r
  simp only [X.leaves, h2.one.1, h3.one.1, h4.one.1, h5.one.1, h6.one.1]; rfl
theorem copy_st {b e n : Nat} {zs cs : List AV} (hl : cs.length = n) (hz : zs.length = n) (hv : leaves cs = true) : stA (h.set b (.live zs e true)) n (.ptr b 0) (.agg cs) = some (h.set b (.live cs e true)) := by
  have ec : (AV.agg cs).cells = cs := rfl
  simp only [stA_p, ec, hl, if_true]
  exact write_new (by omega) hv
end
end Go.Proofs.YtdljelicbnjfjaaGreat.X
set_option linter.unusedVariables false
set_option linter.unusedSimpArgs false
set_option maxRecDepth 20000
namespace Go.Proofs.YtdljelicbnjfjaaGreat.X
open Go Go.RowKit
def usesL : List (List UInt8) := [[], [68, 78], [68, 65, 108], [68, 65], [68, 65, 66, 78], [68, 65, 76, 108], [68, 65, 66], [65, 66, 67], [68, 65, 66, 67, 108], [68, 65, 66], [65, 66, 67], [68, 65], [68, 65, 66], [68, 65, 66, 108], [68, 65, 66], [68], [65], [68, 65, 66, 67, 76, 108], [65], [65, 66, 67], [65, 76, 77, 66], [65, 76], [65], [65]]
def usesN (op : Int) : List UInt8 := if op < 0 then [] else usesL.getD op.toNat []
theorem op_cases (op : Int) : (op = 0 ∨ op = 1 ∨ op = 2 ∨ op = 3 ∨ op = 4 ∨ op = 5 ∨ op = 6 ∨ op = 7 ∨ op = 8 ∨ op = 9 ∨ op = 10 ∨ op = 11 ∨ op = 12 ∨ op = 13 ∨ op = 14 ∨ op = 15 ∨ op = 16 ∨ op = 17 ∨ op = 18 ∨ op = 19 ∨ op = 20 ∨ op = 21 ∨ op = 22 ∨ op = 23) ∨ (op < 0 ∨ 24 ≤ op) := by omega
theorem usesN_out {op : Int} (h : op < 0 ∨ 24 ≤ op) : usesN op = [] := by
  unfold usesN
  split
  · rfl
  · rw [List.getD_eq_getElem?_getD, List.getElem?_eq_none (by show 24 ≤ op.toNat; omega)]; rfl
def hasL (s : List UInt8) (c : Int) : Bool := s.any fun x => decide ((x.toNat : Int) = c)
section
variable {h : H}
theorem uses_c (op : Int) (K : AV → H → Prop) : C 59 [.int .i64 op] h K = K (.str (usesN op)) h := by
  refine callA_eq (run59 ?_) K
  rcases op_cases op with q | q
  · rcases q with rfl | rfl | rfl | rfl | rfl | rfl | rfl | rfl | rfl | rfl | rfl | rfl | rfl | rfl | rfl | rfl | rfl | rfl | rfl | rfl | rfl | rfl | rfl | rfl <;>
      (simp only [sh59, joinA, go_sem, reduceIte, Nat.reduceAdd, Nat.reduceSub, Nat.reduceMul, Nat.reducePow, Nat.reduceLT, Nat.reduceLeDiff, Nat.reduceEqDiff, Int.reduceAdd, Int.reduceSub, Int.reduceMul, Int.reduceNeg, Int.reducePow, Int.reduceLT, Int.reduceLE, Int.reduceEq, Int.reduceNe, Int.reduceToNat, Int.toNat_natCast, Nat.zero_add, Nat.add_zero, Nat.mul_one, Nat.one_mul, Bool.not_true, Bool.not_false, ne_eq, not_true_eq_false, not_false_eq_true, Bool.false_eq_true]; rfl)
  · rw [usesN_out q]
    have e1 : ¬ op = 1 := by omega
    have e2 : ¬ op = 2 := by omega
    have e3 : ¬ op = 3 := by omega
    have e4 : ¬ op = 4 := by omega
    have e5 : ¬ op = 5 := by omega
    have e6 : ¬ op = 6 := by omega
    have e7 : ¬ op = 7 := by omega
    have e8 : ¬ op = 8 := by omega
    have e9 : ¬ op = 9 := by omega
    have e10 : ¬ op = 10 := by omega
    have e11 : ¬ op = 11 := by omega
    have e12 : ¬ op = 12 := by omega
    have e13 : ¬ op = 13 := by omega
    have e14 : ¬ op = 14 := by omega
    have e15 : ¬ op = 15 := by omega
    have e16 : ¬ op = 16 := by omega
    have e17 : ¬ op = 17 := by omega
    have e18 : ¬ op = 18 := by omega
    have e19 : ¬ op = 19 := by omega
    have e20 : ¬ op = 20 := by omega
    have e21 : ¬ op = 21 := by omega
    have e22 : ¬ op = 22 := by omega
    have e23 : ¬ op = 23 := by omega
    simp only [sh59, joinA, go_sem, reduceIte, Nat.reduceAdd, Nat.reduceSub, Nat.reduceMul, Nat.reducePow, Nat.reduceLT, Nat.reduceLeDiff, Nat.reduceEqDiff, Int.reduceAdd, Int.reduceSub, Int.reduceMul, Int.reduceNeg, Int.reducePow, Int.reduceLT, Int.reduceLE, Int.reduceEq, Int.reduceNe, Int.reduceToNat, Int.toNat_natCast, Nat.zero_add, Nat.add_zero, Nat.mul_one, Nat.one_mul, Bool.not_true, Bool.not_false, ne_eq, not_true_eq_false, not_false_eq_true, Bool.false_eq_true, e1, e2, e3, e4, e5, e6, e7, e8, e9, e10, e11, e12, e13, e14, e15, e16, e17, e18, e19, e20, e21, e22, e23]
theorem ruses_c (op : Int) {K : AV → H → Prop} (hK : ∀ h', Fr [] h h' → K (.str (usesN op)) h') : C 111 [.int .i64 op] h K := by
  refine run111 ?_
  unfold sh111
  change mkslA h 9 24 (some (usesL.map AV.str)) _
  refine ⟨rfl, fun m hm => ?_⟩
  have hlen : (usesL.map AV.str).length = 24 := rfl
  have f : ∀ o, Fr [] h (h.set m o) := fun o => (Fr.refl _ _).set' hm
  by_cases c1 : op < 0
  · simp only [go_sem, reduceIte, Nat.reduceAdd, Nat.reduceSub, Nat.reduceMul, Nat.reducePow, Nat.reduceLT, Nat.reduceLeDiff, Nat.reduceEqDiff, Int.reduceAdd, Int.reduceSub, Int.reduceMul, Int.reduceNeg, Int.reducePow, Int.reduceLT, Int.reduceLE, Int.reduceEq, Int.reduceNe, Int.reduceToNat, Int.toNat_natCast, Nat.zero_add, Nat.add_zero, Nat.mul_one, Nat.one_mul, Bool.not_true, Bool.not_false, ne_eq, not_true_eq_false, not_false_eq_true, Bool.false_eq_true, c1]
    rw [usesN_out (.inl c1)] at hK
    exact hK _ (f _)
  by_cases c2 : 24 ≤ op
  · have c2' : ((24 : Nat) : Int) ≤ op := by omega
    simp only [go_sem, reduceIte, Nat.reduceAdd, Nat.reduceSub, Nat.reduceMul, Nat.reducePow, Nat.reduceLT, Nat.reduceLeDiff, Nat.reduceEqDiff, Int.reduceAdd, Int.reduceSub, Int.reduceMul, Int.reduceNeg, Int.reducePow, Int.reduceLT, Int.reduceLE, Int.reduceEq, Int.reduceNe, Int.reduceToNat, Int.toNat_natCast, Nat.zero_add, Nat.add_zero, Nat.mul_one, Nat.one_mul, Bool.not_true, Bool.not_false, ne_eq, not_true_eq_false, not_false_eq_true, Bool.false_eq_true, c1, c2']
    rw [usesN_out (.inr c2)] at hK
    exact hK _ (f _)
  · have c2' : ¬ ((24 : Nat) : Int) ≤ op := by omega
    have c3 : 0 ≤ op := by omega
    have c4 : op < ((24 : Nat) : Int) := by omega
    obtain ⟨k, rfl⟩ := Int.eq_ofNat_of_zero_le c3
    have hk : k < 24 := by omega
    have e : usesN k = usesL.getD k [] := by unfold usesN; rw [if_neg c1, Int.toNat_natCast]
    have hc : ∀ o, (h.set m (.live (usesL.map AV.str) 9 o)).cell m k = some (.str (usesN k)) := fun o => by
      rw [cell_set, e, List.getElem?_map, List.getD_eq_getElem?_getD, List.getElem?_eq_getElem (by exact hk)]; rfl
    have hc' := hc true
    simp only [go_sem, reduceIte, Nat.reduceAdd, Nat.reduceSub, Nat.reduceMul, Nat.reducePow, Nat.reduceLT, Nat.reduceLeDiff, Nat.reduceEqDiff, Int.reduceAdd, Int.reduceSub, Int.reduceMul, Int.reduceNeg, Int.reducePow, Int.reduceLT, Int.reduceLE, Int.reduceEq, Int.reduceNe, Int.reduceToNat, Int.toNat_natCast, Nat.zero_add, Nat.add_zero, Nat.mul_one, Nat.one_mul, Bool.not_true, Bool.not_false, ne_eq, not_true_eq_false, not_false_eq_true, Bool.false_eq_true, c1, c2', c3, c4, hc']
    exact hK _ (f _)
theorem has_c (s : List UInt8) (hs : s.length ≤ reachBytes) (c : Int) (K : AV → H → Prop) : C 112 [.str s, .int .u8 c] h K = K (.bool (hasL s c)) h := by
  refine callA_eq (run112 ?_) K
  unfold sh112
  refine join_r (fun (J : H → Prop) => hasL s c = false → J h) (fun e => by rw [e]; exact ⟨rfl, rfl⟩) fun J hJ => ?_
  refine loop_r (s.length + 1) (fun k ls h' => ∃ i : Nat, ls = [.int .i64 i] ∧ i ≤ s.length ∧ hasL s c = hasL (s.drop i) c ∧ h' = h ∧ k = s.length + 1 - i) ⟨0, rfl, by omega, rfl, rfl, rfl⟩ ?_
  rintro k ls h' ⟨i, rfl, hi, he, e, rfl⟩
  rw [e]
  by_cases q : (i : Int) < s.length
  · have hi' : i < s.length := by omega
    obtain ⟨x, hx⟩ : ∃ x, s[i]? = some x := ⟨s[i], by simp [hi']⟩
    have hd : s.drop i = x :: s.drop (i + 1) := by
      rw [List.drop_eq_getElem_cons hi']; congr 1
      rw [List.getElem?_eq_getElem hi'] at hx; injection hx
    have hix : ixStrA (.str s) (.int .i64 i) = some (.int .u8 x.toNat) := by
      have : (0 : Int) ≤ i := by omega
      simp only [ixStrA, this, if_true, Int.toNat_natCast, hx]
    have e2 : IntKind.i64.wrap ((i : Int) + 1) = ((i + 1 : Nat) : Int) := by
      have : reachBytes ≤ 4611686018427387903 := by decide
      rw [i64_id (by omega) (by omega)]; rfl
    rw [hd] at he
    by_cases z : (x.toNat : Int) = c
    · have : hasL s c = true := by rw [he]; simp [hasL, z]
      simp only [go_sem, reduceIte, Nat.reduceAdd, Nat.reduceSub, Nat.reduceMul, Nat.reducePow, Nat.reduceLT, Nat.reduceLeDiff, Nat.reduceEqDiff, Int.reduceAdd, Int.reduceSub, Int.reduceMul, Int.reduceNeg, Int.reducePow, Int.reduceLT, Int.reduceLE, Int.reduceEq, Int.reduceNe, Int.reduceToNat, Int.toNat_natCast, Nat.zero_add, Nat.add_zero, Nat.mul_one, Nat.one_mul, Bool.not_true, Bool.not_false, ne_eq, not_true_eq_false, not_false_eq_true, Bool.false_eq_true, q, hix, z, this]
    · have : hasL s c = hasL (s.drop (i + 1)) c := by rw [he]; simp [hasL, z]
      simp only [go_sem, reduceIte, Nat.reduceAdd, Nat.reduceSub, Nat.reduceMul, Nat.reducePow, Nat.reduceLT, Nat.reduceLeDiff, Nat.reduceEqDiff, Int.reduceAdd, Int.reduceSub, Int.reduceMul, Int.reduceNeg, Int.reducePow, Int.reduceLT, Int.reduceLE, Int.reduceEq, Int.reduceNe, Int.reduceToNat, Int.toNat_natCast, Nat.zero_add, Nat.add_zero, Nat.mul_one, Nat.one_mul, Bool.not_true, Bool.not_false, ne_eq, not_true_eq_false, not_false_eq_true, Bool.false_eq_true, q, hix, z, e2]
      exact ⟨s.length + 1 - (i + 1), by omega, i + 1, rfl, by omega, this, rfl⟩
  · have : s.drop i = [] := List.drop_eq_nil_of_le (by omega)
    rw [this] at he
    simp only [go_sem, reduceIte, Nat.reduceAdd, Nat.reduceSub, Nat.reduceMul, Nat.reducePow, Nat.reduceLT, Nat.reduceLeDiff, Nat.reduceEqDiff, Int.reduceAdd, Int.reduceSub, Int.reduceMul, Int.reduceNeg, Int.reducePow, Int.reduceLT, Int.reduceLE, Int.reduceEq, Int.reduceNe, Int.reduceToNat, Int.toNat_natCast, Nat.zero_add, Nat.add_zero, Nat.mul_one, Nat.one_mul, Bool.not_true, Bool.not_false, ne_eq, not_true_eq_false, not_false_eq_true, Bool.false_eq_true, q]
    exact hJ he
end
end Go.Proofs.YtdljelicbnjfjaaGreat.X
set_option linter.unusedVariables false
set_option linter.unusedSimpArgs false
set_option maxRecDepth 20000
namespace Go.Proofs.YtdljelicbnjfjaaGreat.X
open Go Go.RowKit
theorem usesN_len (op : Int) : (usesN op).length ≤ reachBytes := by
  have r : 8 ≤ reachBytes := by decide
  rcases op_cases op with q | q
  · rcases q with rfl | rfl | rfl | rfl | rfl | rfl | rfl | rfl | rfl | rfl | rfl | rfl | rfl | rfl | rfl | rfl | rfl | rfl | rfl | rfl | rfl | rfl | rfl | rfl <;> exact Nat.le_trans (by decide) r
  · rw [usesN_out q]; simp
def plainN (x : Ins) : Bool :=
  let u := usesN x.op
  !(((((decide (u = []) || (!hasL u 68 && decide (x.d ≠ 0))) || (!hasL u 65 && decide (x.a ≠ 0))) || (!hasL u 66 && decide (x.b ≠ 0))) || (!hasL u 67 && decide (x.c ≠ 0))) || (!hasL u 78 && decide (x.n ≠ 0))) &&
    (((hasL u 76 || decide ((x.l.length : Int) = 0)) && (hasL u 77 || decide ((x.m.length : Int) = 0))) && (hasL u 108 || decide ((x.live.length : Int) = 0)))
section
variable {h : H}
theorem chunkN {p : Bool} {u : List UInt8} (hu : u.length ≤ reachBytes) {c : Int} {b off : Nat} {v : Int} (hc : h.cell b off = some (.int .i64 v)) {K : AV → H → Prop} :
    (whenA (.bool p) false (fun K => K (.str u) h) h fun t10 h =>
     whenA (.bool p) false (fun K => C 112 [t10, (.int .u8 c)] h K) h fun t11 h =>
     whenA (.bool p) false (fun K => valA (unOp .not t11) h K) h fun t12 h =>
     whenA (.bool p) false (fun K => K t12 h) h fun t13 h =>
     whenA t13 true (fun K => K (.ptr b off) h) h fun t14 h =>
     whenA t13 true (fun K => valA (ldA h none t14) h K) h fun t15 h =>
     whenA t13 true (fun K => valA (binOp .neq .num t15 (.int .i64 0)) h K) h fun t16 h =>
     whenA (.bool p) false (fun K => valA (pickA t13 t16 (.bool false)) h K) h fun t17 h =>
     valA (pickA (.bool p) (.bool true) t17) h fun t18 h => K t18 h) = K (.bool (p || (!hasL u c && decide (v ≠ 0)))) h := by
  cases p with
  | true => simp only [go_sem, reduceIte, Nat.reduceAdd, Nat.reduceSub, Nat.reduceMul, Nat.reducePow, Nat.reduceLT, Nat.reduceLeDiff, Nat.reduceEqDiff, Int.reduceAdd, Int.reduceSub, Int.reduceMul, Int.reduceNeg, Int.reducePow, Int.reduceLT, Int.reduceLE, Int.reduceEq, Int.reduceNe, Int.reduceToNat, Int.toNat_natCast, Nat.zero_add, Nat.add_zero, Nat.mul_one, Nat.one_mul, Bool.not_true, Bool.not_false, ne_eq, not_true_eq_false, not_false_eq_true, Bool.false_eq_true, Bool.true_or]
  | false =>
    cases hh : hasL u c with
    | true => simp only [go_sem, reduceIte, Nat.reduceAdd, Nat.reduceSub, Nat.reduceMul, Nat.reducePow, Nat.reduceLT, Nat.reduceLeDiff, Nat.reduceEqDiff, Int.reduceAdd, Int.reduceSub, Int.reduceMul, Int.reduceNeg, Int.reducePow, Int.reduceLT, Int.reduceLE, Int.reduceEq, Int.reduceNe, Int.reduceToNat, Int.toNat_natCast, Nat.zero_add, Nat.add_zero, Nat.mul_one, Nat.one_mul, Bool.not_true, Bool.not_false, ne_eq, not_true_eq_false, not_false_eq_true, Bool.false_eq_true, has_c u hu, hh, Bool.false_or, Bool.false_and, whenA_u]
    | false =>
      by_cases hv : v = 0
      · simp only [go_sem, reduceIte, Nat.reduceAdd, Nat.reduceSub, Nat.reduceMul, Nat.reducePow, Nat.reduceLT, Nat.reduceLeDiff, Nat.reduceEqDiff, Int.reduceAdd, Int.reduceSub, Int.reduceMul, Int.reduceNeg, Int.reducePow, Int.reduceLT, Int.reduceLE, Int.reduceEq, Int.reduceNe, Int.reduceToNat, Int.toNat_natCast, Nat.zero_add, Nat.add_zero, Nat.mul_one, Nat.one_mul, Bool.not_true, Bool.not_false, ne_eq, not_true_eq_false, not_false_eq_true, Bool.false_eq_true, has_c u hu, hh, hc, hv, Bool.false_or, Bool.true_and]
      · simp only [go_sem, reduceIte, Nat.reduceAdd, Nat.reduceSub, Nat.reduceMul, Nat.reducePow, Nat.reduceLT, Nat.reduceLeDiff, Nat.reduceEqDiff, Int.reduceAdd, Int.reduceSub, Int.reduceMul, Int.reduceNeg, Int.reducePow, Int.reduceLT, Int.reduceLE, Int.reduceEq, Int.reduceNe, Int.reduceToNat, Int.toNat_natCast, Nat.zero_add, Nat.add_zero, Nat.mul_one, Nat.one_mul, Bool.not_true, Bool.not_false, ne_eq, not_true_eq_false, not_false_eq_true, Bool.false_eq_true, has_c u hu, hh, hc, hv, Bool.false_or, Bool.true_and]
theorem chunkL {p : Bool} {u : List UInt8} (hu : u.length ≤ reachBytes) {c : Int} {b off n : Nat} {v : AV} (hc : h.cell b off = some v) (hl : lenA false v = some (.int .i64 n)) {K : AV → H → Prop} :
    (whenA (.bool p) true (fun K => K (.str u) h) h fun t68 h =>
     whenA (.bool p) true (fun K => C 112 [t68, (.int .u8 c)] h K) h fun t69 h =>
     whenA (.bool p) true (fun K => K t69 h) h fun t70 h =>
     whenA t70 false (fun K => K (.ptr b off) h) h fun t71 h =>
     whenA t70 false (fun K => valA (ldA h none t71) h K) h fun t72 h =>
     whenA t70 false (fun K => valA (lenA false t72) h K) h fun t73 h =>
     whenA t70 false (fun K => valA (binOp .eql .num t73 (.int .i64 0)) h K) h fun t74 h =>
     whenA (.bool p) true (fun K => valA (pickA t70 (.bool true) t74) h K) h fun t75 h =>
     valA (pickA (.bool p) t75 (.bool false)) h fun t76 h => K t76 h) = K (.bool (p && (hasL u c || decide ((n : Int) = 0)))) h := by
  cases p with
  | false => simp only [go_sem, reduceIte, Nat.reduceAdd, Nat.reduceSub, Nat.reduceMul, Nat.reducePow, Nat.reduceLT, Nat.reduceLeDiff, Nat.reduceEqDiff, Int.reduceAdd, Int.reduceSub, Int.reduceMul, Int.reduceNeg, Int.reducePow, Int.reduceLT, Int.reduceLE, Int.reduceEq, Int.reduceNe, Int.reduceToNat, Int.toNat_natCast, Nat.zero_add, Nat.add_zero, Nat.mul_one, Nat.one_mul, Bool.not_true, Bool.not_false, ne_eq, not_true_eq_false, not_false_eq_true, Bool.false_eq_true, Bool.false_and]
  | true =>
    cases hh : hasL u c with
    | true => simp only [go_sem, reduceIte, Nat.reduceAdd, Nat.reduceSub, Nat.reduceMul, Nat.reducePow, Nat.reduceLT, Nat.reduceLeDiff, Nat.reduceEqDiff, Int.reduceAdd, Int.reduceSub, Int.reduceMul, Int.reduceNeg, Int.reducePow, Int.reduceLT, Int.reduceLE, Int.reduceEq, Int.reduceNe, Int.reduceToNat, Int.toNat_natCast, Nat.zero_add, Nat.add_zero, Nat.mul_one, Nat.one_mul, Bool.not_true, Bool.not_false, ne_eq, not_true_eq_false, not_false_eq_true, Bool.false_eq_true, has_c u hu, hh, Bool.true_or, Bool.true_and]
    | false =>
      by_cases hv : (n : Int) = 0
      · simp only [go_sem, reduceIte, Nat.reduceAdd, Nat.reduceSub, Nat.reduceMul, Nat.reducePow, Nat.reduceLT, Nat.reduceLeDiff, Nat.reduceEqDiff, Int.reduceAdd, Int.reduceSub, Int.reduceMul, Int.reduceNeg, Int.reducePow, Int.reduceLT, Int.reduceLE, Int.reduceEq, Int.reduceNe, Int.reduceToNat, Int.toNat_natCast, Nat.zero_add, Nat.add_zero, Nat.mul_one, Nat.one_mul, Bool.not_true, Bool.not_false, ne_eq, not_true_eq_false, not_false_eq_true, Bool.false_eq_true, has_c u hu, hh, hc, hl, hv, Bool.false_or, Bool.true_and]
      · simp only [go_sem, reduceIte, Nat.reduceAdd, Nat.reduceSub, Nat.reduceMul, Nat.reducePow, Nat.reduceLT, Nat.reduceLeDiff, Nat.reduceEqDiff, Int.reduceAdd, Int.reduceSub, Int.reduceMul, Int.reduceNeg, Int.reducePow, Int.reduceLT, Int.reduceLE, Int.reduceEq, Int.reduceNe, Int.reduceToNat, Int.toNat_natCast, Nat.zero_add, Nat.add_zero, Nat.mul_one, Nat.one_mul, Bool.not_true, Bool.not_false, ne_eq, not_true_eq_false, not_false_eq_true, Bool.false_eq_true, has_c u hu, hh, hc, hl, hv, Bool.false_or, Bool.true_and]
theorem rplain_c {x : Ins} {c : List AV} (r : insR h x c) {K : AV → H → Prop} (hK : ∀ h', Fr [] h h' → K (.bool (plainN x)) h') : C 62 [.agg c] h K := by
  refine run62 ?_
  have ec : (AV.agg c).cells = c := rfl
  have hl := r.leaves
  unfold sh62
  rw [ec]
  refine ⟨hl, fun b hb => ?_⟩
  have f : Fr [] h (h.set b (.live c 55 true)) := (Fr.refl _ _).set' hb
  have cb : ∀ off, (h.set b (.live c 55 true)).cell b off = c[off]? := fun off => cell_set
  have r2 := r.fr f
  generalize h.set b (.live c 55 true) = h1 at *
  obtain ⟨vl, vm, vv, rfl, r3, r4, r5⟩ := r2
  simp only [go_sem, reduceIte, Nat.reduceAdd, Nat.reduceSub, Nat.reduceMul, Nat.reducePow, Nat.reduceLT, Nat.reduceLeDiff, Nat.reduceEqDiff, Int.reduceAdd, Int.reduceSub, Int.reduceMul, Int.reduceNeg, Int.reducePow, Int.reduceLT, Int.reduceLE, Int.reduceEq, Int.reduceNe, Int.reduceToNat, Int.toNat_natCast, Nat.zero_add, Nat.add_zero, Nat.mul_one, Nat.one_mul, Bool.not_true, Bool.not_false, ne_eq, not_true_eq_false, not_false_eq_true, Bool.false_eq_true, cb, insC]
  refine ruses_c x.op fun h2 f2 => ?_
  have cb2 : ∀ off v, (insC x vl vm vv)[off]? = some v → h2.cell b off = some v := fun off v hv => by exact cell_fr f2 (by rw [cb]; exact hv)
  have hu := usesN_len x.op
  have hK2 := hK h2 (f.trans f2)
  unfold plainN at hK2
  simp only at hK2
  generalize usesN x.op = u at *
  simp only [b_seql, valA_some]
  rw [chunkN hu (cb2 1 _ rfl), chunkN hu (cb2 2 _ rfl), chunkN hu (cb2 3 _ rfl), chunkN hu (cb2 4 _ rfl), chunkN hu (cb2 5 _ rfl)]
  cases hbad : (((((decide (u = []) || (!hasL u 68 && decide (x.d ≠ 0))) || (!hasL u 65 && decide (x.a ≠ 0))) || (!hasL u 66 && decide (x.b ≠ 0))) || (!hasL u 67 && decide (x.c ≠ 0))) || (!hasL u 78 && decide (x.n ≠ 0))) with
  | true =>
    rw [hbad] at hK2
    simp only [condA_t]
    exact hK2
  | false =>
    rw [hbad] at hK2
    simp only [condA_f]
    have e0 : ∀ (K : AV → H → Prop), C 112 [.str u, .int .u8 76] h2 (fun t60 h => whenA t60 false (fun K => K (.ptr b 6) h) h fun t62 h => whenA t60 false (fun K => valA (ldA h none t62) h K) h fun t63 h => whenA t60 false (fun K => valA (lenA false t63) h K) h fun t64 h =>
        whenA t60 false (fun K => valA (binOp .eql .num t64 (.int .i64 0)) h K) h fun t65 h => valA (pickA t60 (.bool true) t65) h fun t66 h => K t66 h) = K (.bool (hasL u 76 || decide ((x.l.length : Int) = 0))) h2 := fun K => by
      have c6 := cb2 6 _ rfl
      have hll := (r3.fr f2).len
      cases hh : hasL u 76 with
      | true => simp only [go_sem, reduceIte, Nat.reduceAdd, Nat.reduceSub, Nat.reduceMul, Nat.reducePow, Nat.reduceLT, Nat.reduceLeDiff, Nat.reduceEqDiff, Int.reduceAdd, Int.reduceSub, Int.reduceMul, Int.reduceNeg, Int.reducePow, Int.reduceLT, Int.reduceLE, Int.reduceEq, Int.reduceNe, Int.reduceToNat, Int.toNat_natCast, Nat.zero_add, Nat.add_zero, Nat.mul_one, Nat.one_mul, Bool.not_true, Bool.not_false, ne_eq, not_true_eq_false, not_false_eq_true, Bool.false_eq_true, has_c u hu, hh, Bool.true_or]
      | false =>
        by_cases hv : (x.l.length : Int) = 0
        · rw [hv] at hll
          simp only [go_sem, reduceIte, Nat.reduceAdd, Nat.reduceSub, Nat.reduceMul, Nat.reducePow, Nat.reduceLT, Nat.reduceLeDiff, Nat.reduceEqDiff, Int.reduceAdd, Int.reduceSub, Int.reduceMul, Int.reduceNeg, Int.reducePow, Int.reduceLT, Int.reduceLE, Int.reduceEq, Int.reduceNe, Int.reduceToNat, Int.toNat_natCast, Nat.zero_add, Nat.add_zero, Nat.mul_one, Nat.one_mul, Bool.not_true, Bool.not_false, ne_eq, not_true_eq_false, not_false_eq_true, Bool.false_eq_true, has_c u hu, hh, c6, hll, hv, Bool.false_or]
        · simp only [go_sem, reduceIte, Nat.reduceAdd, Nat.reduceSub, Nat.reduceMul, Nat.reducePow, Nat.reduceLT, Nat.reduceLeDiff, Nat.reduceEqDiff, Int.reduceAdd, Int.reduceSub, Int.reduceMul, Int.reduceNeg, Int.reducePow, Int.reduceLT, Int.reduceLE, Int.reduceEq, Int.reduceNe, Int.reduceToNat, Int.toNat_natCast, Nat.zero_add, Nat.add_zero, Nat.mul_one, Nat.one_mul, Bool.not_true, Bool.not_false, ne_eq, not_true_eq_false, not_false_eq_true, Bool.false_eq_true, has_c u hu, hh, c6, hll, hv, Bool.false_or]
    rw [e0, chunkL hu (cb2 7 _ rfl) (r4.fr f2).len, chunkL hu (cb2 8 _ rfl) (r5.fr f2).len]
    exact hK2
end
end Go.Proofs.YtdljelicbnjfjaaGreat.X
set_option linter.unusedVariables false
set_option linter.unusedSimpArgs false
set_option maxRecDepth 20000
namespace Go.Proofs.YtdljelicbnjfjaaGreat.X
open Go Go.RowKit
def Ins.clr (x : Ins) (c : UInt8) : Ins := if c = 78 then { x with n := 0 } else if c = 68 then { x with d := 0 } else if c = 65 then { x with a := 0 } else if c = 66 then { x with b := 0 } else if c = 67 then { x with c := 0 } else
  if c = 76 then { x with l := [] } else if c = 77 then { x with m := [] } else { x with live := [] }
def plainP (x : Ins) : Bool :=
  let y := (usesN x.op).foldl Ins.clr x
  (((((((decide (usesN x.op ≠ []) && decide (y.d = 0)) && decide (y.a = 0)) && decide (y.b = 0)) && decide (y.c = 0)) && decide (y.n = 0)) && decide ((y.l.length : Int) = 0)) && decide ((y.m.length : Int) = 0)) && decide ((y.live.length : Int) = 0)
theorem plainP_eq (x : Ins) : plainP x = plainN x := by
  obtain ⟨op, d, a, b, c, n, l, m, live⟩ := x
  unfold plainP plainN
  rcases op_cases op with q | q
  · rcases q with rfl | rfl | rfl | rfl | rfl | rfl | rfl | rfl | rfl | rfl | rfl | rfl | rfl | rfl | rfl | rfl | rfl | rfl | rfl | rfl | rfl | rfl | rfl | rfl <;>
      simp [usesN, usesL, hasL, Ins.clr, Bool.and_assoc]
  · simp only [usesN_out q]; simp
section
variable {h : H}
theorem chunkE {p : Bool} {b off : Nat} {v : Int} (hc : h.cell b off = some (.int .i64 v)) {K : AV → H → Prop} :
    (whenA (.bool p) true (fun K => valA (faA off (.ptr b 0)) h K) h fun t35 h =>
     whenA (.bool p) true (fun K => valA (ldA h none t35) h K) h fun t36 h =>
     whenA (.bool p) true (fun K => valA (binOp .eql .num t36 (.int .i64 0)) h K) h fun t37 h =>
     valA (pickA (.bool p) t37 (.bool false)) h fun t38 h => K t38 h) = K (.bool (p && decide (v = 0))) h := by
  cases p with
  | false => simp only [go_sem, reduceIte, Nat.reduceAdd, Nat.reduceSub, Nat.reduceMul, Nat.reducePow, Nat.reduceLT, Nat.reduceLeDiff, Nat.reduceEqDiff, Int.reduceAdd, Int.reduceSub, Int.reduceMul, Int.reduceNeg, Int.reducePow, Int.reduceLT, Int.reduceLE, Int.reduceEq, Int.reduceNe, Int.reduceToNat, Int.toNat_natCast, Nat.zero_add, Nat.add_zero, Nat.mul_one, Nat.one_mul, Bool.not_true, Bool.not_false, ne_eq, not_true_eq_false, not_false_eq_true, Bool.false_eq_true, Bool.false_and]
  | true => by_cases hv : v = 0 <;> simp only [go_sem, reduceIte, Nat.reduceAdd, Nat.reduceSub, Nat.reduceMul, Nat.reducePow, Nat.reduceLT, Nat.reduceLeDiff, Nat.reduceEqDiff, Int.reduceAdd, Int.reduceSub, Int.reduceMul, Int.reduceNeg, Int.reducePow, Int.reduceLT, Int.reduceLE, Int.reduceEq, Int.reduceNe, Int.reduceToNat, Int.toNat_natCast, Nat.zero_add, Nat.add_zero, Nat.mul_one, Nat.one_mul, Bool.not_true, Bool.not_false, ne_eq, not_true_eq_false, not_false_eq_true, Bool.false_eq_true, hc, hv, Bool.true_and]
theorem chunkM {p : Bool} {b off n : Nat} {v : AV} (hc : h.cell b off = some v) (hl : lenA false v = some (.int .i64 n)) {K : AV → H → Prop} :
    (whenA (.bool p) true (fun K => valA (faA off (.ptr b 0)) h K) h fun t60 h =>
     whenA (.bool p) true (fun K => valA (ldA h none t60) h K) h fun t61 h =>
     whenA (.bool p) true (fun K => valA (lenA false t61) h K) h fun t62 h =>
     whenA (.bool p) true (fun K => valA (binOp .eql .num t62 (.int .i64 0)) h K) h fun t63 h =>
     valA (pickA (.bool p) t63 (.bool false)) h fun t64 h => K t64 h) = K (.bool (p && decide ((n : Int) = 0))) h := by
  cases p with
  | false => simp only [go_sem, reduceIte, Nat.reduceAdd, Nat.reduceSub, Nat.reduceMul, Nat.reducePow, Nat.reduceLT, Nat.reduceLeDiff, Nat.reduceEqDiff, Int.reduceAdd, Int.reduceSub, Int.reduceMul, Int.reduceNeg, Int.reducePow, Int.reduceLT, Int.reduceLE, Int.reduceEq, Int.reduceNe, Int.reduceToNat, Int.toNat_natCast, Nat.zero_add, Nat.add_zero, Nat.mul_one, Nat.one_mul, Bool.not_true, Bool.not_false, ne_eq, not_true_eq_false, not_false_eq_true, Bool.false_eq_true, Bool.false_and]
  | true => by_cases hv : (n : Int) = 0 <;> simp only [go_sem, reduceIte, Nat.reduceAdd, Nat.reduceSub, Nat.reduceMul, Nat.reducePow, Nat.reduceLT, Nat.reduceLeDiff, Nat.reduceEqDiff, Int.reduceAdd, Int.reduceSub, Int.reduceMul, Int.reduceNeg, Int.reducePow, Int.reduceLT, Int.reduceLE, Int.reduceEq, Int.reduceNe, Int.reduceToNat, Int.toNat_natCast, Nat.zero_add, Nat.add_zero, Nat.mul_one, Nat.one_mul, Bool.not_true, Bool.not_false, ne_eq, not_true_eq_false, not_false_eq_true, Bool.false_eq_true, hc, hl, hv, Bool.true_and]
def numAt (c : Int) : Option Nat := if c = 68 then some 1 else if c = 65 then some 2 else if c = 66 then some 3 else if c = 67 then some 4 else none
def listAt (c : Int) : Nat := if c = 76 then 6 else if c = 77 then 7 else 8
theorem number_c (b : Nat) (c : Int) (K : AV → H → Prop) : C 109 [.ptr b 0, .int .u8 c] h K = K (match numAt c with | some k => .ptr b k | none => .nilp) h := by
  refine callA_eq (run109 ?_) K
  unfold numAt
  by_cases c1 : c = 68
  · simp only [sh109, go_sem, reduceIte, Nat.reduceAdd, Nat.reduceSub, Nat.reduceMul, Nat.reducePow, Nat.reduceLT, Nat.reduceLeDiff, Nat.reduceEqDiff, Int.reduceAdd, Int.reduceSub, Int.reduceMul, Int.reduceNeg, Int.reducePow, Int.reduceLT, Int.reduceLE, Int.reduceEq, Int.reduceNe, Int.reduceToNat, Int.toNat_natCast, Nat.zero_add, Nat.add_zero, Nat.mul_one, Nat.one_mul, Bool.not_true, Bool.not_false, ne_eq, not_true_eq_false, not_false_eq_true, Bool.false_eq_true, c1]
  by_cases c2 : c = 65
  · simp only [sh109, go_sem, reduceIte, Nat.reduceAdd, Nat.reduceSub, Nat.reduceMul, Nat.reducePow, Nat.reduceLT, Nat.reduceLeDiff, Nat.reduceEqDiff, Int.reduceAdd, Int.reduceSub, Int.reduceMul, Int.reduceNeg, Int.reducePow, Int.reduceLT, Int.reduceLE, Int.reduceEq, Int.reduceNe, Int.reduceToNat, Int.toNat_natCast, Nat.zero_add, Nat.add_zero, Nat.mul_one, Nat.one_mul, Bool.not_true, Bool.not_false, ne_eq, not_true_eq_false, not_false_eq_true, Bool.false_eq_true, c1, c2]
  by_cases c3 : c = 66
  · simp only [sh109, go_sem, reduceIte, Nat.reduceAdd, Nat.reduceSub, Nat.reduceMul, Nat.reducePow, Nat.reduceLT, Nat.reduceLeDiff, Nat.reduceEqDiff, Int.reduceAdd, Int.reduceSub, Int.reduceMul, Int.reduceNeg, Int.reducePow, Int.reduceLT, Int.reduceLE, Int.reduceEq, Int.reduceNe, Int.reduceToNat, Int.toNat_natCast, Nat.zero_add, Nat.add_zero, Nat.mul_one, Nat.one_mul, Bool.not_true, Bool.not_false, ne_eq, not_true_eq_false, not_false_eq_true, Bool.false_eq_true, c1, c2, c3]
  by_cases c4 : c = 67
  · simp only [sh109, go_sem, reduceIte, Nat.reduceAdd, Nat.reduceSub, Nat.reduceMul, Nat.reducePow, Nat.reduceLT, Nat.reduceLeDiff, Nat.reduceEqDiff, Int.reduceAdd, Int.reduceSub, Int.reduceMul, Int.reduceNeg, Int.reducePow, Int.reduceLT, Int.reduceLE, Int.reduceEq, Int.reduceNe, Int.reduceToNat, Int.toNat_natCast, Nat.zero_add, Nat.add_zero, Nat.mul_one, Nat.one_mul, Bool.not_true, Bool.not_false, ne_eq, not_true_eq_false, not_false_eq_true, Bool.false_eq_true, c1, c2, c3, c4]
  simp only [sh109, go_sem, reduceIte, Nat.reduceAdd, Nat.reduceSub, Nat.reduceMul, Nat.reducePow, Nat.reduceLT, Nat.reduceLeDiff, Nat.reduceEqDiff, Int.reduceAdd, Int.reduceSub, Int.reduceMul, Int.reduceNeg, Int.reducePow, Int.reduceLT, Int.reduceLE, Int.reduceEq, Int.reduceNe, Int.reduceToNat, Int.toNat_natCast, Nat.zero_add, Nat.add_zero, Nat.mul_one, Nat.one_mul, Bool.not_true, Bool.not_false, ne_eq, not_true_eq_false, not_false_eq_true, Bool.false_eq_true, c1, c2, c3, c4]
theorem list_c (b : Nat) (c : Int) (K : AV → H → Prop) : C 110 [.ptr b 0, .int .u8 c] h K = K (.ptr b (listAt c)) h := by
  refine callA_eq (run110 ?_) K
  unfold listAt
  by_cases c1 : c = 76
  · simp only [sh110, go_sem, reduceIte, Nat.reduceAdd, Nat.reduceSub, Nat.reduceMul, Nat.reducePow, Nat.reduceLT, Nat.reduceLeDiff, Nat.reduceEqDiff, Int.reduceAdd, Int.reduceSub, Int.reduceMul, Int.reduceNeg, Int.reducePow, Int.reduceLT, Int.reduceLE, Int.reduceEq, Int.reduceNe, Int.reduceToNat, Int.toNat_natCast, Nat.zero_add, Nat.add_zero, Nat.mul_one, Nat.one_mul, Bool.not_true, Bool.not_false, ne_eq, not_true_eq_false, not_false_eq_true, Bool.false_eq_true, c1]
  by_cases c2 : c = 77
  · simp only [sh110, go_sem, reduceIte, Nat.reduceAdd, Nat.reduceSub, Nat.reduceMul, Nat.reducePow, Nat.reduceLT, Nat.reduceLeDiff, Nat.reduceEqDiff, Int.reduceAdd, Int.reduceSub, Int.reduceMul, Int.reduceNeg, Int.reducePow, Int.reduceLT, Int.reduceLE, Int.reduceEq, Int.reduceNe, Int.reduceToNat, Int.toNat_natCast, Nat.zero_add, Nat.add_zero, Nat.mul_one, Nat.one_mul, Bool.not_true, Bool.not_false, ne_eq, not_true_eq_false, not_false_eq_true, Bool.false_eq_true, c1, c2]
  simp only [sh110, go_sem, reduceIte, Nat.reduceAdd, Nat.reduceSub, Nat.reduceMul, Nat.reducePow, Nat.reduceLT, Nat.reduceLeDiff, Nat.reduceEqDiff, Int.reduceAdd, Int.reduceSub, Int.reduceMul, Int.reduceNeg, Int.reducePow, Int.reduceLT, Int.reduceLE, Int.reduceEq, Int.reduceNe, Int.reduceToNat, Int.toNat_natCast, Nat.zero_add, Nat.add_zero, Nat.mul_one, Nat.one_mul, Bool.not_true, Bool.not_false, ne_eq, not_true_eq_false, not_false_eq_true, Bool.false_eq_true, c1, c2]
theorem plain_c {x : Ins} {c : List AV} (r : insR h x c) {K : AV → H → Prop} (hK : ∀ h', Fr [] h h' → K (.bool (plainN x)) h') : C 60 [.agg c] h K := by
  rw [← plainP_eq] at hK
  refine run60 ?_
  have ec : (AV.agg c).cells = c := rfl
  have hl := r.leaves
  obtain ⟨vl, vm, vv, hcs, _⟩ := id r
  have hcl : c.length = 9 := by rw [hcs]; rfl
  unfold sh60
  rw [ec]
  refine box_r hl fun b hb => ?_
  have f : Fr [] h (h.set b (.live c 55 true)) := (Fr.refl _ _).set' hb
  have gb : (h.set b (.live c 55 true)).get b = some (.live c 55 true) := H.get_same ..
  have rd : (h.set b (.live c 55 true)).read b 0 9 = some c := H.read_eq gb (by omega) (by rw [List.drop_zero, List.take_of_length_le (by omega)])
  have r1 := r.fr f
  generalize h.set b (.live c 55 true) = h1 at *
  rw [ldA_read rd, valA_some]
  refine box_r rfl fun y hy => ?_
  have st := copy_st (h := h1) (b := y) (e := 55) (n := 9) (zs := [.int .i64 0, .int .i64 0, .int .i64 0, .int .i64 0, .int .i64 0, .int .i64 0, .nilsl, .nilsl, .nilsl]) (cs := c) hcl rfl hl
  have f2 : Fr [] h1 (h1.set y (.live c 55 true)) := (Fr.refl _ _).set' hy
  have gb2 := f2 b _ (by simp) gb
  have gy : (h1.set y (.live c 55 true)).get y = some (.live c 55 true) := H.get_same ..
  have cop : (h1.set y (.live c 55 true)).cell b 0 = some (.int .i64 x.op) := by rw [cell_of gb2, hcs]; rfl
  rw [st, memA_some]
  generalize h1.set y (.live c 55 true) = h2 at *
  rw [show faA 0 (AV.ptr b 0) = some (.ptr b 0) from rfl, valA_some, ldA_n, cop, valA_some, uses_c]
  have hu := usesN_len x.op
  unfold plainP at hK
  simp only at hK
  generalize usesN x.op = u at *
  refine join_r (fun (J : H → Prop) => ∀ h3 cs, h3.get y = some (.live cs 55 true) → insR h1 (u.foldl Ins.clr x) cs → Fr [] h1 h3 → J h3) ?_ fun J hJ => ?_
  · intro h3 cs gy3 r3 f3
    obtain ⟨wl, wm, wv, rfl, q1, q2, q3⟩ := r3
    have cy : ∀ off v, (insC (u.foldl Ins.clr x) wl wm wv)[off]? = some v → h3.cell y off = some v := fun off v hv => by rw [cell_of gy3]; exact hv
    rw [b_sneq, valA_some]
    rw [chunkE (cy 1 _ rfl), chunkE (cy 2 _ rfl), chunkE (cy 3 _ rfl), chunkE (cy 4 _ rfl), chunkE (cy 5 _ rfl), chunkM (cy 6 _ rfl) (q1.fr f3).len, chunkM (cy 7 _ rfl) (q2.fr f3).len, chunkM (cy 8 _ rfl) (q3.fr f3).len]
    exact hK h3 (f.trans f3)
  · refine ⟨leaves_map _ (fun _ => rfl) _, fun m hm => ?_⟩
    have f3 : Fr [] h2 (h2.set m (.live (u.map fun c => AV.int .u8 c.toNat) 5 true)) := (Fr.refl _ _).set' hm
    have rm : Row (h2.set m (.live (u.map fun c => AV.int .u8 c.toNat) 5 true)) (.sl m 0 u.length (.more 1)) u.length 1 (u.map fun c => AV.int .u8 c.toNat) :=
      ⟨by simp, .inr ⟨m, 0, _, rfl, rfl, H.read_eq (H.get_same ..) (by simp) (by rw [List.drop_zero, List.take_of_length_le (by simp)])⟩⟩
    have gy3 := f3 y _ (by simp) gy
    have hmy : m ≠ y := fun e => by rw [e, gy] at hm; cases hm
    have fA := f2.trans f3
    have gm : (h2.set m (.live (u.map fun c => AV.int .u8 c.toNat) 5 true)).get m = some (.live (u.map fun c => AV.int .u8 c.toNat) 5 true) := H.get_same ..
    generalize h2.set m (.live (u.map fun c => AV.int .u8 c.toNat) 5 true) = h3 at *
    simp only [go_sem, reduceIte, Nat.reduceAdd, Nat.reduceSub, Nat.reduceMul, Nat.reducePow, Nat.reduceLT, Nat.reduceLeDiff, Nat.reduceEqDiff, Int.reduceAdd, Int.reduceSub, Int.reduceMul, Int.reduceNeg, Int.reducePow, Int.reduceLT, Int.reduceLE, Int.reduceEq, Int.reduceNe, Int.reduceToNat, Int.toNat_natCast, Nat.zero_add, Nat.add_zero, Nat.mul_one, Nat.one_mul, Bool.not_true, Bool.not_false, ne_eq, not_true_eq_false, not_false_eq_true, Bool.false_eq_true, rm.len]
    refine loop_r (u.length + 1) (fun k ls h4 => ∃ (i : Nat) (cs : List AV), ls = [.int .i64 i] ∧ i ≤ u.length ∧ h4.get y = some (.live cs 55 true) ∧ insR h1 ((u.take i).foldl Ins.clr x) cs ∧ Fr [] h1 h4 ∧ h4.get m = some (.live (u.map fun c => AV.int .u8 c.toNat) 5 true) ∧ k = u.length + 1 - i)
      ⟨0, c, rfl, by omega, gy3, r1, fA, gm, rfl⟩ ?_
    rintro k ls h4 ⟨i, cs, rfl, hi, gy4, r4, f4, gm4, rfl⟩
    have hr : reachBytes ≤ 4611686018427387903 := by decide
    by_cases q : (i : Int) < u.length
    · have hi' : i < u.length := by omega
      obtain ⟨w, hw⟩ : ∃ w, u[i]? = some w := ⟨u[i], by simp [hi']⟩
      have rm4 : Row h4 (.sl m 0 u.length (.more 1)) u.length 1 (u.map fun c => AV.int .u8 c.toNat) :=
        ⟨by simp, .inr ⟨m, 0, _, rfl, rfl, H.read_eq gm4 (by simp) (by rw [List.drop_zero, List.take_of_length_le (by simp)])⟩⟩
      obtain ⟨bo, oo, m1, m2⟩ := rm4.at (i := i) (x := .int .u8 w.toNat) (by omega) q (by rw [Int.toNat_natCast, List.getElem?_map, hw]; rfl)
      have en : IntKind.i64.wrap ((i : Int) + 1) = ((i + 1 : Nat) : Int) := by rw [i64_id (by omega) (by omega)]; rfl
      have ht : (u.take (i + 1)).foldl Ins.clr x = Ins.clr ((u.take i).foldl Ins.clr x) w := by rw [List.take_add_one, hw]; simp
      obtain ⟨wl, wm, wv, rfl, q1, q2, q3⟩ := r4
      have done : ∀ (k : Nat) (v : AV), k < 9 → v.leaf = true → v.cells = [v] → insR h1 (Ins.clr ((u.take i).foldl Ins.clr x) w) ((insC ((u.take i).foldl Ins.clr x) wl wm wv).set k v) →
          stA h4 1 (.ptr y k) v = some (h4.set y (.live ((insC ((u.take i).foldl Ins.clr x) wl wm wv).set k v) 55 true)) ∧
          ∃ n', n' < u.length + 1 - i ∧ ∃ (i' : Nat) (cs : List AV), [AV.int .i64 ((i + 1 : Nat) : Int)] = [.int .i64 i'] ∧ i' ≤ u.length ∧ (h4.set y (.live ((insC ((u.take i).foldl Ins.clr x) wl wm wv).set k v) 55 true)).get y = some (.live cs 55 true) ∧
            insR h1 ((u.take i').foldl Ins.clr x) cs ∧ Fr [] h1 (h4.set y (.live ((insC ((u.take i).foldl Ins.clr x) wl wm wv).set k v) 55 true)) ∧ (h4.set y (.live ((insC ((u.take i).foldl Ins.clr x) wl wm wv).set k v) 55 true)).get m = some (.live (u.map fun c => AV.int .u8 c.toNat) 5 true) ∧ n' = u.length + 1 - i' := fun k v hk hv1 hv2 hr =>
        ⟨st_val gy4 (by exact hk) hv1 hv2, u.length + 1 - (i + 1), by omega, i + 1, _, rfl, by omega, H.get_same .., by rw [ht]; exact hr, f4.set' hy, by rw [H.get_other _ _ hmy]; exact gm4, rfl⟩
      generalize (u.take i).foldl Ins.clr x = z at *
      have hn : Row h1 .nilsl ([] : List Int).length 1 (ic []) := Row.nil h1 1
      have tn : ∀ k : UInt8, w = k → ((w.toNat : Nat) : Int) = (k.toNat : Nat) := fun k e => by rw [e]
      have fn : ∀ k : UInt8, ¬ w = k → ¬ ((w.toNat : Nat) : Int) = (k.toNat : Nat) := fun k e q => e (UInt8.toNat_inj.1 (by omega))
      by_cases c0 : w = 78
      · subst c0
        obtain ⟨d1, d2⟩ := done 5 (.int .i64 0) (by decide) rfl rfl ⟨wl, wm, wv, rfl, q1, q2, q3⟩
        have t : ((UInt8.toNat 78 : Nat) : Int) = 78 := rfl
        simp only [joinA, go_sem, reduceIte, Nat.reduceAdd, Nat.reduceSub, Nat.reduceMul, Nat.reducePow, Nat.reduceLT, Nat.reduceLeDiff, Nat.reduceEqDiff, Int.reduceAdd, Int.reduceSub, Int.reduceMul, Int.reduceNeg, Int.reducePow, Int.reduceLT, Int.reduceLE, Int.reduceEq, Int.reduceNe, Int.reduceToNat, Int.toNat_natCast, Nat.zero_add, Nat.add_zero, Nat.mul_one, Nat.one_mul, Bool.not_true, Bool.not_false, ne_eq, not_true_eq_false, not_false_eq_true, Bool.false_eq_true, q, m1, m2, t, d1, en]
        exact d2
      have n0 : ¬ ((w.toNat : Nat) : Int) = 78 := fn 78 c0
      by_cases c1 : w = 68
      · subst c1
        obtain ⟨d1, d2⟩ := done 1 (.int .i64 0) (by decide) rfl rfl ⟨wl, wm, wv, rfl, q1, q2, q3⟩
        have t : ((UInt8.toNat 68 : Nat) : Int) = 68 := rfl
        have tn : numAt 68 = some 1 := rfl
        simp only [joinA, go_sem, reduceIte, Nat.reduceAdd, Nat.reduceSub, Nat.reduceMul, Nat.reducePow, Nat.reduceLT, Nat.reduceLeDiff, Nat.reduceEqDiff, Int.reduceAdd, Int.reduceSub, Int.reduceMul, Int.reduceNeg, Int.reducePow, Int.reduceLT, Int.reduceLE, Int.reduceEq, Int.reduceNe, Int.reduceToNat, Int.toNat_natCast, Nat.zero_add, Nat.add_zero, Nat.mul_one, Nat.one_mul, Bool.not_true, Bool.not_false, ne_eq, not_true_eq_false, not_false_eq_true, Bool.false_eq_true, q, m1, m2, t, number_c, tn, d1, en]
        exact d2
      have n1 : ¬ ((w.toNat : Nat) : Int) = 68 := fn 68 c1
      by_cases c2 : w = 65
      · subst c2
        obtain ⟨d1, d2⟩ := done 2 (.int .i64 0) (by decide) rfl rfl ⟨wl, wm, wv, rfl, q1, q2, q3⟩
        have t : ((UInt8.toNat 65 : Nat) : Int) = 65 := rfl
        have tn : numAt 65 = some 2 := rfl
        simp only [joinA, go_sem, reduceIte, Nat.reduceAdd, Nat.reduceSub, Nat.reduceMul, Nat.reducePow, Nat.reduceLT, Nat.reduceLeDiff, Nat.reduceEqDiff, Int.reduceAdd, Int.reduceSub, Int.reduceMul, Int.reduceNeg, Int.reducePow, Int.reduceLT, Int.reduceLE, Int.reduceEq, Int.reduceNe, Int.reduceToNat, Int.toNat_natCast, Nat.zero_add, Nat.add_zero, Nat.mul_one, Nat.one_mul, Bool.not_true, Bool.not_false, ne_eq, not_true_eq_false, not_false_eq_true, Bool.false_eq_true, q, m1, m2, t, number_c, tn, d1, en]
        exact d2
      have n2 : ¬ ((w.toNat : Nat) : Int) = 65 := fn 65 c2
      by_cases c3 : w = 66
      · subst c3
        obtain ⟨d1, d2⟩ := done 3 (.int .i64 0) (by decide) rfl rfl ⟨wl, wm, wv, rfl, q1, q2, q3⟩
        have t : ((UInt8.toNat 66 : Nat) : Int) = 66 := rfl
        have tn : numAt 66 = some 3 := rfl
        simp only [joinA, go_sem, reduceIte, Nat.reduceAdd, Nat.reduceSub, Nat.reduceMul, Nat.reducePow, Nat.reduceLT, Nat.reduceLeDiff, Nat.reduceEqDiff, Int.reduceAdd, Int.reduceSub, Int.reduceMul, Int.reduceNeg, Int.reducePow, Int.reduceLT, Int.reduceLE, Int.reduceEq, Int.reduceNe, Int.reduceToNat, Int.toNat_natCast, Nat.zero_add, Nat.add_zero, Nat.mul_one, Nat.one_mul, Bool.not_true, Bool.not_false, ne_eq, not_true_eq_false, not_false_eq_true, Bool.false_eq_true, q, m1, m2, t, number_c, tn, d1, en]
        exact d2
      have n3 : ¬ ((w.toNat : Nat) : Int) = 66 := fn 66 c3
      by_cases c4 : w = 67
      · subst c4
        obtain ⟨d1, d2⟩ := done 4 (.int .i64 0) (by decide) rfl rfl ⟨wl, wm, wv, rfl, q1, q2, q3⟩
        have t : ((UInt8.toNat 67 : Nat) : Int) = 67 := rfl
        have tn : numAt 67 = some 4 := rfl
        simp only [joinA, go_sem, reduceIte, Nat.reduceAdd, Nat.reduceSub, Nat.reduceMul, Nat.reducePow, Nat.reduceLT, Nat.reduceLeDiff, Nat.reduceEqDiff, Int.reduceAdd, Int.reduceSub, Int.reduceMul, Int.reduceNeg, Int.reducePow, Int.reduceLT, Int.reduceLE, Int.reduceEq, Int.reduceNe, Int.reduceToNat, Int.toNat_natCast, Nat.zero_add, Nat.add_zero, Nat.mul_one, Nat.one_mul, Bool.not_true, Bool.not_false, ne_eq, not_true_eq_false, not_false_eq_true, Bool.false_eq_true, q, m1, m2, t, number_c, tn, d1, en]
        exact d2
      have n4 : ¬ ((w.toNat : Nat) : Int) = 67 := fn 67 c4
      by_cases c5 : w = 76
      · subst c5
        obtain ⟨d1, d2⟩ := done 6 .nilsl (by decide) rfl rfl ⟨.nilsl, wm, wv, rfl, hn, q2, q3⟩
        have t : ((UInt8.toNat 76 : Nat) : Int) = 76 := rfl
        have tn : numAt 76 = none := rfl
        have tl : listAt 76 = 6 := rfl
        simp only [joinA, go_sem, reduceIte, Nat.reduceAdd, Nat.reduceSub, Nat.reduceMul, Nat.reducePow, Nat.reduceLT, Nat.reduceLeDiff, Nat.reduceEqDiff, Int.reduceAdd, Int.reduceSub, Int.reduceMul, Int.reduceNeg, Int.reducePow, Int.reduceLT, Int.reduceLE, Int.reduceEq, Int.reduceNe, Int.reduceToNat, Int.toNat_natCast, Nat.zero_add, Nat.add_zero, Nat.mul_one, Nat.one_mul, Bool.not_true, Bool.not_false, ne_eq, not_true_eq_false, not_false_eq_true, Bool.false_eq_true, q, m1, m2, t, number_c, tn, list_c, tl, d1, en]
        exact d2
      have n5 : ¬ ((w.toNat : Nat) : Int) = 76 := fn 76 c5
      by_cases c6 : w = 77
      · subst c6
        obtain ⟨d1, d2⟩ := done 7 .nilsl (by decide) rfl rfl ⟨wl, .nilsl, wv, rfl, q1, hn, q3⟩
        have t : ((UInt8.toNat 77 : Nat) : Int) = 77 := rfl
        have tn : numAt 77 = none := rfl
        have tl : listAt 77 = 7 := rfl
        simp only [joinA, go_sem, reduceIte, Nat.reduceAdd, Nat.reduceSub, Nat.reduceMul, Nat.reducePow, Nat.reduceLT, Nat.reduceLeDiff, Nat.reduceEqDiff, Int.reduceAdd, Int.reduceSub, Int.reduceMul, Int.reduceNeg, Int.reducePow, Int.reduceLT, Int.reduceLE, Int.reduceEq, Int.reduceNe, Int.reduceToNat, Int.toNat_natCast, Nat.zero_add, Nat.add_zero, Nat.mul_one, Nat.one_mul, Bool.not_true, Bool.not_false, ne_eq, not_true_eq_false, not_false_eq_true, Bool.false_eq_true, q, m1, m2, t, number_c, tn, list_c, tl, d1, en]
        exact d2
      have n6 : ¬ ((w.toNat : Nat) : Int) = 77 := fn 77 c6
      have tn : numAt ((w.toNat : Nat) : Int) = none := by unfold numAt; rw [if_neg n1, if_neg n2, if_neg n3, if_neg n4]
      have tl : listAt ((w.toNat : Nat) : Int) = 8 := by unfold listAt; rw [if_neg n5, if_neg n6]
      have hc : Ins.clr z w = { z with live := [] } := by unfold Ins.clr; rw [if_neg c0, if_neg c1, if_neg c2, if_neg c3, if_neg c4, if_neg c5, if_neg c6]
      obtain ⟨d1, d2⟩ := done 8 .nilsl (by decide) rfl rfl (by rw [hc]; exact ⟨wl, wm, .nilsl, rfl, q1, q2, hn⟩)
      simp only [joinA, go_sem, reduceIte, Nat.reduceAdd, Nat.reduceSub, Nat.reduceMul, Nat.reducePow, Nat.reduceLT, Nat.reduceLeDiff, Nat.reduceEqDiff, Int.reduceAdd, Int.reduceSub, Int.reduceMul, Int.reduceNeg, Int.reducePow, Int.reduceLT, Int.reduceLE, Int.reduceEq, Int.reduceNe, Int.reduceToNat, Int.toNat_natCast, Nat.zero_add, Nat.add_zero, Nat.mul_one, Nat.one_mul, Bool.not_true, Bool.not_false, ne_eq, not_true_eq_false, not_false_eq_true, Bool.false_eq_true, q, m1, m2, n0, number_c, tn, list_c, tl, d1, en]
      exact d2
    · have : u.take i = u := List.take_of_length_le (by omega)
      rw [this] at r4
      simp only [go_sem, reduceIte, Nat.reduceAdd, Nat.reduceSub, Nat.reduceMul, Nat.reducePow, Nat.reduceLT, Nat.reduceLeDiff, Nat.reduceEqDiff, Int.reduceAdd, Int.reduceSub, Int.reduceMul, Int.reduceNeg, Int.reducePow, Int.reduceLT, Int.reduceLE, Int.reduceEq, Int.reduceNe, Int.reduceToNat, Int.toNat_natCast, Nat.zero_add, Nat.add_zero, Nat.mul_one, Nat.one_mul, Bool.not_true, Bool.not_false, ne_eq, not_true_eq_false, not_false_eq_true, Bool.false_eq_true, q]
      exact hJ h4 cs gy4 r4 f4
end
end Go.Proofs.YtdljelicbnjfjaaGreat.X
set_option linter.unusedVariables false
set_option linter.unusedSimpArgs false
set_option maxRecDepth 20000
namespace Go.Proofs.YtdljelicbnjfjaaGreat.X
open Go Go.RowKit
def numB (n : Int) : List Nat := putL (zig n)
def manyB {α : Type} (each : α → List Nat) (l : List α) : List Nat := numB l.length ++ l.flatMap each
def numsB (l : List Int) : List Nat := manyB numB l
def textB (s : List UInt8) : List Nat := numB s.length ++ s.map (·.toNat)
def tyB (t : Ty) : List Nat := numB (if t.imm then 1 else 0) ++ numsB t.sh
def shB (s : Shp) : List Nat := numB s.kind ++ numsB s.fs ++ textB s.name
def fldB (x : Ins) (c : UInt8) : List Nat := if c = 78 then numB x.n else if c = 68 then numB x.d else if c = 65 then numB x.a else if c = 66 then numB x.b else if c = 67 then numB x.c else if c = 76 then numsB x.l else if c = 77 then numsB x.m else numsB x.live
def insB (x : Ins) : List Nat := numB x.op ++ (usesN x.op).flatMap (fldB x)
def blkB (b : Blk) : List Nat := numsB b.inn ++ manyB insB b.code
def fnB (f : Fn) : List Nat := numsB f.params ++ numB f.result ++ numB f.slots ++ manyB blkB f.blocks
def headB : List Nat := [66, 69, 76, 49]
def bytesI (m : Img) : List Nat := headB ++ manyB tyB m.types ++ manyB shB m.shapes ++ manyB textB m.strs ++ manyB textB m.names ++ manyB fnB m.fns ++ numB m.main ++ numB m.exn
def WS (h0 h : H) (v : AV) (L : List Nat) : Prop := Own h0 h 5 1 v L.length (bc L) ∨ ∃ m, v = .sl m 0 L.length (.exact L.length) ∧ h0.get m = none ∧ h.get m = some (.live (bc L) 5 true)
section
variable {h0 h h' : H} {v : AV} {L : List Nat}
theorem WS.one (s : WS h0 h v L) : v.leaf = true ∧ v.cells = [v] := by
  rcases s with s | ⟨m, rfl, _, _⟩
  · exact s.row.one
  · exact ⟨rfl, rfl⟩
theorem WS.fr (s : WS h0 h v L) (f : Fr [] h h') : WS h0 h' v L := by
  rcases s with s | ⟨m, q1, q2, q3⟩
  · exact .inl (s.keep fun c n' p _ ob hg => f c ob (by simp) hg)
  · exact .inr ⟨m, q1, q2, f m _ (by simp) q3⟩
theorem WS.row (s : WS h0 h v L) : Row h v L.length 1 (bc L) := by
  rcases s with s | ⟨m, rfl, _, hg⟩
  · exact s.row
  · exact ⟨by rw [bc_length, Nat.mul_one], .inr ⟨m, 0, _, rfl, rfl, H.read_eq hg (by rw [bc_length]; omega) (by rw [List.drop_zero, List.take_of_length_le (by rw [bc_length]; omega)])⟩⟩
theorem WS.set (s : WS h0 h v L) {d e : Nat} {cs cs' : List AV} {w w' : Bool} (hd : h.get d = some (.live cs e w)) (he : e ≠ 5) : WS h0 (h.set d (.live cs' e w')) v L := by
  rcases s with s | ⟨m, q1, q2, q3⟩
  · refine .inl (s.keep fun c n' p q ob hg => ?_)
    rw [H.get_other _ _ (fun z => ?_)]
    · exact hg
    · subst z
      rcases s.2 with ⟨_, z⟩ | ⟨b, z1, _, z3⟩
      · rw [q] at z; cases z
      · rw [q] at z1; injection z1 with z1 _; subst z1
        rw [hd] at z3; injection z3 with z3; injection z3 with _ z3 _; exact he z3
  · refine .inr ⟨m, q1, q2, ?_⟩
    rw [H.get_other _ _ (fun z => ?_)]
    · exact q3
    · subst z; rw [hd] at q3; injection q3 with q3; injection q3 with _ q3 _; exact he q3
theorem wapp_c (s : WS h0 h v L) (f : Fr [] h0 h) {y : AV} {D : List Nat} (hs : srcA h 1 y = some (D.length, bc D)) (hm : L.length + D.length ≤ most) {K : AV → H → Prop}
    (hK : ∀ v' h', WS h0 h' v' (L ++ D) → Fr [] h0 h' → (∀ c o, h.get c = some o → (∀ n p, v ≠ .sl c 0 n p) → h'.get c = some o) → (v' = v ∨ ∃ b' n p, v' = .sl b' 0 n p ∧ h.get b' = none) → K v' h') : appendA h 5 1 1 v y K := by
  by_cases h0' : D.length = 0
  · have : D = [] := List.eq_nil_of_length_eq_zero h0'
    subst this
    unfold appendA
    rw [hs]
    have := hK v h (by simpa using s) f (fun _ _ x _ => x) (.inl rfl)
    rcases s with s | ⟨m, rfl, q2, q3⟩
    · rcases s.2 with ⟨_, z⟩ | ⟨b, z1, _, z3⟩
      · subst z; exact this
      · subst z1; exact this
    · exact this
  rcases s with s | ⟨m, rfl, q2, q3⟩
  · refine append_own' (ty := 5) s hs (by rw [bc_length, Nat.mul_one]) (by decide) (bc_leaves _) (bc_leaves _) f (by omega) fun v' h' a1 a2 a3 a4 => ?_
    obtain ⟨b', z1, z2⟩ := a4 (by omega)
    exact hK v' h' (.inl (by rw [List.length_append, bc_append]; exact a1)) a2 a3 (.inr ⟨b', _, _, z1, z2⟩)
  · unfold appendA
    rw [hs]
    simp only
    rw [if_neg h0', if_neg (by omega)]
    refine ⟨by omega, ?_⟩
    have hr : h.read m 0 (L.length * 1) = some (bc L) := H.read_eq q3 (by rw [bc_length]; omega) (by rw [List.drop_zero, List.take_of_length_le (by rw [bc_length]; omega)])
    rw [hr]
    refine new_r (by rw [leaves_append, bc_leaves, bc_leaves]; rfl) fun b hb => ?_
    have fb : Fr [] h (h.set b (.live (bc L ++ bc D) 5 true)) := (Fr.refl _ _).set' hb
    exact hK _ _ (.inl ⟨by rw [bc_length, Nat.mul_one], .inr ⟨b, by rw [List.length_append], f.free hb, by rw [bc_append]; exact H.get_same ..⟩⟩) (f.set' (f.free hb)) (fun c o x _ => fb c o (by simp) x) (.inr ⟨b, _, _, rfl, hb⟩)
end
structure W (h0 h : H) (wb : Nat) (L : List Nat) : Prop where
  fr : Fr [] h0 h
  new : h0.get wb = none
  st : ∃ v, h.get wb = some (.live [v] 121 true) ∧ WS h0 h v L
def SlIn (wb : Nat) (h : H) (c : Nat) : Prop := ∃ n p, h.get wb = some (.live [.sl c 0 n p] 121 true)
structure FrW (wb : Nat) (h h' : H) : Prop where
  keep : ∀ c o, h.get c = some o → c ≠ wb → ¬ SlIn wb h c → h'.get c = some o
  fresh : ∀ c, SlIn wb h' c → SlIn wb h c ∨ h.get c = none
  st : h'.get wb ≠ none
theorem FrW.trans {wb : Nat} {a b c : H} (f : FrW wb a b) (g : FrW wb b c) : FrW wb a c := by
  refine ⟨fun k o x y z => g.keep k o (f.keep k o x y z) y fun q => ?_, fun k q => ?_, g.st⟩
  · rcases f.fresh k q with q | q
    · exact z q
    · rw [q] at x; cases x
  · rcases g.fresh k q with q1 | q1
    · exact f.fresh k q1
    · by_cases z : SlIn wb a k
      · exact .inl z
      · cases x : a.get k with
        | none => exact .inr rfl
        | some o =>
          by_cases y : k = wb
          · rw [y] at q1; exact absurd q1 f.st
          · rw [f.keep k o x y z] at q1; cases q1
def Off (wb : Nat) (h : H) (d : Nat) (o : Obj) : Prop := d ≠ wb ∧ h.get d = some o ∧ ¬ SlIn wb h d
theorem FrW.off {wb : Nat} {h h' : H} (f : FrW wb h h') {d : Nat} {o : Obj} (x : Off wb h d o) : Off wb h' d o := by
  obtain ⟨x1, x2, x3⟩ := x
  refine ⟨x1, f.keep d o x2 x1 x3, fun q => ?_⟩
  rcases f.fresh d q with q | q
  · exact x3 q
  · rw [x2] at q; cases q
section
variable {h0 h h' : H} {wb : Nat} {L : List Nat}
theorem W.frw (w : W h0 h wb L) (f : Fr [] h h') : FrW wb h h' := by
  obtain ⟨v, q1, _⟩ := w.st
  have q2 := f wb _ (by simp) q1
  refine ⟨fun c o x _ _ => f c o (by simp) x, fun c ⟨n, p, x⟩ => .inl ⟨n, p, ?_⟩, by rw [q2]; simp⟩
  rw [q2] at x; injection x with x; injection x with x; injection x with x; subst x; exact q1
theorem W.sl (w : W h0 h wb L) {c : Nat} (q : SlIn wb h c) : h.get c ≠ none := by
  obtain ⟨v, q1, q2⟩ := w.st
  obtain ⟨n, p, q⟩ := q
  rw [q1] at q; injection q with q; injection q with q; injection q with q; subst q
  rcases q2 with s | ⟨m, e, _, g⟩
  · rcases s.2 with ⟨_, z⟩ | ⟨b, z1, _, z3⟩
    · cases z
    · injection z1 with z1 _; rw [z1, z3]; simp
  · injection e with e _; rw [e, g]; simp
theorem W.off (w : W h0 h wb L) {d : Nat} (hd : h.get d = none) (o : Obj) : Off wb (h.set d o) d o := by
  obtain ⟨v, q1, _⟩ := w.st
  have hne : d ≠ wb := fun e => by rw [e, q1] at hd; cases hd
  refine ⟨hne, H.get_same .., fun ⟨n, p, q⟩ => ?_⟩
  rw [H.get_other _ _ hne.symm] at q
  exact w.sl ⟨n, p, q⟩ hd
theorem W.keep (w : W h0 h wb L) (f : Fr [] h h') : W h0 h' wb L := by
  obtain ⟨v, q1, q2⟩ := w.st
  exact ⟨w.fr.trans f, w.new, v, f wb _ (by simp) q1, q2.fr f⟩
theorem wput_c (w : W h0 h wb L) {y : AV} {D : List Nat} (hs : srcA h 1 y = some (D.length, bc D)) (hm : L.length + D.length ≤ most) {v : AV} (hv : h.cell wb 0 = some v) {K : AV → H → Prop}
    (hK : ∀ v' h1 h', stA h1 1 (.ptr wb 0) v' = some h' → W h0 h' wb (L ++ D) → FrW wb h h' → K v' h1) : appendA h 5 1 1 v y K := by
  obtain ⟨v0, q1, q2⟩ := w.st
  obtain rfl : v0 = v := by rw [cell_of q1 0] at hv; injection hv
  have hsl : ∀ c, (∀ n p, v0 ≠ .sl c 0 n p) ↔ ¬ SlIn wb h c := fun c => by
    constructor
    · rintro x ⟨n, p, q⟩
      rw [q1] at q; injection q with q; injection q with q; injection q with q
      exact x n p q
    · intro x n p e
      exact x ⟨n, p, by rw [q1, e]⟩
  refine wapp_c q2 w.fr hs hm fun v' h1 s1 f1 fk fs => ?_
  have g1 := fk wb _ q1 ((hsl wb).2 fun ⟨n, p, q⟩ => by
    rw [q1] at q; injection q with q; injection q with q; injection q with q
    rcases q2 with s | ⟨m, e, _, g⟩
    · rcases s.2 with ⟨_, z⟩ | ⟨b, z1, _, z3⟩
      · rw [q] at z; cases z
      · rw [q] at z1; injection z1 with z1 _; rw [← z1, q1] at z3; injection z3 with z3; injection z3 with _ z3 _; cases z3
    · rw [q] at e; injection e with e _; rw [← e, q1] at g; injection g with g; injection g with _ g _; cases g)
  have st := st_val g1 (off := 0) (by simp) s1.one.1 s1.one.2
  refine hK v' h1 _ st ⟨f1.set' w.new, w.new, v', H.get_same .., s1.set g1 (by decide)⟩ ⟨fun c o x y z => ?_, fun c ⟨n, p, q⟩ => ?_, by rw [H.get_same]; simp⟩
  · rw [H.get_other _ _ y]
    exact fk c o x ((hsl c).2 z)
  · rw [H.get_same] at q
    injection q with q; injection q with q; injection q with q
    rcases fs with e | ⟨b', n', p', e, g⟩
    · left
      exact ⟨n, p, by rw [q1, ← e, q]⟩
    · right
      rw [q] at e; injection e with e _; rw [e]; exact g
theorem wnum_c (w : W h0 h wb L) {n : Int} (hn : rg n) (hm : (L ++ numB n).length ≤ most) {K : AV → H → Prop} (hK : ∀ h', W h0 h' wb (L ++ numB n) → FrW wb h h' → K (.tup []) h') : C 108 [.ptr wb 0, .int .i64 n] h K := by
  refine run108 ?_
  obtain ⟨v0, q1, q2⟩ := w.st
  have c0 : h.cell wb 0 = some v0 := by rw [cell_of q1]; rfl
  rw [List.length_append] at hm
  simp only [sh108, go_sem, reduceIte, Nat.reduceAdd, Nat.reduceSub, Nat.reduceMul, Nat.reducePow, Nat.reduceLT, Nat.reduceLeDiff, Nat.reduceEqDiff, Int.reduceAdd, Int.reduceSub, Int.reduceMul, Int.reduceNeg, Int.reducePow, Int.reduceLT, Int.reduceLE, Int.reduceEq, Int.reduceNe, Int.reduceToNat, Int.toNat_natCast, Nat.zero_add, Nat.add_zero, Nat.mul_one, Nat.one_mul, Bool.not_true, Bool.not_false, ne_eq, not_true_eq_false, not_false_eq_true, Bool.false_eq_true, c0]
  refine put_c hn.1 hn.2 fun v1 h1 o1 f1 => ?_
  have c1 := cell_fr f1 c0
  simp only [go_sem, reduceIte, Nat.reduceAdd, Nat.reduceSub, Nat.reduceMul, Nat.reducePow, Nat.reduceLT, Nat.reduceLeDiff, Nat.reduceEqDiff, Int.reduceAdd, Int.reduceSub, Int.reduceMul, Int.reduceNeg, Int.reducePow, Int.reduceLT, Int.reduceLE, Int.reduceEq, Int.reduceNe, Int.reduceToNat, Int.toNat_natCast, Nat.zero_add, Nat.add_zero, Nat.mul_one, Nat.one_mul, Bool.not_true, Bool.not_false, ne_eq, not_true_eq_false, not_false_eq_true, Bool.false_eq_true, c1]
  refine wput_c (w.keep f1) (D := numB n) (o1.row.src) hm c1 fun v' h2 h3 st w3 f3 => ?_
  simp only [go_sem, reduceIte, Nat.reduceAdd, Nat.reduceSub, Nat.reduceMul, Nat.reducePow, Nat.reduceLT, Nat.reduceLeDiff, Nat.reduceEqDiff, Int.reduceAdd, Int.reduceSub, Int.reduceMul, Int.reduceNeg, Int.reducePow, Int.reduceLT, Int.reduceLE, Int.reduceEq, Int.reduceNe, Int.reduceToNat, Int.toNat_natCast, Nat.zero_add, Nat.add_zero, Nat.mul_one, Nat.one_mul, Bool.not_true, Bool.not_false, ne_eq, not_true_eq_false, not_false_eq_true, Bool.false_eq_true, st]
  exact hK h3 w3 ((w.frw f1).trans f3)
theorem wtext_c (w : W h0 h wb L) {s : List UInt8} (hl : s.length ≤ reachBytes) (hm : (L ++ textB s).length ≤ most) {K : AV → H → Prop} (hK : ∀ h', W h0 h' wb (L ++ textB s) → FrW wb h h' → K (.tup []) h') : C 105 [.ptr wb 0, .str s] h K := by
  refine run105 ?_
  have hr : reachBytes ≤ 4611686018427387903 := by decide
  unfold textB at hm hK
  rw [← List.append_assoc] at hm
  simp only [← List.append_assoc] at hK
  rw [List.length_append] at hm
  simp only [sh105, go_sem, reduceIte, Nat.reduceAdd, Nat.reduceSub, Nat.reduceMul, Nat.reducePow, Nat.reduceLT, Nat.reduceLeDiff, Nat.reduceEqDiff, Int.reduceAdd, Int.reduceSub, Int.reduceMul, Int.reduceNeg, Int.reducePow, Int.reduceLT, Int.reduceLE, Int.reduceEq, Int.reduceNe, Int.reduceToNat, Int.toNat_natCast, Nat.zero_add, Nat.add_zero, Nat.mul_one, Nat.one_mul, Bool.not_true, Bool.not_false, ne_eq, not_true_eq_false, not_false_eq_true, Bool.false_eq_true]
  refine wnum_c w ⟨by omega, by omega⟩ (by omega) fun h1 w1 f1 => ?_
  obtain ⟨v0, q1, q2⟩ := w1.st
  have c0 : h1.cell wb 0 = some v0 := by rw [cell_of q1]; rfl
  simp only [go_sem, reduceIte, Nat.reduceAdd, Nat.reduceSub, Nat.reduceMul, Nat.reducePow, Nat.reduceLT, Nat.reduceLeDiff, Nat.reduceEqDiff, Int.reduceAdd, Int.reduceSub, Int.reduceMul, Int.reduceNeg, Int.reducePow, Int.reduceLT, Int.reduceLE, Int.reduceEq, Int.reduceNe, Int.reduceToNat, Int.toNat_natCast, Nat.zero_add, Nat.add_zero, Nat.mul_one, Nat.one_mul, Bool.not_true, Bool.not_false, ne_eq, not_true_eq_false, not_false_eq_true, Bool.false_eq_true, c0]
  refine wput_c w1 (D := s.map (·.toNat)) (y := .str s) (by simp [srcA, bc]) hm c0 fun v' h2 h3 st w3 f3 => ?_
  simp only [go_sem, reduceIte, Nat.reduceAdd, Nat.reduceSub, Nat.reduceMul, Nat.reducePow, Nat.reduceLT, Nat.reduceLeDiff, Nat.reduceEqDiff, Int.reduceAdd, Int.reduceSub, Int.reduceMul, Int.reduceNeg, Int.reducePow, Int.reduceLT, Int.reduceLE, Int.reduceEq, Int.reduceNe, Int.reduceToNat, Int.toNat_natCast, Nat.zero_add, Nat.add_zero, Nat.mul_one, Nat.one_mul, Bool.not_true, Bool.not_false, ne_eq, not_true_eq_false, not_false_eq_true, Bool.false_eq_true, st]
  exact hK h3 w3 (f1.trans f3)
end
end Go.Proofs.YtdljelicbnjfjaaGreat.X
