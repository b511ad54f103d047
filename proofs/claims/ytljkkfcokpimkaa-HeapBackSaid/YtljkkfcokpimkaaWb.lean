/- Numbers as bytes: plain facts, no program in sight. -/
import Derived.Test.YtljkkfcokpimkaaWp
namespace Go.Proofs.Ytljkkfcokpimkaa.X

def putL (x : Nat) : List Nat := if x < 128 then [x] else (x % 128 + 128) :: putL (x / 128)
def val : List Nat → Nat
  | [] => 0
  | d :: l => d % 128 + 128 * val l
def cut : List Nat → Nat → Option (List Nat)
  | [], _ => none
  | _ :: _, 0 => none
  | d :: l, k + 1 => if d < 128 then some [d] else (cut l k).map (d :: ·)
def zig (n : Int) : Nat := if n < 0 then (-2 * n - 1).toNat else (2 * n).toNat
def unz (x : Nat) : Int := if x % 2 = 1 then -((x / 2 : Nat) : Int) - 1 else ((x / 2 : Nat) : Int)
def decS (l : List Nat) (at_ : Int) : Int × Int × Bool :=
  if at_ < 0 ∨ (l.length : Int) ≤ at_ then (0, 0, false) else
  match cut (l.drop at_.toNat) 10 with
  | none => (0, 0, false)
  | some t => if putL (val t) = t ∧ val t < 2 ^ 64 then (unz (val t), at_ + t.length, true) else (0, 0, false)

theorem unz_zig (n : Int) : unz (zig n) = n := by unfold unz zig; split <;> split <;> omega
theorem zig_lt {n : Int} (h0 : -9223372036854775808 ≤ n) (h1 : n ≤ 9223372036854775807) : zig n < 2 ^ 64 := by unfold zig; split <;> omega
theorem zig_unz (x : Nat) : zig (unz x) = x := by unfold unz zig; split <;> split <;> omega
theorem zig_inj {a b : Int} (h : zig a = zig b) : a = b := by rw [← unz_zig a, h, unz_zig]
theorem putL_lt (x : Nat) : ∀ d ∈ putL x, d < 256 := by
  induction x using putL.induct with
  | case1 x h => rw [putL, if_pos h]; simp; omega
  | case2 x h ih =>
    rw [putL, if_neg h]
    intro d hd
    rcases List.mem_cons.1 hd with rfl | hd
    · omega
    · exact ih d hd
theorem putL_pos (x : Nat) : 0 < (putL x).length := by
  rw [putL]; split <;> simp
theorem val_putL (x : Nat) : val (putL x) = x := by
  induction x using putL.induct with
  | case1 x h => rw [putL, if_pos h]; simp [val]; omega
  | case2 x h ih =>
    rw [putL, if_neg h]
    simp only [val, ih]
    omega
theorem putL_inj {x y : Nat} (h : putL x = putL y) : x = y := by rw [← val_putL x, h, val_putL]
theorem putL_len {x : Nat} : ∀ k, x < 128 ^ (k + 1) → (putL x).length ≤ k + 1 := by
  induction x using putL.induct with
  | case1 x h => intro k _; rw [putL, if_pos h]; simp
  | case2 x h ih =>
    intro k hk
    rw [putL, if_neg h]
    cases k with
    | zero => simp at hk; omega
    | succ k =>
      have := ih k (by rw [Nat.pow_succ] at hk; exact Nat.div_lt_of_lt_mul (by rw [Nat.mul_comm]; exact hk))
      simpa using this
theorem cut_putL (x : Nat) (r : List Nat) : ∀ k, (putL x).length ≤ k → cut (putL x ++ r) k = some (putL x) := by
  induction x using putL.induct with
  | case1 x h =>
    intro k hk
    rw [putL, if_pos h] at hk ⊢
    cases k with
    | zero => simp at hk
    | succ k => simp [cut, h]
  | case2 x h ih =>
    intro k hk
    rw [putL, if_neg h] at hk ⊢
    cases k with
    | zero => simp at hk
    | succ k =>
      simp only [List.cons_append, cut]
      rw [if_neg (by omega), ih k (by simpa using hk)]
      rfl
theorem cut_some (p : List Nat) (d : Nat) (r : List Nat) : ∀ k, (∀ c ∈ p, 128 ≤ c) → d < 128 → p.length < k → cut (p ++ d :: r) k = some (p ++ [d]) := by
  induction p with
  | nil =>
    intro k _ hd hk
    cases k with
    | zero => simp at hk
    | succ k => simp [cut, hd]
  | cons c p ih =>
    intro k hp hd hk
    cases k with
    | zero => simp at hk
    | succ k =>
      simp only [List.cons_append, cut]
      rw [if_neg (by have := hp c (by simp); omega), ih k (fun c hc => hp c (by simp [hc])) hd (by simpa using hk)]
      rfl
theorem cut_none (p : List Nat) (r : List Nat) : ∀ k, (∀ c ∈ p, 128 ≤ c) → (r = [] ∨ p.length = k) → cut (p ++ r) k = none := by
  induction p with
  | nil =>
    intro k _ hr
    rcases hr with rfl | hr
    · cases k <;> rfl
    · simp at hr; subst hr; cases r <;> rfl
  | cons c p ih =>
    intro k hp hr
    cases k with
    | zero => rfl
    | succ k =>
      simp only [List.cons_append, cut]
      rw [if_neg (by have := hp c (by simp); omega), ih k (fun c hc => hp c (by simp [hc])) (by simpa using hr)]
      rfl
theorem val_append (p : List Nat) (d : Nat) : val (p ++ [d]) = val p + 128 ^ p.length * (d % 128) := by
  induction p with
  | nil => simp [val]
  | cons c p ih =>
    simp only [List.cons_append, val, ih, List.length_cons, Nat.pow_succ]
    rw [Nat.mul_add, ← Nat.add_assoc]
    congr 1
    rw [Nat.mul_comm (128 ^ p.length) 128, Nat.mul_assoc]
theorem val_lt (p : List Nat) : val p < 128 ^ p.length := by
  induction p with
  | nil => simp [val]
  | cons c p ih =>
    simp only [val, List.length_cons, Nat.pow_succ]
    omega
theorem putL_last {x : Nat} : ∀ q, putL x = q ++ [0] → q = [] := by
  induction x using putL.induct with
  | case1 x h =>
    intro q hq
    rw [putL, if_pos h] at hq
    cases q with
    | nil => rfl
    | cons a q => simp at hq
  | case2 x h ih =>
    intro q hq
    rw [putL, if_neg h] at hq
    cases q with
    | nil => simp at hq
    | cons a q =>
      simp only [List.cons_append, List.cons.injEq] at hq
      have := ih q hq.2
      subst this
      have h2 : putL (x / 128) = [0] := by simpa using hq.2
      have h3 := val_putL (x / 128)
      rw [h2] at h3
      simp [val] at h3
      omega
/-- Just what is without a nought behind is put so. -/
theorem canon (p : List Nat) (d : Nat) : (∀ c ∈ p, 128 ≤ c ∧ c < 256) → d < 128 → (putL (val (p ++ [d])) = p ++ [d] ↔ (p = [] ∨ d ≠ 0)) := by
  intro hp hd
  constructor
  · intro h
    by_cases h0 : d = 0
    · subst h0; exact .inl (putL_last p h)
    · exact .inr h0
  · intro h
    induction p with
    | nil => simp [val]; rw [Nat.mod_eq_of_lt hd, putL, if_pos hd]
    | cons c p ih =>
      have h0 : d ≠ 0 := by simpa using h
      have hc := hp c (by simp)
      have ih := ih (fun c hc => hp c (by simp [hc])) (.inr h0)
      have hpos : 0 < val (p ++ [d]) := by
        rw [val_append, Nat.mod_eq_of_lt hd]
        have : 0 < 128 ^ p.length * d := Nat.mul_pos (Nat.pow_pos (by decide)) (Nat.pos_of_ne_zero h0)
        omega
      simp only [List.cons_append, val]
      rw [putL, if_neg (by omega)]
      have e1 : (c % 128 + 128 * val (p ++ [d])) / 128 = val (p ++ [d]) := by omega
      rw [e1, ih]
      congr 1
      omega
end Go.Proofs.Ytljkkfcokpimkaa.X
