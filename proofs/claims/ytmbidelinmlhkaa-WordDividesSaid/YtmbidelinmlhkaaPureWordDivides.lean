/- What is divided, times the divisor, and what is left, is the number; what is left has the sign of the divisor, and is less. For every input. -/
import Derived.Test.YtmbidelinmlhkaaPWordDividesx2
import Derived.Test.YtmbidelinmlhkaaPlain
namespace Go.Proofs.Ytmbidelinmlhkaa.Pure
open Go.RowKit Go.Proofs.Ytmbidelinmlhkaa.PWordDivides Go.Proofs.YtmbidelinmlhkaaW.PrintWords Go.Proofs.YtmbidelinmlhkaaW.PrintLast Go.Proofs.YtmbidelinmlhkaaW.PrintMore Go.Proofs.Ytmbidelinmlhkaa.Plain

theorem lives_true : bellowslaw01_lives.f 200 = some true := by kernel_rfl
theorem wrap_f (n : Int) : word_Wrap.f n = some (W n) := by simp only [word_Wrap.f, wrap_half]
theorem add_f (a b : Int) : word_Add.f a b = some (W (a + b)) := by simp only [word_Add.f, wrap_f, Option.bind_some, W_wrap]
theorem mul_f (a b : Int) : word_Mul.f a b = some (W (a * b)) := by simp only [word_Mul.f, wrap_f, Option.bind_some, W_wrap]
/-- The quotient rounded down, and what is left. -/
theorem floor (a b : Int) (hb : b ≠ 0) : ∃ q r : Int, a = b * q + r ∧ (0 < b ∧ 0 ≤ r ∧ r < b ∨ b < 0 ∧ r ≤ 0 ∧ b < r) ∧
    ((Int.tmod a b = 0 ∨ ((decide (a < 0)) != (decide (b < 0))) = false) ∧ Int.tdiv a b = q ∧ Int.tmod a b = r ∨ Int.tmod a b ≠ 0 ∧ ((decide (a < 0)) != (decide (b < 0))) = true ∧ Int.tdiv a b = q + 1 ∧ Int.tmod a b = r - b) := by
  have hm := Int.mul_tdiv_add_tmod a b
  have hs : (0 ≤ a → 0 ≤ Int.tmod a b) ∧ (a < 0 → Int.tmod a b ≤ 0) := by
    constructor
    · exact fun h => Int.tmod_nonneg b h
    · intro h
      have h2 := Int.tmod_nonneg b (show 0 ≤ -a by omega)
      rw [Int.neg_tmod] at h2; omega
  have hl : -(b.natAbs : Int) < Int.tmod a b ∧ Int.tmod a b < b.natAbs := by
    have h1 : (Int.tmod a b).natAbs < b.natAbs := by rw [Int.natAbs_tmod]; exact Nat.mod_lt _ (by omega)
    omega
  by_cases h : Int.tmod a b ≠ 0 ∧ ((decide (a < 0)) != (decide (b < 0))) = true
  · obtain ⟨h1, h2⟩ := h
    have h2' : (a < 0 ↔ ¬ b < 0) := by
      by_cases x : a < 0 <;> by_cases y : b < 0 <;> simp [x, y] at h2 ⊢
    refine ⟨Int.tdiv a b - 1, Int.tmod a b + b, ?_, ?_, .inr ⟨h1, h2, by omega, by omega⟩⟩
    · rw [Int.mul_sub, Int.mul_one]; omega
    · rcases Int.lt_or_gt_of_ne hb with y | y
      · exact .inr ⟨y, by omega, by omega⟩
      · exact .inl ⟨y, by omega, by omega⟩
  · refine ⟨Int.tdiv a b, Int.tmod a b, hm.symm, ?_, .inl ⟨?_, rfl, rfl⟩⟩
    · by_cases h0 : Int.tmod a b = 0
      · omega
      · have h2 : ¬ ((decide (a < 0)) != (decide (b < 0))) = true := fun h3 => h ⟨h0, h3⟩
        have h2' : (a < 0 ↔ b < 0) := by
          by_cases x : a < 0 <;> by_cases y : b < 0 <;> simp [x, y] at h2 ⊢
        omega
    · by_cases h0 : Int.tmod a b = 0
      · exact .inl h0
      · exact .inr (by simpa using fun h3 => h ⟨h0, h3⟩)
theorem div_f (a b : Int) (hb : b ≠ 0) : ∃ q r : Int, a = b * q + r ∧ (0 < b ∧ 0 ≤ r ∧ r < b ∨ b < 0 ∧ r ≤ 0 ∧ b < r) ∧ word_Div.f a b = some (W q, true) ∧ word_Mod.f a b = some (W r, true) := by
  obtain ⟨q, r, h1, h2, h3⟩ := floor a b hb
  refine ⟨q, r, h1, h2, ?_⟩
  unfold word_Div.f word_Mod.f
  rw [if_neg hb, if_neg hb]
  have s0 : (0 ≤ a → 0 ≤ Int.tmod a b) ∧ (a < 0 → Int.tmod a b ≤ 0) := by
    constructor
    · exact fun h => Int.tmod_nonneg b h
    · intro h
      have h2 := Int.tmod_nonneg b (show 0 ≤ -a by omega)
      rw [Int.neg_tmod] at h2; omega
  have sg : Int.tmod a b ≠ 0 → ((decide (Int.tmod a b < 0)) != (decide (b < 0))) = ((decide (a < 0)) != (decide (b < 0))) := by
    intro h
    have e : decide (Int.tmod a b < 0) = decide (a < 0) := by
      by_cases x : a < 0
      · have := s0.2 x; simp [x]; omega
      · have := s0.1 (by omega); simp [x]; omega
    rw [e]
  rcases h3 with ⟨h3, h4, h5⟩ | ⟨h3, h3', h4, h5⟩
  · by_cases h0 : Int.tmod a b = 0
    · rw [if_pos h0, if_pos h0, wrap_f, wrap_f, h4, h5, W_wrap]; exact ⟨rfl, rfl⟩
    · have h6 := h3.resolve_left h0
      have h7 := sg h0
      rw [if_neg h0, if_neg h0, h7, h6, if_neg (by decide), if_neg (by decide), wrap_f, wrap_f, h4, h5, W_wrap]; exact ⟨rfl, rfl⟩
  · have h7 := sg h3
    rw [if_neg h3, if_neg h3, h7, h3', if_pos rfl, if_pos rfl, wrap_f, wrap_f, h4, h5, W_wrap, W_wrap]
    constructor
    · simp only [Option.bind_some]; congr 2
      rw [show wrap64 (q + 1) - 1 = wrap64 (q + 1) - 1 from rfl]; unfold wrap64 W; omega
    · simp only [Option.bind_some]; congr 2; congr 1; omega

theorem WordDivides : bellowslaw01_WordDivides.Pure := by
  intro a b ha hb
  refine ⟨200, ?_⟩
  unfold bellowslaw01_WordDivides.f
  rw [wrap_f, wrap_f]
  simp only [Option.bind_some]
  have la := W_lo a; have ua := W_hi a; have lb := W_lo b; have ub := W_hi b
  generalize W a = a at *
  generalize W b = b at *
  by_cases h : b = 0
  · subst h
    have d : word_Div.f a 0 = some (0, false) := by unfold word_Div.f; rw [if_pos rfl]
    have m : word_Mod.f a 0 = some (0, false) := by unfold word_Mod.f; rw [if_pos rfl]
    rw [d, m]
    simp [lives_true]
  · obtain ⟨q, r, h1, h2, h3, h4⟩ := div_f a b h
    have hr : W r = r := W_id (by omega) (by omega)
    rw [h3, h4]
    simp only [Option.bind_some, if_neg h, if_true, mul_f, add_f, hr]
    rw [W_mul, W_add, Int.mul_comm, ← h1, W_id la ua]
    simp only [if_true]
    rcases h2 with ⟨h2, h5, h6⟩ | ⟨h2, h5, h6⟩
    · rw [if_pos (by omega), if_pos (by omega), if_pos (by omega), lives_true]; rfl
    · rw [if_neg (by omega), if_pos (by omega), if_pos (by omega), if_pos (by omega), lives_true]; rfl

end Go.Proofs.Ytmbidelinmlhkaa.Pure
