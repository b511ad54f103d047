/- Any number divided by any other one, and what is left, are what the document says. For every input. -/
import Derived.Test.YtmbidelinmlhkaaPWordPartsx2
import Derived.Test.YtmbidelinmlhkaaPlain
namespace Go.Proofs.Ytmbidelinmlhkaa.Pure
open Go.RowKit Go.Proofs.Ytmbidelinmlhkaa.PWordParts Go.Proofs.YtmbidelinmlhkaaW.PrintWords Go.Proofs.YtmbidelinmlhkaaW.PrintLast Go.Proofs.YtmbidelinmlhkaaW.PrintMore Go.Proofs.Ytmbidelinmlhkaa.Plain

theorem lives_true : bellowslaw01_lives.f 200 = some true := by kernel_rfl
theorem wrap_f (n : Int) : word_Wrap.f n = some (W n) := by simp only [word_Wrap.f, wrap_half]
theorem ref_wrap1 (k : Nat) (n : Int) (h0 : -9223372036854775808 ≤ n) (h1 : n < 4611686018427387904) : bellowsref01_Wrap.l1 (k + 2) n = some (W n) := by
  rw [bellowsref01_Wrap.l1]
  split
  · rw [bellowsref01_Wrap.l1, if_neg (by unfold wrap64; omega)]
    congr 1; unfold wrap64 W; omega
  · congr 1; unfold W; omega
theorem ref_wrap (k : Nat) (n : Int) (h0 : -9223372036854775808 ≤ n) (h1 : n ≤ 9223372036854775807) : bellowsref01_Wrap.f (k + 5) n = some (W n) := by
  unfold bellowsref01_Wrap.f
  rw [bellowsref01_Wrap.l0]
  split
  · rw [bellowsref01_Wrap.l0, if_neg (by unfold wrap64; omega), ref_wrap1 _ _ (by unfold wrap64; omega) (by unfold wrap64; omega)]
    congr 1; unfold wrap64 W; omega
  · rw [ref_wrap1 _ _ h0 (by omega)]
/-- The quotient rounded down, and what is left. -/
theorem floor (a b : Int) (hb : b ≠ 0) : ∃ q r : Int, a = b * q + r ∧ (0 < b ∧ 0 ≤ r ∧ r < b ∨ b < 0 ∧ r ≤ 0 ∧ b < r) ∧
    ((Int.tmod a b = 0 ∨ ((decide (a < 0)) != (decide (b < 0))) = false) ∧ Int.tdiv a b = q ∧ Int.tmod a b = r ∨ Int.tmod a b ≠ 0 ∧ ((decide (a < 0)) != (decide (b < 0))) = true ∧ Int.tdiv a b = q + 1 ∧ Int.tmod a b = r - b) := by
  have hm := Int.mul_tdiv_add_tmod a b
  have hs : (0 ≤ a → 0 ≤ Int.tmod a b) ∧ (a < 0 → Int.tmod a b ≤ 0) := by
    constructor
    · exact fun h => Int.tmod_nonneg b h
    · intro h
      have h2 := Int.tmod_nonneg b (show 0 ≤ -a by omega)
      rw [Int.neg_tmod] at h2; omega
  have hl : -(b.natAbs : Int) < Int.tmod a b ∧ Int.tmod a b < b.natAbs := by
    have h1 : (Int.tmod a b).natAbs < b.natAbs := by rw [Int.natAbs_tmod]; exact Nat.mod_lt _ (by omega)
    omega
  by_cases h : Int.tmod a b ≠ 0 ∧ ((decide (a < 0)) != (decide (b < 0))) = true
  · obtain ⟨h1, h2⟩ := h
    have h2' : (a < 0 ↔ ¬ b < 0) := by
      by_cases x : a < 0 <;> by_cases y : b < 0 <;> simp [x, y] at h2 ⊢
    refine ⟨Int.tdiv a b - 1, Int.tmod a b + b, ?_, ?_, .inr ⟨h1, h2, by omega, by omega⟩⟩
    · rw [Int.mul_sub, Int.mul_one]; omega
    · rcases Int.lt_or_gt_of_ne hb with y | y
      · exact .inr ⟨y, by omega, by omega⟩
      · exact .inl ⟨y, by omega, by omega⟩
  · refine ⟨Int.tdiv a b, Int.tmod a b, hm.symm, ?_, .inl ⟨?_, rfl, rfl⟩⟩
    · by_cases h0 : Int.tmod a b = 0
      · omega
      · have h2 : ¬ ((decide (a < 0)) != (decide (b < 0))) = true := fun h3 => h ⟨h0, h3⟩
        have h2' : (a < 0 ↔ b < 0) := by
          by_cases x : a < 0 <;> by_cases y : b < 0 <;> simp [x, y] at h2 ⊢
        omega
    · by_cases h0 : Int.tmod a b = 0
      · exact .inl h0
      · exact .inr (by simpa using fun h3 => h ⟨h0, h3⟩)
theorem div_f (a b : Int) (hb : b ≠ 0) : ∃ q r : Int, a = b * q + r ∧ (0 < b ∧ 0 ≤ r ∧ r < b ∨ b < 0 ∧ r ≤ 0 ∧ b < r) ∧ word_Div.f a b = some (W q, true) ∧ word_Mod.f a b = some (W r, true) := by
  obtain ⟨q, r, h1, h2, h3⟩ := floor a b hb
  refine ⟨q, r, h1, h2, ?_⟩
  unfold word_Div.f word_Mod.f
  rw [if_neg hb, if_neg hb]
  have s0 : (0 ≤ a → 0 ≤ Int.tmod a b) ∧ (a < 0 → Int.tmod a b ≤ 0) := by
    constructor
    · exact fun h => Int.tmod_nonneg b h
    · intro h
      have h2 := Int.tmod_nonneg b (show 0 ≤ -a by omega)
      rw [Int.neg_tmod] at h2; omega
  have sg : Int.tmod a b ≠ 0 → ((decide (Int.tmod a b < 0)) != (decide (b < 0))) = ((decide (a < 0)) != (decide (b < 0))) := by
    intro h
    have e : decide (Int.tmod a b < 0) = decide (a < 0) := by
      by_cases x : a < 0
      · have := s0.2 x; simp [x]; omega
      · have := s0.1 (by omega); simp [x]; omega
    rw [e]
  rcases h3 with ⟨h3, h4, h5⟩ | ⟨h3, h3', h4, h5⟩
  · by_cases h0 : Int.tmod a b = 0
    · rw [if_pos h0, if_pos h0, wrap_f, wrap_f, h4, h5, W_wrap]; exact ⟨rfl, rfl⟩
    · have h6 := h3.resolve_left h0
      have h7 := sg h0
      rw [if_neg h0, if_neg h0, h7, h6, if_neg (by decide), if_neg (by decide), wrap_f, wrap_f, h4, h5, W_wrap]; exact ⟨rfl, rfl⟩
  · have h7 := sg h3
    rw [if_neg h3, if_neg h3, h7, h3', if_pos rfl, if_pos rfl, wrap_f, wrap_f, h4, h5, W_wrap, W_wrap]
    constructor
    · simp only [Option.bind_some]; congr 2
      rw [show wrap64 (q + 1) - 1 = wrap64 (q + 1) - 1 from rfl]; unfold wrap64 W; omega
    · simp only [Option.bind_some]; congr 2; congr 1; omega
theorem tdiv_bd (a b : Int) (h0 : -9223372036854775808 ≤ a) (h1 : a ≤ 9223372036854775807) : -9223372036854775808 ≤ Int.tdiv a b ∧ Int.tdiv a b ≤ 9223372036854775808 := by
  have h : (Int.tdiv a b).natAbs ≤ a.natAbs := by rw [Int.natAbs_tdiv]; exact Nat.div_le_self _ _
  omega
theorem ref_div (a b : Int) (a0 : -9223372036854775808 ≤ a) (a1 : a ≤ 9223372036854775807) (b0 : -9223372036854775808 ≤ b) (b1 : b ≤ 9223372036854775807) (hb : b ≠ 0) (q r : Int) (h1 : word_Div.f a b = some (q, true)) (h2 : word_Mod.f a b = some (r, true)) : bellowsref01_Div.f 200 a b = some (q, r, true) := by
  have hq := tdiv_bd a b a0 a1
  have hm := Int.mul_tdiv_add_tmod a b
  have hs : (0 ≤ a → 0 ≤ Int.tmod a b) ∧ (a < 0 → Int.tmod a b ≤ 0) := by
    constructor
    · exact fun h => Int.tmod_nonneg b h
    · intro h
      have h2 := Int.tmod_nonneg b (show 0 ≤ -a by omega)
      rw [Int.neg_tmod] at h2; omega
  have hl : -(b.natAbs : Int) < Int.tmod a b ∧ Int.tmod a b < b.natAbs := by
    have h1 : (Int.tmod a b).natAbs < b.natAbs := by rw [Int.natAbs_tmod]; exact Nat.mod_lt _ (by omega)
    omega
  have hr : wrap64 (a - wrap64 (wrap64 (Int.tdiv a b) * b)) = Int.tmod a b := by
    have c1 : wrap64 (wrap64 (Int.tdiv a b) * b) = wrap64 (Int.tdiv a b * b) := by
      have : wrap64 (Int.tdiv a b) % 18446744073709551616 = Int.tdiv a b % 18446744073709551616 := by unfold wrap64; omega
      have h3 : (wrap64 (Int.tdiv a b) * b) % 18446744073709551616 = (Int.tdiv a b * b) % 18446744073709551616 := by rw [Int.mul_emod, this, ← Int.mul_emod]
      generalize wrap64 (Int.tdiv a b) * b = x at h3
      generalize Int.tdiv a b * b = y at h3
      unfold wrap64; omega
    rw [c1, Int.mul_comm]
    generalize b * Int.tdiv a b = y at hm
    unfold wrap64; omega
  unfold bellowsref01_Div.f
  rw [if_neg hb, hr]
  unfold word_Div.f at h1; unfold word_Mod.f at h2
  rw [if_neg hb] at h1 h2
  generalize hT : Int.tmod a b = t at *
  generalize hQ : Int.tdiv a b = d at *
  have hw : -9223372036854775808 ≤ wrap64 d ∧ wrap64 d ≤ 9223372036854775807 := by unfold wrap64; omega
  have hy : wrap64 (t + b) = t + b ∨ ¬ ((t < 0 ∧ 0 < b) ∨ (0 < t ∧ b < 0)) := by
    by_cases h : (t < 0 ∧ 0 < b) ∨ (0 < t ∧ b < 0)
    · exact .inl (wrap_id (by omega) (by omega))
    · exact .inr h
  have no : bellowsref01_Div.j0 200 b (wrap64 d) t false = some (W (wrap64 d), W t, true) := by
    rw [bellowsref01_Div.j0, if_neg (by decide), ref_wrap 194 _ hw.1 hw.2, ref_wrap 194 _ (by omega) (by omega)]; rfl
  have yes : bellowsref01_Div.j0 200 b (wrap64 d) t true = some (W (wrap64 d - 1), W (t + b), true) := by
    have x0 : -9223372036854775808 ≤ wrap64 (wrap64 d - 1) ∧ wrap64 (wrap64 d - 1) ≤ 9223372036854775807 := by unfold wrap64; omega
    have y0 : -9223372036854775808 ≤ wrap64 (t + b) ∧ wrap64 (t + b) ≤ 9223372036854775807 := by unfold wrap64; omega
    rw [bellowsref01_Div.j0, if_pos rfl, ref_wrap 194 _ x0.1 x0.2, ref_wrap 194 _ y0.1 y0.2, W_wrap, W_wrap]; rfl
  by_cases t0 : t = 0
  · rw [if_pos t0] at h1 h2 ⊢
    rw [no]
    simp only [wrap_f, Option.bind_some, Option.some.injEq, Prod.mk.injEq, and_true] at h1 h2
    rw [h1, h2]
  · rw [if_neg t0] at h1 h2 ⊢
    by_cases x : a < 0 <;> by_cases y : b < 0
    · have e1 : t < 0 := by have := hs.2 x; omega
      simp only [x, y, e1, decide_true, bne_self_eq_false, Bool.false_eq_true, if_false, wrap_f, Option.bind_some, Option.some.injEq, Prod.mk.injEq, and_true] at h1 h2
      rw [if_pos e1, if_neg (by omega), if_neg (by omega), no, h1, h2]
    · have e1 : t < 0 := by have := hs.2 x; omega
      simp only [x, y, e1, decide_true, decide_false, bne_iff_ne, ne_eq, Bool.true_eq_false, not_false_eq_true, if_true, wrap_f, Option.bind_some, Option.some.injEq, Prod.mk.injEq, and_true, W_wrap] at h1 h2
      rw [if_pos e1, if_pos (by omega), yes, h1, h2]
    · have e1 : 0 < t := by have := hs.1 (by omega); omega
      have e2 : ¬ t < 0 := by omega
      simp only [x, y, e2, decide_true, decide_false, bne_iff_ne, ne_eq, Bool.false_eq_true, not_false_eq_true, if_true, wrap_f, Option.bind_some, Option.some.injEq, Prod.mk.injEq, and_true, W_wrap] at h1 h2
      rw [if_neg e2, if_pos (by omega)]; simp only [y, decide_true]; rw [yes, h1, h2]
    · have e1 : 0 < t := by have := hs.1 (by omega); omega
      have e2 : ¬ t < 0 := by omega
      simp only [x, y, e2, decide_false, bne_self_eq_false, Bool.false_eq_true, if_false, wrap_f, Option.bind_some, Option.some.injEq, Prod.mk.injEq, and_true] at h1 h2
      rw [if_neg e2, if_pos (by omega)]; simp only [y, decide_false]; rw [no, h1, h2]

theorem WordParts : bellowslaw01_WordParts.Pure := by
  intro a b ha hb
  have ha := i64_wf ha; have hb := i64_wf hb
  refine ⟨200, ?_⟩
  unfold bellowslaw01_WordParts.f
  by_cases h : b = 0
  · subst h
    have d : word_Div.f a 0 = some (0, false) := by unfold word_Div.f; rw [if_pos rfl]
    have m : word_Mod.f a 0 = some (0, false) := by unfold word_Mod.f; rw [if_pos rfl]
    have x : bellowsref01_Div.f 200 a 0 = some (0, 0, false) := by unfold bellowsref01_Div.f; rw [if_pos rfl]
    rw [d, m, x]
    simp [lives_true]
  · obtain ⟨q, r, h1, h2, h3, h4⟩ := div_f a b h
    rw [h3, h4, ref_div a b ha.1 ha.2 hb.1 hb.2 h _ _ h3 h4]
    simp [lives_true]

end Go.Proofs.Ytmbidelinmlhkaa.Pure
