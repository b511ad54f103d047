/- The laws of the words that need no bytes, of whatever input. -/
import Derived.Test.YtljkkfcokpimkaaW6
set_option linter.unusedVariables false
set_option linter.unusedSimpArgs false
set_option maxRecDepth 20000
namespace Go.Proofs.Ytljkkfcokpimkaa.X
open Go Go.RowKit

theorem liesA_nil {h : H} {ls : List (List AV)} (hl : LiesA h [] ls) : ls = [] := by cases ls <;> first | rfl | exact hl.elim
theorem liesA_cons {h : H} {s : Sh} {ss : List Sh} {ls : List (List AV)} (hl : LiesA h (s :: ss) ls) : ∃ l ls', ls = l :: ls' ∧ Lies h s l ∧ LiesA h ss ls' := by
  cases ls with
  | nil => exact hl.elim
  | cons l ls => exact ⟨l, ls, rfl, hl.1, hl.2⟩
theorem lies_i64 {h : H} {l : List AV} (hl : Lies h (.int .i64) l) : ∃ n, l = [.int .i64 n] ∧ -9223372036854775808 ≤ n ∧ n < 9223372036854775808 := by
  simp only [Lies] at hl
  obtain ⟨n, rfl, hw⟩ := hl
  have := i64_wf hw
  exact ⟨n, rfl, by omega, by omega⟩
theorem lies_u64 {h : H} {l : List AV} (hl : Lies h (.int .u64) l) : ∃ n, l = [.int .u64 n] ∧ 0 ≤ n ∧ n < 18446744073709551616 := by
  simp only [Lies] at hl
  obtain ⟨n, rfl, hw⟩ := hl
  have := u64_wf hw
  exact ⟨n, rfl, by omega, by omega⟩
theorem lies_bool {h : H} {l : List AV} (hl : Lies h .bool l) : ∃ b, l = [.bool b] := by
  simpa only [Lies] using hl
theorem law3 (h : H) (ls : List (List AV)) (hl : LiesA h [.int .i64, .int .i64] ls) : C 3 (argsOf [.int .i64, .int .i64] ls) h yes := by
  obtain ⟨l0, ls, rfl, h0, hl⟩ := liesA_cons hl
  obtain ⟨l1, ls, rfl, h1, hl⟩ := liesA_cons hl
  obtain rfl := liesA_nil hl
  obtain ⟨a, rfl, a0, a1⟩ := lies_i64 h0
  obtain ⟨b, rfl, b0, b1⟩ := lies_i64 h1
  exact wordProducts_c a0 a1 b0 b1
theorem law4 (h : H) (ls : List (List AV)) (hl : LiesA h [.int .i64, .int .i64, .int .u64] ls) : C 4 (argsOf [.int .i64, .int .i64, .int .u64] ls) h yes := by
  obtain ⟨l0, ls, rfl, h0, hl⟩ := liesA_cons hl
  obtain ⟨l1, ls, rfl, h1, hl⟩ := liesA_cons hl
  obtain ⟨l2, ls, rfl, h2, hl⟩ := liesA_cons hl
  obtain rfl := liesA_nil hl
  obtain ⟨a, rfl, a0, a1⟩ := lies_i64 h0
  obtain ⟨b, rfl, b0, b1⟩ := lies_i64 h1
  obtain ⟨w, rfl, w0, w1⟩ := lies_u64 h2
  exact wordHeads_c a b w0 w1
theorem law5 (h : H) (ls : List (List AV)) (hl : LiesA h [.int .i64, .int .i64, .int .i64] ls) : C 5 (argsOf [.int .i64, .int .i64, .int .i64] ls) h yes := by
  obtain ⟨l0, ls, rfl, h0, hl⟩ := liesA_cons hl
  obtain ⟨l1, ls, rfl, h1, hl⟩ := liesA_cons hl
  obtain ⟨l2, ls, rfl, h2, hl⟩ := liesA_cons hl
  obtain rfl := liesA_nil hl
  obtain ⟨a, rfl, a0, a1⟩ := lies_i64 h0
  obtain ⟨b, rfl, b0, b1⟩ := lies_i64 h1
  obtain ⟨c, rfl, c0, c1⟩ := lies_i64 h2
  exact wordRing_c a b c
theorem law6 (h : H) (ls : List (List AV)) (hl : LiesA h [.int .u64, .bool, .int .i64] ls) : C 6 (argsOf [.int .u64, .bool, .int .i64] ls) h yes := by
  obtain ⟨l0, ls, rfl, h0, hl⟩ := liesA_cons hl
  obtain ⟨l1, ls, rfl, h1, hl⟩ := liesA_cons hl
  obtain ⟨l2, ls, rfl, h2, hl⟩ := liesA_cons hl
  obtain rfl := liesA_nil hl
  obtain ⟨w, rfl, w0, w1⟩ := lies_u64 h0
  obtain ⟨b, rfl⟩ := lies_bool h1
  obtain ⟨k, rfl, k0, k1⟩ := lies_i64 h2
  exact wordMarks_c w0 w1 b k
end Go.Proofs.Ytljkkfcokpimkaa.X
