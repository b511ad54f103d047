/- What a collection does not hold cannot be read behind it: the law. -/
import Derived.Test.YtdljelicbnjfjaaGreatYl
set_option linter.unusedVariables false
set_option maxRecDepth 100000
namespace Go.Proofs.YtdljelicbnjfjaaGreat.X
open Go Go.RowKit

theorem e9_f0 : gives ((evGZ S1 tabQ 61).1 9 [.bool false, .int .i64 0] Mem.empty) (.bool true) = true := by kernel_rfl
theorem e9_f1 : gives ((evGZ S1 tabQ 61).1 9 [.bool false, .int .i64 1] Mem.empty) (.bool true) = true := by kernel_rfl
theorem e9_f2 : gives ((evGZ S1 tabQ 61).1 9 [.bool false, .int .i64 2] Mem.empty) (.bool true) = true := by kernel_rfl
theorem e9_f3 : gives ((evGZ S1 tabQ 61).1 9 [.bool false, .int .i64 3] Mem.empty) (.bool true) = true := by kernel_rfl
theorem e9_t0 : gives ((evGZ S1 tabQ 61).1 9 [.bool true, .int .i64 0] Mem.empty) (.bool true) = true := by kernel_rfl
theorem e9_t1 : gives ((evGZ S1 tabQ 61).1 9 [.bool true, .int .i64 1] Mem.empty) (.bool true) = true := by kernel_rfl
theorem e9_t2 : gives ((evGZ S1 tabQ 61).1 9 [.bool true, .int .i64 2] Mem.empty) (.bool true) = true := by kernel_rfl
theorem e9_t3 : gives ((evGZ S1 tabQ 61).1 9 [.bool true, .int .i64 3] Mem.empty) (.bool true) = true := by kernel_rfl
theorem tab9 : tabQ 9 = some zf9 := by kernel_rfl
theorem sim9 : simOk [1, 24, 25] 4 zf9.body = true := by kernel_rfl
theorem rest9 (k : Nat) (b : Bool) (n : Int) (m : Mem) : (evGG S1 tabQ (k + 1)).1 9 [.bool b, .int .i64 n] m = (evGG S1 tabQ (k + 1)).1 9 [.bool b, .int .i64 (n % 4)] m := by
  rw [evGG_fun (by rfl) (by rfl) (by rfl) tab9, evGG_fun (by rfl) (by rfl) (by rfl) tab9]
  refine evFun_sim (D := [1, 24, 25]) (M := 4) (t := 4) (by decide) (by decide) sim9 rfl (by decide) rfl (fun i hi => ?_) (fun i hi => ?_)
  · match i, hi with
    | 0, _ => rfl
    | 1, hi => simp at hi
    | i + 2, _ => rfl
  · match i, hi with
    | 0, hi => simp at hi
    | 1, _ => exact .inr ⟨.i64, n, n % 4, rfl, rfl, by omega, fun h => by cases h⟩
    | i + 2, _ => exact .inl rfl
theorem ev9 (b : Bool) (n : Int) : ∃ k m', (evGG S1 tabQ k).1 9 [.bool b, .int .i64 n] Mem.empty = some (.bool true, m') := by
  have go : ∀ r, n % 4 = r → gives ((evGZ S1 tabQ 61).1 9 [.bool b, .int .i64 r] Mem.empty) (.bool true) = true → ∃ k m', (evGG S1 tabQ k).1 9 [.bool b, .int .i64 n] Mem.empty = some (.bool true, m') := fun r e h => by
    obtain ⟨m', h⟩ := gives_some h
    rw [evGZ_eq, ← e] at h
    exact ⟨61, m', (rest9 60 b n Mem.empty).trans h⟩
  have h : n % 4 = 0 ∨ n % 4 = 1 ∨ n % 4 = 2 ∨ n % 4 = 3 := by omega
  rcases h with h | h | h | h <;> cases b
  · exact go _ h e9_f0
  · exact go _ h e9_t0
  · exact go _ h e9_f1
  · exact go _ h e9_t1
  · exact go _ h e9_f2
  · exact go _ h e9_t2
  · exact go _ h e9_f3
  · exact go _ h e9_t3
theorem law9 (m : Mem) (ls : List (List AV)) (hl : SitsA reachBytes m [.bool, .int .i64] ls) : scal (argsOf [.bool, .int .i64] ls) = true ∧ ∃ k m', (evGG S1 tabQ k).1 9 (argsOf [.bool, .int .i64] ls) Mem.empty = some (.bool true, m') := by
  obtain ⟨l0, ls, rfl, h0, hl⟩ := sitsA_cons hl
  obtain ⟨l1, ls, rfl, h1, hl⟩ := sitsA_cons hl
  obtain rfl := sitsA_nil hl
  obtain ⟨b, rfl⟩ := sits_bool h0
  obtain ⟨n, rfl, _⟩ := sits_int h1
  exact ⟨rfl, ev9 b n⟩
end Go.Proofs.YtdljelicbnjfjaaGreat.X
