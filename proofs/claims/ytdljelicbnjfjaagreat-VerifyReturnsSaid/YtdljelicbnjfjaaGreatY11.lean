/- A function may answer, and throw, just what is of its type: the law. -/
import Derived.Test.YtdljelicbnjfjaaGreatYl
set_option linter.unusedVariables false
set_option maxRecDepth 100000
namespace Go.Proofs.YtdljelicbnjfjaaGreat.X
open Go Go.RowKit

theorem e11_f0 : gives ((evGZ S1 tabQ 61).1 11 [.int .u64 0, .bool false] Mem.empty) (.bool true) = true := by kernel_rfl
theorem e11_f1 : gives ((evGZ S1 tabQ 61).1 11 [.int .u64 1, .bool false] Mem.empty) (.bool true) = true := by kernel_rfl
theorem e11_t0 : gives ((evGZ S1 tabQ 61).1 11 [.int .u64 0, .bool true] Mem.empty) (.bool true) = true := by kernel_rfl
theorem e11_t1 : gives ((evGZ S1 tabQ 61).1 11 [.int .u64 1, .bool true] Mem.empty) (.bool true) = true := by kernel_rfl
theorem tab11 : tabQ 11 = some zf11 := by kernel_rfl
theorem sim11 : simOk [0, 25, 30, 93] 2 zf11.body = true := by kernel_rfl
theorem rest11 (k : Nat) (b : Bool) (n : Int) (h0 : 0 ≤ n) (m : Mem) : (evGG S1 tabQ (k + 1)).1 11 [.int .u64 n, .bool b] m = (evGG S1 tabQ (k + 1)).1 11 [.int .u64 (n % 2), .bool b] m := by
  rw [evGG_fun (by rfl) (by rfl) (by rfl) tab11, evGG_fun (by rfl) (by rfl) (by rfl) tab11]
  refine evFun_sim (D := [0, 25, 30, 93]) (M := 2) (t := 4) (by decide) (by decide) sim11 rfl (by decide) rfl (fun i hi => ?_) (fun i hi => ?_)
  · match i, hi with
    | 0, hi => simp at hi
    | i + 1, _ => rfl
  · match i, hi with
    | 0, _ => exact .inr ⟨.u64, n, n % 2, rfl, rfl, by omega, fun _ => ⟨h0, by omega⟩⟩
    | i + 1, _ => exact .inl rfl
theorem ev11 (b : Bool) (n : Int) (h0 : 0 ≤ n) : ∃ k m', (evGG S1 tabQ k).1 11 [.int .u64 n, .bool b] Mem.empty = some (.bool true, m') := by
  have go : ∀ r, n % 2 = r → gives ((evGZ S1 tabQ 61).1 11 [.int .u64 r, .bool b] Mem.empty) (.bool true) = true → ∃ k m', (evGG S1 tabQ k).1 11 [.int .u64 n, .bool b] Mem.empty = some (.bool true, m') := fun r e h => by
    obtain ⟨m', h⟩ := gives_some h
    rw [evGZ_eq, ← e] at h
    exact ⟨61, m', (rest11 60 b n h0 Mem.empty).trans h⟩
  have h : n % 2 = 0 ∨ n % 2 = 1 := by omega
  rcases h with h | h <;> cases b
  · exact go _ h e11_f0
  · exact go _ h e11_t0
  · exact go _ h e11_f1
  · exact go _ h e11_t1
theorem law11 (m : Mem) (ls : List (List AV)) (hl : SitsA reachBytes m [.int .u64, .bool] ls) : scal (argsOf [.int .u64, .bool] ls) = true ∧ ∃ k m', (evGG S1 tabQ k).1 11 (argsOf [.int .u64, .bool] ls) Mem.empty = some (.bool true, m') := by
  obtain ⟨l0, ls, rfl, h0, hl⟩ := sitsA_cons hl
  obtain ⟨l1, ls, rfl, h1, hl⟩ := sitsA_cons hl
  obtain rfl := sitsA_nil hl
  obtain ⟨n, rfl, hn⟩ := sits_int h0
  obtain ⟨b, rfl⟩ := sits_bool h1
  have : 0 ≤ n := by
    have : 0 ≤ n ∧ n ≤ 18446744073709551615 := by simpa [Lit.wf, IntKind.min, IntKind.max, IntKind.signed, IntKind.bits] using hn
    exact this.1
  exact ⟨rfl, ev11 b n this⟩
end Go.Proofs.YtdljelicbnjfjaaGreat.X
