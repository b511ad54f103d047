/- Any place as a pointer, and any word as a place, are what the document says. For every input. -/
import Derived.Test.YtmbidelinmlhkaaPWordPointersx2
import Derived.Test.YtmbidelinmlhkaaPlain
namespace Go.Proofs.Ytmbidelinmlhkaa.Pure
open Go.RowKit Go.Proofs.Ytmbidelinmlhkaa.PWordPointers Go.Proofs.YtmbidelinmlhkaaW.PrintWords Go.Proofs.YtmbidelinmlhkaaW.PrintLast Go.Proofs.YtmbidelinmlhkaaW.PrintMore Go.Proofs.Ytmbidelinmlhkaa.Plain

theorem lives_true : bellowslaw01_lives.f 200 = some true := by kernel_rfl
theorem wrap_f (n : Int) : word_Wrap.f n = some (W n) := by simp only [word_Wrap.f, wrap_half]
theorem ptr_f (n : Int) : word_Ptr.f n = some (n * 2 % 18446744073709551616) := by
  unfold word_Ptr.f; simp only [u64_wrap]
  rw [or_join 1 _ 0 (by omega) (by omega) (by omega) (by decide) (by decide) (by decide)]
  congr 1; omega
theorem isimm_f (w : Int) (h0 : 0 ≤ w) (h1 : w ≤ 18446744073709551615) : word_IsImm.f w = some (w % 2 == 1) := by
  unfold word_IsImm.f; rw [and1 w h0 h1]

theorem WordPointers : bellowslaw01_WordPointers.Pure := by
  intro a w ha hw
  have hw := u64_wf hw
  refine ⟨200, ?_⟩
  unfold bellowslaw01_WordPointers.f
  have e1 : IntKind.u64.wrap (IntKind.u64.wrap a * 2) = a * 2 % 18446744073709551616 := by simp only [u64_wrap]; omega
  have e2 : word_At.f w = some (wrap64 (IntKind.u64.wrap (Int.tdiv w 2))) := by
    unfold word_At.f; rw [Int.tdiv_eq_ediv_of_nonneg hw.1, u64_wrap]; congr 2; omega
  have e3 : (a * 2 % 18446744073709551616 % 2 == 1) = false := by simp
  rw [e1, e2, ptr_f]
  simp only [Option.bind_some, if_true]
  rw [isimm_f _ (by omega) (by omega), e3]
  simp only [Option.bind_some, Bool.false_eq_true, if_false, lives_true]

end Go.Proofs.Ytmbidelinmlhkaa.Pure
