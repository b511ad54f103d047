/- Any number is brought among those of 63 bits, as the document says. For every input. -/
import Derived.Test.YtmbidelinmlhkaaPWordWrapsx2
import Derived.Test.YtmbidelinmlhkaaPlain
namespace Go.Proofs.Ytmbidelinmlhkaa.Pure
open Go.RowKit Go.Proofs.Ytmbidelinmlhkaa.PWordWraps Go.Proofs.YtmbidelinmlhkaaW.PrintWords Go.Proofs.YtmbidelinmlhkaaW.PrintLast Go.Proofs.YtmbidelinmlhkaaW.PrintMore Go.Proofs.Ytmbidelinmlhkaa.Plain

theorem lives_true : bellowslaw01_lives.f 200 = some true := by kernel_rfl
theorem wrap_f (n : Int) : word_Wrap.f n = some (W n) := by simp only [word_Wrap.f, wrap_half]
theorem ref_wrap1 (k : Nat) (n : Int) (h0 : -9223372036854775808 ≤ n) (h1 : n < 4611686018427387904) : bellowsref01_Wrap.l1 (k + 2) n = some (W n) := by
  rw [bellowsref01_Wrap.l1]
  split
  · rw [bellowsref01_Wrap.l1, if_neg (by unfold wrap64; omega)]
    congr 1; unfold wrap64 W; omega
  · congr 1; unfold W; omega
theorem ref_wrap (k : Nat) (n : Int) (h0 : -9223372036854775808 ≤ n) (h1 : n ≤ 9223372036854775807) : bellowsref01_Wrap.f (k + 5) n = some (W n) := by
  unfold bellowsref01_Wrap.f
  rw [bellowsref01_Wrap.l0]
  split
  · rw [bellowsref01_Wrap.l0, if_neg (by unfold wrap64; omega), ref_wrap1 _ _ (by unfold wrap64; omega) (by unfold wrap64; omega)]
    congr 1; unfold wrap64 W; omega
  · rw [ref_wrap1 _ _ h0 (by omega)]

theorem WordWraps : bellowslaw01_WordWraps.Pure := by
  intro n h
  have hn := i64_wf h
  refine ⟨200, ?_⟩
  unfold bellowslaw01_WordWraps.f
  simp only [wrap_f, ref_wrap 195 n hn.1 hn.2, Option.bind_some, if_true, lives_true]

end Go.Proofs.Ytmbidelinmlhkaa.Pure
