/- Any number as an immediate, and any word as a number, are what the document says. For every input. -/
import Derived.Test.YtmbidelinmlhkaaPWordImmsx2
import Derived.Test.YtmbidelinmlhkaaPlain
namespace Go.Proofs.Ytmbidelinmlhkaa.Pure
open Go.RowKit Go.Proofs.Ytmbidelinmlhkaa.PWordImms Go.Proofs.YtmbidelinmlhkaaW.PrintWords Go.Proofs.YtmbidelinmlhkaaW.PrintLast Go.Proofs.YtmbidelinmlhkaaW.PrintMore Go.Proofs.Ytmbidelinmlhkaa.Plain

theorem lives_true : bellowslaw01_lives.f 200 = some true := by kernel_rfl
theorem wrap_f (n : Int) : word_Wrap.f n = some (W n) := by simp only [word_Wrap.f, wrap_half]
theorem ref_wrap1 (k : Nat) (n : Int) (h0 : -9223372036854775808 ≤ n) (h1 : n < 4611686018427387904) : bellowsref01_Wrap.l1 (k + 2) n = some (W n) := by
  rw [bellowsref01_Wrap.l1]
  split
  · rw [bellowsref01_Wrap.l1, if_neg (by unfold wrap64; omega)]
    congr 1; unfold wrap64 W; omega
  · congr 1; unfold W; omega
theorem ref_wrap (k : Nat) (n : Int) (h0 : -9223372036854775808 ≤ n) (h1 : n ≤ 9223372036854775807) : bellowsref01_Wrap.f (k + 5) n = some (W n) := by
  unfold bellowsref01_Wrap.f
  rw [bellowsref01_Wrap.l0]
  split
  · rw [bellowsref01_Wrap.l0, if_neg (by unfold wrap64; omega), ref_wrap1 _ _ (by unfold wrap64; omega) (by unfold wrap64; omega)]
    congr 1; unfold wrap64 W; omega
  · rw [ref_wrap1 _ _ h0 (by omega)]
theorem power1 : bellowsref01_power.f 200 1 = some 2 := by kernel_rfl
theorem power20 : bellowsref01_power.f 200 20 = some 1048576 := by kernel_rfl
theorem power21 : bellowsref01_power.f 200 21 = some 2097152 := by kernel_rfl
theorem power41 : bellowsref01_power.f 200 41 = some 2199023255552 := by kernel_rfl
theorem power42 : bellowsref01_power.f 200 42 = some 4398046511104 := by kernel_rfl
theorem power62 : bellowsref01_power.f 200 62 = some 4611686018427387904 := by kernel_rfl
theorem imm_f (n : Int) : word_Imm.f n = some (n * 2 % 18446744073709551616 + 1) := by
  unfold word_Imm.f; simp only [u64_wrap]
  rw [or_join 1 _ 1 (by omega) (by omega) (by omega) (by decide) (by decide) (by decide)]
  congr 1; omega
theorem isimm_f (w : Int) (h0 : 0 ≤ w) (h1 : w ≤ 18446744073709551615) : word_IsImm.f w = some (w % 2 == 1) := by
  unfold word_IsImm.f; rw [and1 w h0 h1]

theorem WordImms : bellowslaw01_WordImms.Pure := by
  intro n w hn hw
  have hn := i64_wf hn; have hw := u64_wf hw
  refine ⟨200, ?_⟩
  unfold bellowslaw01_WordImms.f
  have e1 : bellowsref01_Imm.f 200 n = some (n * 2 % 18446744073709551616 + 1) := by
    unfold bellowsref01_Imm.f
    rw [ref_wrap 195 n hn.1 hn.2]
    simp only [Option.bind_some, u64_wrap]
    congr 1; unfold W; omega
  have e2 : bellowsref01_Int.f 200 w = word_Int.f w := by
    unfold bellowsref01_Int.f word_Int.f
    rw [power62]
    simp only [Option.bind_some, u64_wrap]
    rw [Int.tdiv_eq_ediv_of_nonneg hw.1]
    split
    · congr 1; unfold wrap64; omega
    · congr 1; unfold wrap64; omega
  have e3 : (w % 2 == 1) = (Int.tmod w 2 == 1) := by rw [Int.tmod_eq_emod_of_nonneg hw.1]
  rw [imm_f, e1, e2, isimm_f w hw.1 hw.2, e3]
  unfold word_Int.f
  simp only [Option.bind_some, if_true, beq_self_eq_true, lives_true]

end Go.Proofs.Ytmbidelinmlhkaa.Pure
