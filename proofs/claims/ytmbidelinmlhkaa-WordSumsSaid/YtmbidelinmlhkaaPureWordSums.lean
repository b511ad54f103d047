/- Sums and differences of any numbers are what the document says. For every input. -/
import Derived.Test.YtmbidelinmlhkaaPWordSumsx2
import Derived.Test.YtmbidelinmlhkaaPlain
namespace Go.Proofs.Ytmbidelinmlhkaa.Pure
open Go.RowKit Go.Proofs.Ytmbidelinmlhkaa.PWordSums Go.Proofs.YtmbidelinmlhkaaW.PrintWords Go.Proofs.YtmbidelinmlhkaaW.PrintLast Go.Proofs.YtmbidelinmlhkaaW.PrintMore Go.Proofs.Ytmbidelinmlhkaa.Plain

theorem lives_true : bellowslaw01_lives.f 200 = some true := by kernel_rfl
theorem wrap_f (n : Int) : word_Wrap.f n = some (W n) := by simp only [word_Wrap.f, wrap_half]
theorem ref_wrap1 (k : Nat) (n : Int) (h0 : -9223372036854775808 ≤ n) (h1 : n < 4611686018427387904) : bellowsref01_Wrap.l1 (k + 2) n = some (W n) := by
  rw [bellowsref01_Wrap.l1]
  split
  · rw [bellowsref01_Wrap.l1, if_neg (by unfold wrap64; omega)]
    congr 1; unfold wrap64 W; omega
  · congr 1; unfold W; omega
theorem ref_wrap (k : Nat) (n : Int) (h0 : -9223372036854775808 ≤ n) (h1 : n ≤ 9223372036854775807) : bellowsref01_Wrap.f (k + 5) n = some (W n) := by
  unfold bellowsref01_Wrap.f
  rw [bellowsref01_Wrap.l0]
  split
  · rw [bellowsref01_Wrap.l0, if_neg (by unfold wrap64; omega), ref_wrap1 _ _ (by unfold wrap64; omega) (by unfold wrap64; omega)]
    congr 1; unfold wrap64 W; omega
  · rw [ref_wrap1 _ _ h0 (by omega)]
theorem ref_sum (k : Nat) (a b : Int) (ha0 : -9223372036854775808 ≤ a) (ha1 : a ≤ 9223372036854775807) (hb0 : -9223372036854775808 ≤ b) (hb1 : b ≤ 9223372036854775807) : bellowsref01_Sum.f (k + 5) a b = some (W (a + b)) := by
  have := W_lo a; have := W_hi a; have := W_lo b; have := W_hi b
  simp only [bellowsref01_Sum.f, ref_wrap k a ha0 ha1, ref_wrap k b hb0 hb1, Option.bind_some]
  rw [wrap_id (by omega) (by omega), ref_wrap k _ (by omega) (by omega), W_add, W_add']; rfl
theorem add_f (a b : Int) : word_Add.f a b = some (W (a + b)) := by simp only [word_Add.f, wrap_f, Option.bind_some, W_wrap]
theorem sub_f (a b : Int) : word_Sub.f a b = some (W (a - b)) := by simp only [word_Sub.f, wrap_f, Option.bind_some, W_wrap]

theorem WordSums : bellowslaw01_WordSums.Pure := by
  intro a b ha hb
  have ha := i64_wf ha; have hb := i64_wf hb
  have l := W_lo b; have u := W_hi b
  have e : wrap64 (-W b) = -W b := wrap_id (by omega) (by omega)
  have l2 := W_lo (-W b); have u2 := W_hi (-W b)
  refine ⟨200, ?_⟩
  unfold bellowslaw01_WordSums.f
  simp only [add_f, sub_f, Option.bind_some]
  rw [ref_sum 195 a b ha.1 ha.2 hb.1 hb.2]
  simp only [Option.bind_some, if_true]
  rw [ref_wrap 195 b hb.1 hb.2]
  simp only [Option.bind_some]
  rw [e, ref_wrap 195 _ (by omega) (by omega)]
  simp only [Option.bind_some]
  rw [ref_sum 195 a _ ha.1 ha.2 (by omega) (by omega)]
  simp only [Option.bind_some]
  rw [W_neg, W_add', show a + -b = a - b by omega, if_pos rfl, lives_true]; rfl

end Go.Proofs.Ytmbidelinmlhkaa.Pure
