/- GcSame: whatever the input, the law returns true, and the input reads as it did. No conditions. -/
import Derived.Test.YtljkkfcokpimkaaRows
import Derived.Test.YtljkkfcokpimkaaT27F
import Derived.Test.YtljkkfcokpimkaaRk
import Derived.WalkKit
import Derived.ProofKit
import Derived.OpenShut
import Derived.ChangeOld
import Derived.Below
import Derived.SizedLaws
namespace Go.Proofs.Ytljkkfcokpimkaa.gcSame
open Go Go.ChangeShapes Go.WideShapes Go.ChangeAt Go.RowKit
set_option linter.unusedVariables false
theorem own : ownKnob Try.prog.godebug = none := by kernel_rfl
theorem laidOut : laidOutB Try.prog = true := by kernel_rfl
def shapes : List X.Sh := [.st [.sl (.st [.int .i64, .int .i64]), .sl (.st [.int .i64, .int .i64, .int .i64, .int .u64, .bool]), .sl (.st [.int .u64, .bool])]]
theorem trodAll_lt {H : Type} {enc : TypeId × Value → H} {P : Program} {w : World} {sp : Nat → Bool} : ∀ (ts : List TypeId) (vs : List Value) (ds : List (DataW H)) (p : List MemPlace), DataW.TrodAll enc P w 0 sp true ts vs ds p → ∀ x ∈ p, x.block < w.heap.size
  | [], vs, ds, p, h => by
    cases vs <;> cases ds <;> first | (obtain rfl : p = [] := h; simp) | exact h.elim
  | t :: ts, vs, ds, p, h => by
    cases vs with
    | nil => cases ds <;> exact h.elim
    | cons v vs => cases ds with
      | nil => exact h.elim
      | cons d ds =>
        obtain ⟨p1, q1, ⟨m, hm⟩, hrest, rfl⟩ := h
        intro x hx
        rcases List.mem_append.1 hx with hx | hx
        · exact DataW.trod_lt m _ _ _ hm x hx
        · exact trodAll_lt ts vs ds q1 hrest x hx
set_option maxRecDepth 100000 in
theorem lifted (os : Os) (started : os.Started) (H : Type) (enc : TypeId × Value → H) :
    ReturnsInHanded {} Try.checked os 27 .any (Rows.gcSameSpec.pre6 enc Try.prog Try.f27 Rows.gcSameRow.domain false) (Rows.gcSameSpec.post enc Try.prog Try.f27 false true false false) := by
  refine returnsInHanded_of_change_sized (C := Try.checked) own started (by kernel_rfl) Try.func27
    (ChangeSpec.witness6 (enc := enc) (C := Try.checked) false ⟨#[], #[.agg #[.slice none 0 0, .slice none 0 0, .slice none 0 0]], []⟩ 8 (by kernel_rfl) (by kernel_rfl) (by kernel_rfl) (by kernel_rfl)) ?_
  intro W base args ds gs before hval0 hW hcnd hsz0 _
  have hval : ∀ (j : Nat) t v, Try.f27.params.toList[j]? = some t → args.toList[j]? = some v → Value.okWide Try.prog W .any base t v := fun j t v h1 h2 => hval0 j t v (by simpa using h1) (by simpa using h2)
  have hW' := hW
  obtain ⟨p, q, hA0, hV, rfl, hfz, hnd⟩ := hW
  obtain ⟨rfl, rfl⟩ := trodVars_none hV
  have hsz : (DataW.weightsEach Try.prog Try.f27.params.toList ds).all (· ≤ reachBytes) = true := by
    have z : (DataW.weightsEach Try.prog (Try.f27.params.toList ++ []) (ds ++ [])).all (· ≤ reachBytes) = true := hsz0
    rwa [List.append_nil, List.append_nil] at z
  have hA : DataW.TrodAll enc Try.prog W 0 (fun _ => true) true Try.f27.params.toList args.toList ds p := hA0
  rw [Try.params27] at hA hval hsz
  have hrun := X.law_can (P := Try.prog) X.htab X.hmix (f := 27) shapes (by kernel_rfl) X.law27 hsz hA hval
  have hB : ∀ W', Below W.heap.size W W' → DataW.TrodAll enc Try.prog W' 0 (fun b => decide (b < W.heap.size)) true _ args.toList ds p := fun W' hb => X.below_all laidOut hb _ shapes _ _ _ (by kernel_rfl) hA (trodAll_lt _ _ _ _ hA)
  obtain ⟨v0, vs0, d0, ds0, p0, q0, hargs, rfl, rfl, h0, r0⟩ := trodAll_cons hA
  obtain ⟨rfl, rfl, rfl⟩ := trodAll_nil r0
  refine hrun.mono fun e W' ⟨he, bel⟩ => ?_
  subst he
  exact ⟨_, rfl, _, _, _, [], _, [], hW', trodAll_mk1 (shut_bool Try.underlying4 _), hB W' bel, rfl, bel.frame _, fun h => by cases h⟩
theorem facts : joinedFacts Try.pinned.checked.prog 27 Try.f27 Rows.gcSameSpec Rows.gcSameRow = true := by
  unfold joinedFacts
  simp only [Bool.and_eq_true, X.mayEnterIs, X.liftsFinalIs, X.makeIs]
  repeat' apply And.intro
  all_goals first | exact trivial | kernel_rfl
theorem over : Rows.gcSameRow.holds Try.pinned (OpenSpec.ofChange Rows.gcSameSpec) :=
  OpenClaim.holds_of_wide 27 Try.f27 rfl rfl rfl rfl rfl rfl rfl ⟨rfl, rfl, rfl, rfl, rfl⟩ rfl rfl rfl rfl rfl (by kernel_rfl) Try.func27 facts
    (of_decide_eq_true (by kernel_rfl)) (by unfold Func.isWrapper; first | (rw [if_pos (by decide +kernel)]; kernel_rfl) | (rw [if_neg (by decide +kernel)]; exact ⟨rfl, rfl⟩))
    (fun os started H enc _ => lifted os started H enc)
theorem proved : Rows.GcSameSaid := over
#print axioms proved
end Go.Proofs.Ytljkkfcokpimkaa.gcSame
namespace Go.Proofs.Ytljkkfcokpimkaa
/-- The row, under a short name, for the claim. -/
theorem gcSame_holds : Rows.GcSameSaid := gcSame.proved
end Go.Proofs.Ytljkkfcokpimkaa
