/- VerifyInstr, the second form: whatever the input within the bound, the law returns true, and the input reads as it did. -/
import Derived.Test.YtdljelicbnjfjaaGreatRows
import Derived.Test.YtdljelicbnjfjaaGreatS8F
import Derived.WalkKit
import Derived.ProofKit
import Derived.OpenShut
import Derived.ChangeOld
import Derived.Below
import Derived.JoinedCond
namespace Go.Proofs.YtdljelicbnjfjaaGreat.verifyInstr
open Go Go.ChangeShapes Go.WideShapes Go.ChangeAt Go.RowKit
set_option linter.unusedVariables false
theorem own : ownKnob Tryz.prog.godebug = none := by kernel_rfl
theorem laidOut : laidOutB Tryz.prog = true := by kernel_rfl
def shapes : List X.Sh := [X.shM, X.shI, .int .u64]
theorem trodAll_lt {H : Type} {enc : TypeId × Value → H} {P : Program} {w : World} {sp : Nat → Bool} : ∀ (ts : List TypeId) (vs : List Value) (ds : List (DataW H)) (p : List MemPlace), DataW.TrodAll enc P w 0 sp true ts vs ds p → ∀ x ∈ p, x.block < w.heap.size
  | [], vs, ds, p, h => by
    cases vs <;> cases ds <;> first | (obtain rfl : p = [] := h; simp) | exact h.elim
  | t :: ts, vs, ds, p, h => by
    cases vs with
    | nil => cases ds <;> exact h.elim
    | cons v vs => cases ds with
      | nil => exact h.elim
      | cons d ds =>
        obtain ⟨p1, q1, ⟨m, hm⟩, hrest, rfl⟩ := h
        intro x hx
        rcases List.mem_append.1 hx with hx | hx
        · exact DataW.trod_lt m _ _ _ hm x hx
        · exact trodAll_lt ts vs ds q1 hrest x hx
set_option maxRecDepth 100000 in
theorem lifted (os : Os) (started : os.Started) (H : Type) (enc : TypeId × Value → H) (F : Stop.Interp) :
    ReturnsInHanded {} Tryz.checked os 8 .any ((Rows.OpenSpec.upto Rows.verifyInstrSpec).pre6 enc Tryz.prog Tryz.f8 Rows.verifyInstrUptoRow.domain false) (((Rows.OpenSpec.upto Rows.verifyInstrSpec).at F).post enc Tryz.prog Tryz.f8 false true false false) := by
  refine returnsInHanded_of_cond (C := Tryz.checked) (s := Rows.OpenSpec.upto Rows.verifyInstrSpec) (k := Rows.uptoSmall) rfl own started (by kernel_rfl) Tryz.func8
    (OpenSpec.witness (enc := enc) (C := Tryz.checked) (s := Rows.OpenSpec.upto Rows.verifyInstrSpec) (k := Rows.uptoSmall) rfl false ⟨#[], #[.agg #[.slice none 0 0, .slice none 0 0, .slice none 0 0, .slice none 0 0, .slice none 0 0, .int .i64 0, .int .i64 0], .agg #[.int .i64 0, .int .i64 0, .int .i64 0, .int .i64 0, .int .i64 0, .int .i64 0, .slice none 0 0, .slice none 0 0, .slice none 0 0], .int .u64 0], []⟩ 8 (by kernel_rfl) (by kernel_rfl) (by kernel_rfl)
      (x := ([.agg [.nil, .nil, .nil, .nil, .nil, .lit (.int .i64 0), .lit (.int .i64 0)], .agg [.lit (.int .i64 0), .lit (.int .i64 0), .lit (.int .i64 0), .lit (.int .i64 0), .lit (.int .i64 0), .lit (.int .i64 0), .nil, .nil, .nil], .lit (.int .u64 0)], [], [])) (by kernel_rfl) rfl (by kernel_rfl)) ?_
  intro W base args ds gs before hval0 hW hcnd hk0 _
  have hval : ∀ (j : Nat) t v, Tryz.f8.params.toList[j]? = some t → args.toList[j]? = some v → Value.okWide Tryz.prog W .any base t v := fun j t v h1 h2 => hval0 j t v (by simpa using h1) (by simpa using h2)
  have hW' := hW
  obtain ⟨p, q, hA0, hV, rfl, hfz, hnd⟩ := hW
  obtain ⟨rfl, rfl⟩ := trodVars_none hV
  have hk : Rows.uptoSmall H ds = true := by rwa [List.append_nil] at hk0
  have hA : DataW.TrodAll enc Tryz.prog W 0 (fun _ => true) true Tryz.f8.params.toList args.toList ds p := hA0
  rw [Tryz.params8] at hA hval
  have hrun := X.law_callD (P := Tryz.prog) X.lim_le X.htab X.hmix X.mustOk X.holdOk X.lives1 (f := 8) shapes (by kernel_rfl) X.law8 (X.upto_weights (by kernel_rfl : X.smallShs Tryz.prog _ shapes = true) hk) hA hval
  have hB : ∀ W', Below W.heap.size W W' → DataW.TrodAll enc Tryz.prog W' 0 (fun b => decide (b < W.heap.size)) true _ args.toList ds p := fun W' hb => X.below_all laidOut hb _ shapes _ _ _ (by kernel_rfl) hA (trodAll_lt _ _ _ _ hA)
  obtain ⟨v0, vs0, d0, ds0, p0, q0, hargs, rfl, rfl, h0, r0⟩ := trodAll_cons hA
  obtain ⟨v1, vs1, d1, ds1, p1, q1, rfl, rfl, rfl, h1, r1⟩ := trodAll_cons r0
  obtain ⟨v2, vs2, d2, ds2, p2, q2, rfl, rfl, rfl, h2, r2⟩ := trodAll_cons r1
  obtain ⟨rfl, rfl, rfl⟩ := trodAll_nil r2
  refine hrun.mono fun e W' ⟨he, bel⟩ => ?_
  subst he
  exact ⟨_, rfl, _, _, _, [], _, [], hW', trodAll_mk1 (shut_bool Tryz.underlying4 _), hB W' bel, rfl, bel.frame _, fun h => by cases h⟩
theorem facts : joinedFacts Tryz.pinned.checked.prog 8 Tryz.f8 Rows.verifyInstrSpec Rows.verifyInstrUptoRow = true := by
  unfold joinedFacts
  simp only [Bool.and_eq_true, X.mayEnterIs, X.liftsFinalIs, X.makeIs]
  repeat' apply And.intro
  all_goals first | exact trivial | kernel_rfl
theorem over : Rows.verifyInstrUptoRow.holds Tryz.pinned (Rows.OpenSpec.upto Rows.verifyInstrSpec) :=
  OpenClaim.holds_of_cond 8 Tryz.f8 rfl rfl rfl rfl rfl rfl rfl ⟨rfl, rfl, rfl, rfl, rfl⟩ rfl rfl rfl rfl rfl (by kernel_rfl) Tryz.func8 facts
    (of_decide_eq_true (by kernel_rfl)) (by unfold Func.isWrapper; first | (rw [if_pos (by decide +kernel)]; kernel_rfl) | (rw [if_neg (by decide +kernel)]; exact ⟨rfl, rfl⟩))
    (fun os started H enc _ F => lifted os started H enc F)
theorem proved : Rows.VerifyInstrUptoSaid := over
#print axioms proved
end Go.Proofs.YtdljelicbnjfjaaGreat.verifyInstr
namespace Go.Proofs.YtdljelicbnjfjaaGreat
/-- The row, under a short name, for the claim. -/
theorem verifyInstr_holds : Rows.VerifyInstrUptoSaid := verifyInstr.proved
end Go.Proofs.YtdljelicbnjfjaaGreat
