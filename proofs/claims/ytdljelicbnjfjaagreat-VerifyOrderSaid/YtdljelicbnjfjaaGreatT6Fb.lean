/- Calls that may panic. -/
import Derived.Test.YtdljelicbnjfjaaGreatYr
import Derived.Test.YtdljelicbnjfjaaGreatYv
import Derived.Test.YtdljelicbnjfjaaGreatT6Ft
set_option linter.unusedVariables false
set_option maxRecDepth 100000
namespace Go.Proofs.YtdljelicbnjfjaaGreat.X
open Go
/-- A call that may end in a panic with PK. -/
abbrev DP (PK : H → Prop) : CallA := callB S1 tab PK

theorem noMust : tab S1.must = none := by kernel_rfl
theorem noHold : tab S1.hold = none := by kernel_rfl
theorem noKnown (f : Nat) (h : S1.knows f = true) : tab f = none := by
  unfold Sp.knows at h
  cases hl : S1.isLive f with
  | true => obtain rfl : f = 26 := Nat.eq_of_beq_eq_true hl; kernel_rfl
  | false => rw [hl] at h; obtain rfl : f = 64 := Nat.eq_of_beq_eq_true h; kernel_rfl
theorem lift_c {PK : H → Prop} {f : Nat} {a : List AV} {h h' : H} {v : AV} (hc : ∀ K, C f a h K = K v h') (K : AV → H → Prop) : DP PK f a h K = K v h' := callB_lift noMust noHold noKnown hc K
theorem lift_r {PK : H → Prop} {f : Nat} {a : List AV} {h : H} {K : AV → H → Prop} (hc : C f a h K) : DP PK f a h K := callB_of noMust noHold noKnown hc
theorem runB6 {PK : H → Prop} {a0 a1 a2 : AV} {h : H} {R : AV → H → Prop} (hp : sh6 (DP never) a0 a1 a2 h R) : DP PK 6 [a0, a1, a2] h R := can_sheB rfl tab6 rfl oka6 (Nat.le_of_ble_eq_true rfl) (she6 (DP never) a0 a1 a2 h R) hp
theorem runB20 {PK : H → Prop} {a0 : AV} {h : H} {R : AV → H → Prop} (hp : sh20 (DP never) a0 h R) : DP PK 20 [a0] h R := can_sheB rfl tab20 rfl oka20 (Nat.le_of_ble_eq_true rfl) (she20 (DP never) a0 h R) hp
theorem runB21 {PK : H → Prop} {a0 a1 : AV} {h : H} {R : AV → H → Prop} (hp : sh21 (DP never) a0 a1 h R) : DP PK 21 [a0, a1] h R := can_sheB rfl tab21 rfl oka21 (Nat.le_of_ble_eq_true rfl) (she21 (DP never) a0 a1 h R) hp
theorem runB23 {PK : H → Prop} {a0 a1 : AV} {h : H} {R : AV → H → Prop} (hp : sh23 (DP never) a0 a1 h R) : DP PK 23 [a0, a1] h R := can_sheB rfl tab23 rfl oka23 (Nat.le_of_ble_eq_true rfl) (she23 (DP never) a0 a1 h R) hp
theorem runB25 {PK : H → Prop} {a0 a1 : AV} {h : H} {R : AV → H → Prop} (hp : sh25 (DP never) a0 a1 h R) : DP PK 25 [a0, a1] h R := can_sheB rfl tab25 rfl oka25 (Nat.le_of_ble_eq_true rfl) (she25 (DP never) a0 a1 h R) hp
theorem runB63 {PK : H → Prop} {a0 : AV} {h : H} {R : AV → H → Prop} (hp : sh63 (DP never) a0 h R) : DP PK 63 [a0] h R := can_sheB rfl tab63 rfl oka63 (Nat.le_of_ble_eq_true rfl) (she63 (DP never) a0 h R) hp
theorem runB65 {PK : H → Prop} {a0 : AV} {h : H} {R : AV → H → Prop} (hp : sh65 (DP never) a0 h R) : DP PK 65 [a0] h R := can_sheB rfl tab65 rfl oka65 (Nat.le_of_ble_eq_true rfl) (she65 (DP never) a0 h R) hp
theorem runB67 {PK : H → Prop} {a0 a1 : AV} {h : H} {R : AV → H → Prop} (hp : sh67 (DP never) a0 a1 h R) : DP PK 67 [a0, a1] h R := can_sheB rfl tab67 rfl oka67 (Nat.le_of_ble_eq_true rfl) (she67 (DP never) a0 a1 h R) hp
theorem runB68 {PK : H → Prop} {a0 a1 : AV} {h : H} {R : AV → H → Prop} (hp : sh68 (DP never) a0 a1 h R) : DP PK 68 [a0, a1] h R := can_sheB rfl tab68 rfl oka68 (Nat.le_of_ble_eq_true rfl) (she68 (DP never) a0 a1 h R) hp
theorem runB69 {PK : H → Prop} {a0 a1 : AV} {h : H} {R : AV → H → Prop} (hp : sh69 (DP never) a0 a1 h R) : DP PK 69 [a0, a1] h R := can_sheB rfl tab69 rfl oka69 (Nat.le_of_ble_eq_true rfl) (she69 (DP never) a0 a1 h R) hp
theorem runB113 {PK : H → Prop} {a0 a1 : AV} {h : H} {R : AV → H → Prop} (hp : sh113 (DP never) a0 a1 h R) : DP PK 113 [a0, a1] h R := can_sheB rfl tab113 rfl oka113 (Nat.le_of_ble_eq_true rfl) (she113 (DP never) a0 a1 h R) hp
theorem runB116 {PK : H → Prop} {a0 a1 : AV} {h : H} {R : AV → H → Prop} (hp : sh116 (DP never) a0 a1 h R) : DP PK 116 [a0, a1] h R := can_sheB rfl tab116 rfl oka116 (Nat.le_of_ble_eq_true rfl) (she116 (DP never) a0 a1 h R) hp
theorem runB117 {PK : H → Prop} {a0 a1 : AV} {h : H} {R : AV → H → Prop} (hp : sh117 (DP never) a0 a1 h R) : DP PK 117 [a0, a1] h R := can_sheB rfl tab117 rfl oka117 (Nat.le_of_ble_eq_true rfl) (she117 (DP never) a0 a1 h R) hp
end Go.Proofs.YtdljelicbnjfjaaGreat.X
