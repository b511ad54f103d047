/- The table of the plain programs, and a call of each of them. -/
import Derived.Test.YtdljelicbnjfjaaGreatT6F0
import Derived.Test.YtdljelicbnjfjaaGreatT6F1
import Derived.Test.YtdljelicbnjfjaaGreatT6F2
set_option linter.unusedVariables false
namespace Go.Proofs.YtdljelicbnjfjaaGreat.X
open Go
def tabL : List (Nat × IFun) := [
  (6, fn6),
  (20, fn20),
  (21, fn21),
  (23, fn23),
  (25, fn25),
  (63, fn63),
  (65, fn65),
  (67, fn67),
  (68, fn68),
  (69, fn69),
  (113, fn113),
  (116, fn116),
  (117, fn117)]
def tab : Nat → Option IFun := lookF tabL
set_option maxRecDepth 100000 in
theorem okTab : okFs Tryz.prog tabL := ⟨ok6, ok20, ok21, ok23, ok25, ok63, ok65, ok67, ok68, ok69, ok113, ok116, ok117, trivial⟩
theorem htab : ∀ f i, tab f = some i → okFun Tryz.prog f i = true := okFs_look okTab
theorem hmix : Tryz.prog.follows .mixedOrders = true := by kernel_rfl
abbrev C : CallA := callA tab
theorem tab6 : tab 6 = some fn6 := by kernel_rfl
theorem run6 {a0 a1 a2 : AV} {h : H} {R : AV → H → Prop} (hp : sh6 C a0 a1 a2 h R) : C 6 [a0, a1, a2] h R := can_she tab6 rfl oka6 (Nat.le_of_ble_eq_true rfl) (she6 C a0 a1 a2 h R) hp
theorem tab20 : tab 20 = some fn20 := by kernel_rfl
theorem run20 {a0 : AV} {h : H} {R : AV → H → Prop} (hp : sh20 C a0 h R) : C 20 [a0] h R := can_she tab20 rfl oka20 (Nat.le_of_ble_eq_true rfl) (she20 C a0 h R) hp
theorem tab21 : tab 21 = some fn21 := by kernel_rfl
theorem run21 {a0 a1 : AV} {h : H} {R : AV → H → Prop} (hp : sh21 C a0 a1 h R) : C 21 [a0, a1] h R := can_she tab21 rfl oka21 (Nat.le_of_ble_eq_true rfl) (she21 C a0 a1 h R) hp
theorem tab23 : tab 23 = some fn23 := by kernel_rfl
theorem run23 {a0 a1 : AV} {h : H} {R : AV → H → Prop} (hp : sh23 C a0 a1 h R) : C 23 [a0, a1] h R := can_she tab23 rfl oka23 (Nat.le_of_ble_eq_true rfl) (she23 C a0 a1 h R) hp
theorem tab25 : tab 25 = some fn25 := by kernel_rfl
theorem run25 {a0 a1 : AV} {h : H} {R : AV → H → Prop} (hp : sh25 C a0 a1 h R) : C 25 [a0, a1] h R := can_she tab25 rfl oka25 (Nat.le_of_ble_eq_true rfl) (she25 C a0 a1 h R) hp
theorem tab63 : tab 63 = some fn63 := by kernel_rfl
theorem run63 {a0 : AV} {h : H} {R : AV → H → Prop} (hp : sh63 C a0 h R) : C 63 [a0] h R := can_she tab63 rfl oka63 (Nat.le_of_ble_eq_true rfl) (she63 C a0 h R) hp
theorem tab65 : tab 65 = some fn65 := by kernel_rfl
theorem run65 {a0 : AV} {h : H} {R : AV → H → Prop} (hp : sh65 C a0 h R) : C 65 [a0] h R := can_she tab65 rfl oka65 (Nat.le_of_ble_eq_true rfl) (she65 C a0 h R) hp
theorem tab67 : tab 67 = some fn67 := by kernel_rfl
theorem run67 {a0 a1 : AV} {h : H} {R : AV → H → Prop} (hp : sh67 C a0 a1 h R) : C 67 [a0, a1] h R := can_she tab67 rfl oka67 (Nat.le_of_ble_eq_true rfl) (she67 C a0 a1 h R) hp
theorem tab68 : tab 68 = some fn68 := by kernel_rfl
theorem run68 {a0 a1 : AV} {h : H} {R : AV → H → Prop} (hp : sh68 C a0 a1 h R) : C 68 [a0, a1] h R := can_she tab68 rfl oka68 (Nat.le_of_ble_eq_true rfl) (she68 C a0 a1 h R) hp
theorem tab69 : tab 69 = some fn69 := by kernel_rfl
theorem run69 {a0 a1 : AV} {h : H} {R : AV → H → Prop} (hp : sh69 C a0 a1 h R) : C 69 [a0, a1] h R := can_she tab69 rfl oka69 (Nat.le_of_ble_eq_true rfl) (she69 C a0 a1 h R) hp
theorem tab113 : tab 113 = some fn113 := by kernel_rfl
theorem run113 {a0 a1 : AV} {h : H} {R : AV → H → Prop} (hp : sh113 C a0 a1 h R) : C 113 [a0, a1] h R := can_she tab113 rfl oka113 (Nat.le_of_ble_eq_true rfl) (she113 C a0 a1 h R) hp
theorem tab116 : tab 116 = some fn116 := by kernel_rfl
theorem run116 {a0 a1 : AV} {h : H} {R : AV → H → Prop} (hp : sh116 C a0 a1 h R) : C 116 [a0, a1] h R := can_she tab116 rfl oka116 (Nat.le_of_ble_eq_true rfl) (she116 C a0 a1 h R) hp
theorem tab117 : tab 117 = some fn117 := by kernel_rfl
theorem run117 {a0 a1 : AV} {h : H} {R : AV → H → Prop} (hp : sh117 C a0 a1 h R) : C 117 [a0, a1] h R := can_she tab117 rfl oka117 (Nat.le_of_ble_eq_true rfl) (she117 C a0 a1 h R) hp
end Go.Proofs.YtdljelicbnjfjaaGreat.X
