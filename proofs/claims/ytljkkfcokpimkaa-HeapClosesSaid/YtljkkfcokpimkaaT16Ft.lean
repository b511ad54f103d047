/- The table of the plain programs, and a call of each of them. -/
import Derived.Test.YtljkkfcokpimkaaT16F0
import Derived.Test.YtljkkfcokpimkaaT16F1
import Derived.Test.YtljkkfcokpimkaaT16F2
set_option linter.unusedVariables false
namespace Go.Proofs.Ytljkkfcokpimkaa.X
open Go
def tabL : List (Nat × IFun) := [
  (16, fn16),
  (31, fn31),
  (32, fn32),
  (33, fn33),
  (34, fn34),
  (35, fn35),
  (42, fn42),
  (48, fn48),
  (49, fn49),
  (50, fn50),
  (51, fn51),
  (52, fn52),
  (53, fn53),
  (55, fn55),
  (56, fn56),
  (57, fn57),
  (58, fn58),
  (59, fn59),
  (60, fn60),
  (61, fn61),
  (62, fn62),
  (63, fn63),
  (65, fn65),
  (67, fn67),
  (68, fn68),
  (69, fn69),
  (72, fn72),
  (73, fn73),
  (74, fn74),
  (75, fn75),
  (76, fn76),
  (77, fn77),
  (78, fn78),
  (79, fn79),
  (80, fn80),
  (81, fn81),
  (82, fn82),
  (83, fn83),
  (85, fn85),
  (100, fn100),
  (101, fn101),
  (102, fn102),
  (103, fn103),
  (104, fn104),
  (105, fn105),
  (106, fn106)]
def tab : Nat → Option IFun := lookF tabL
set_option maxRecDepth 100000 in
theorem okTab : okFs Try.prog tabL := ⟨ok16, ok31, ok32, ok33, ok34, ok35, ok42, ok48, ok49, ok50, ok51, ok52, ok53, ok55, ok56, ok57, ok58, ok59, ok60, ok61, ok62, ok63, ok65, ok67, ok68, ok69, ok72, ok73, ok74, ok75, ok76, ok77, ok78, ok79, ok80, ok81, ok82, ok83, ok85, ok100, ok101, ok102, ok103, ok104, ok105, ok106, trivial⟩
theorem htab : ∀ f i, tab f = some i → okFun Try.prog f i = true := okFs_look okTab
theorem hmix : Try.prog.follows .mixedOrders = true := by kernel_rfl
abbrev C : CallA := callA tab
theorem tab16 : tab 16 = some fn16 := by kernel_rfl
theorem run16 {a0 : AV} {h : H} {R : AV → H → Prop} (hp : sh16 C a0 h R) : C 16 [a0] h R := can_of tab16 rfl oka16 (Nat.le_of_ble_eq_true rfl) (by rw [← she16] at hp; exact hp)
theorem tab31 : tab 31 = some fn31 := by kernel_rfl
theorem run31 {a0 a1 : AV} {h : H} {R : AV → H → Prop} (hp : sh31 C a0 a1 h R) : C 31 [a0, a1] h R := can_of tab31 rfl oka31 (Nat.le_of_ble_eq_true rfl) (by rw [← she31] at hp; exact hp)
theorem tab32 : tab 32 = some fn32 := by kernel_rfl
theorem run32 {a0 a1 : AV} {h : H} {R : AV → H → Prop} (hp : sh32 C a0 a1 h R) : C 32 [a0, a1] h R := can_of tab32 rfl oka32 (Nat.le_of_ble_eq_true rfl) (by rw [← she32] at hp; exact hp)
theorem tab33 : tab 33 = some fn33 := by kernel_rfl
theorem run33 {a0 : AV} {h : H} {R : AV → H → Prop} (hp : sh33 C a0 h R) : C 33 [a0] h R := can_of tab33 rfl oka33 (Nat.le_of_ble_eq_true rfl) (by rw [← she33] at hp; exact hp)
theorem tab34 : tab 34 = some fn34 := by kernel_rfl
theorem run34 {a0 a1 a2 : AV} {h : H} {R : AV → H → Prop} (hp : sh34 C a0 a1 a2 h R) : C 34 [a0, a1, a2] h R := can_of tab34 rfl oka34 (Nat.le_of_ble_eq_true rfl) (by rw [← she34] at hp; exact hp)
theorem tab35 : tab 35 = some fn35 := by kernel_rfl
theorem run35 {a0 : AV} {h : H} {R : AV → H → Prop} (hp : sh35 C a0 h R) : C 35 [a0] h R := can_of tab35 rfl oka35 (Nat.le_of_ble_eq_true rfl) (by rw [← she35] at hp; exact hp)
theorem tab42 : tab 42 = some fn42 := by kernel_rfl
theorem run42 {a0 a1 a2 a3 : AV} {h : H} {R : AV → H → Prop} (hp : sh42 C a0 a1 a2 a3 h R) : C 42 [a0, a1, a2, a3] h R := can_of tab42 rfl oka42 (Nat.le_of_ble_eq_true rfl) (by rw [← she42] at hp; exact hp)
theorem tab48 : tab 48 = some fn48 := by kernel_rfl
theorem run48 {a0 : AV} {h : H} {R : AV → H → Prop} (hp : sh48 C a0 h R) : C 48 [a0] h R := can_of tab48 rfl oka48 (Nat.le_of_ble_eq_true rfl) (by rw [← she48] at hp; exact hp)
theorem tab49 : tab 49 = some fn49 := by kernel_rfl
theorem run49 {a0 a1 : AV} {h : H} {R : AV → H → Prop} (hp : sh49 C a0 a1 h R) : C 49 [a0, a1] h R := can_of tab49 rfl oka49 (Nat.le_of_ble_eq_true rfl) (by rw [← she49] at hp; exact hp)
theorem tab50 : tab 50 = some fn50 := by kernel_rfl
theorem run50 {a0 a1 : AV} {h : H} {R : AV → H → Prop} (hp : sh50 C a0 a1 h R) : C 50 [a0, a1] h R := can_of tab50 rfl oka50 (Nat.le_of_ble_eq_true rfl) (by rw [← she50] at hp; exact hp)
theorem tab51 : tab 51 = some fn51 := by kernel_rfl
theorem run51 {h : H} {R : AV → H → Prop} (hp : sh51 C h R) : C 51 [] h R := can_of tab51 rfl oka51 (Nat.le_of_ble_eq_true rfl) (by rw [← she51] at hp; exact hp)
theorem tab52 : tab 52 = some fn52 := by kernel_rfl
theorem run52 {a0 a1 a2 : AV} {h : H} {R : AV → H → Prop} (hp : sh52 C a0 a1 a2 h R) : C 52 [a0, a1, a2] h R := can_of tab52 rfl oka52 (Nat.le_of_ble_eq_true rfl) (by rw [← she52] at hp; exact hp)
theorem tab53 : tab 53 = some fn53 := by kernel_rfl
theorem run53 {a0 a1 a2 : AV} {h : H} {R : AV → H → Prop} (hp : sh53 C a0 a1 a2 h R) : C 53 [a0, a1, a2] h R := can_of tab53 rfl oka53 (Nat.le_of_ble_eq_true rfl) (by rw [← she53] at hp; exact hp)
theorem tab55 : tab 55 = some fn55 := by kernel_rfl
theorem run55 {a0 a1 a2 : AV} {h : H} {R : AV → H → Prop} (hp : sh55 C a0 a1 a2 h R) : C 55 [a0, a1, a2] h R := can_of tab55 rfl oka55 (Nat.le_of_ble_eq_true rfl) (by rw [← she55] at hp; exact hp)
theorem tab56 : tab 56 = some fn56 := by kernel_rfl
theorem run56 {a0 a1 : AV} {h : H} {R : AV → H → Prop} (hp : sh56 C a0 a1 h R) : C 56 [a0, a1] h R := can_of tab56 rfl oka56 (Nat.le_of_ble_eq_true rfl) (by rw [← she56] at hp; exact hp)
theorem tab57 : tab 57 = some fn57 := by kernel_rfl
theorem run57 {a0 : AV} {h : H} {R : AV → H → Prop} (hp : sh57 C a0 h R) : C 57 [a0] h R := can_of tab57 rfl oka57 (Nat.le_of_ble_eq_true rfl) (by rw [← she57] at hp; exact hp)
theorem tab58 : tab 58 = some fn58 := by kernel_rfl
theorem run58 {a0 : AV} {h : H} {R : AV → H → Prop} (hp : sh58 C a0 h R) : C 58 [a0] h R := can_of tab58 rfl oka58 (Nat.le_of_ble_eq_true rfl) (by rw [← she58] at hp; exact hp)
theorem tab59 : tab 59 = some fn59 := by kernel_rfl
theorem run59 {a0 : AV} {h : H} {R : AV → H → Prop} (hp : sh59 C a0 h R) : C 59 [a0] h R := can_of tab59 rfl oka59 (Nat.le_of_ble_eq_true rfl) (by rw [← she59] at hp; exact hp)
theorem tab60 : tab 60 = some fn60 := by kernel_rfl
theorem run60 {a0 a1 a2 : AV} {h : H} {R : AV → H → Prop} (hp : sh60 C a0 a1 a2 h R) : C 60 [a0, a1, a2] h R := can_of tab60 rfl oka60 (Nat.le_of_ble_eq_true rfl) (by rw [← she60] at hp; exact hp)
theorem tab61 : tab 61 = some fn61 := by kernel_rfl
theorem run61 {a0 a1 : AV} {h : H} {R : AV → H → Prop} (hp : sh61 C a0 a1 h R) : C 61 [a0, a1] h R := can_of tab61 rfl oka61 (Nat.le_of_ble_eq_true rfl) (by rw [← she61] at hp; exact hp)
theorem tab62 : tab 62 = some fn62 := by kernel_rfl
theorem run62 {a0 a1 : AV} {h : H} {R : AV → H → Prop} (hp : sh62 C a0 a1 h R) : C 62 [a0, a1] h R := can_of tab62 rfl oka62 (Nat.le_of_ble_eq_true rfl) (by rw [← she62] at hp; exact hp)
theorem tab63 : tab 63 = some fn63 := by kernel_rfl
theorem run63 {a0 a1 a2 a3 : AV} {h : H} {R : AV → H → Prop} (hp : sh63 C a0 a1 a2 a3 h R) : C 63 [a0, a1, a2, a3] h R := can_of tab63 rfl oka63 (Nat.le_of_ble_eq_true rfl) (by rw [← she63] at hp; exact hp)
theorem tab65 : tab 65 = some fn65 := by kernel_rfl
theorem run65 {a0 a1 a2 a3 : AV} {h : H} {R : AV → H → Prop} (hp : sh65 C a0 a1 a2 a3 h R) : C 65 [a0, a1, a2, a3] h R := can_of tab65 rfl oka65 (Nat.le_of_ble_eq_true rfl) (by rw [← she65] at hp; exact hp)
theorem tab67 : tab 67 = some fn67 := by kernel_rfl
theorem run67 {a0 a1 : AV} {h : H} {R : AV → H → Prop} (hp : sh67 C a0 a1 h R) : C 67 [a0, a1] h R := can_of tab67 rfl oka67 (Nat.le_of_ble_eq_true rfl) (by rw [← she67] at hp; exact hp)
theorem tab68 : tab 68 = some fn68 := by kernel_rfl
theorem run68 {a0 a1 : AV} {h : H} {R : AV → H → Prop} (hp : sh68 C a0 a1 h R) : C 68 [a0, a1] h R := can_of tab68 rfl oka68 (Nat.le_of_ble_eq_true rfl) (by rw [← she68] at hp; exact hp)
theorem tab69 : tab 69 = some fn69 := by kernel_rfl
theorem run69 {a0 a1 : AV} {h : H} {R : AV → H → Prop} (hp : sh69 C a0 a1 h R) : C 69 [a0, a1] h R := can_of tab69 rfl oka69 (Nat.le_of_ble_eq_true rfl) (by rw [← she69] at hp; exact hp)
theorem tab72 : tab 72 = some fn72 := by kernel_rfl
theorem run72 {a0 a1 : AV} {h : H} {R : AV → H → Prop} (hp : sh72 C a0 a1 h R) : C 72 [a0, a1] h R := can_of tab72 rfl oka72 (Nat.le_of_ble_eq_true rfl) (by rw [← she72] at hp; exact hp)
theorem tab73 : tab 73 = some fn73 := by kernel_rfl
theorem run73 {a0 : AV} {h : H} {R : AV → H → Prop} (hp : sh73 C a0 h R) : C 73 [a0] h R := can_of tab73 rfl oka73 (Nat.le_of_ble_eq_true rfl) (by rw [← she73] at hp; exact hp)
theorem tab74 : tab 74 = some fn74 := by kernel_rfl
theorem run74 {a0 a1 a2 : AV} {h : H} {R : AV → H → Prop} (hp : sh74 C a0 a1 a2 h R) : C 74 [a0, a1, a2] h R := can_of tab74 rfl oka74 (Nat.le_of_ble_eq_true rfl) (by rw [← she74] at hp; exact hp)
theorem tab75 : tab 75 = some fn75 := by kernel_rfl
theorem run75 {a0 : AV} {h : H} {R : AV → H → Prop} (hp : sh75 C a0 h R) : C 75 [a0] h R := can_of tab75 rfl oka75 (Nat.le_of_ble_eq_true rfl) (by rw [← she75] at hp; exact hp)
theorem tab76 : tab 76 = some fn76 := by kernel_rfl
theorem run76 {a0 a1 : AV} {h : H} {R : AV → H → Prop} (hp : sh76 C a0 a1 h R) : C 76 [a0, a1] h R := can_of tab76 rfl oka76 (Nat.le_of_ble_eq_true rfl) (by rw [← she76] at hp; exact hp)
theorem tab77 : tab 77 = some fn77 := by kernel_rfl
theorem run77 {a0 : AV} {h : H} {R : AV → H → Prop} (hp : sh77 C a0 h R) : C 77 [a0] h R := can_of tab77 rfl oka77 (Nat.le_of_ble_eq_true rfl) (by rw [← she77] at hp; exact hp)
theorem tab78 : tab 78 = some fn78 := by kernel_rfl
theorem run78 {a0 a1 a2 : AV} {h : H} {R : AV → H → Prop} (hp : sh78 C a0 a1 a2 h R) : C 78 [a0, a1, a2] h R := can_of tab78 rfl oka78 (Nat.le_of_ble_eq_true rfl) (by rw [← she78] at hp; exact hp)
theorem tab79 : tab 79 = some fn79 := by kernel_rfl
theorem run79 {a0 a1 a2 : AV} {h : H} {R : AV → H → Prop} (hp : sh79 C a0 a1 a2 h R) : C 79 [a0, a1, a2] h R := can_of tab79 rfl oka79 (Nat.le_of_ble_eq_true rfl) (by rw [← she79] at hp; exact hp)
theorem tab80 : tab 80 = some fn80 := by kernel_rfl
theorem run80 {a0 a1 : AV} {h : H} {R : AV → H → Prop} (hp : sh80 C a0 a1 h R) : C 80 [a0, a1] h R := can_of tab80 rfl oka80 (Nat.le_of_ble_eq_true rfl) (by rw [← she80] at hp; exact hp)
theorem tab81 : tab 81 = some fn81 := by kernel_rfl
theorem run81 {a0 a1 : AV} {h : H} {R : AV → H → Prop} (hp : sh81 C a0 a1 h R) : C 81 [a0, a1] h R := can_of tab81 rfl oka81 (Nat.le_of_ble_eq_true rfl) (by rw [← she81] at hp; exact hp)
theorem tab82 : tab 82 = some fn82 := by kernel_rfl
theorem run82 {a0 : AV} {h : H} {R : AV → H → Prop} (hp : sh82 C a0 h R) : C 82 [a0] h R := can_of tab82 rfl oka82 (Nat.le_of_ble_eq_true rfl) (by rw [← she82] at hp; exact hp)
theorem tab83 : tab 83 = some fn83 := by kernel_rfl
theorem run83 {a0 : AV} {h : H} {R : AV → H → Prop} (hp : sh83 C a0 h R) : C 83 [a0] h R := can_of tab83 rfl oka83 (Nat.le_of_ble_eq_true rfl) (by rw [← she83] at hp; exact hp)
theorem tab85 : tab 85 = some fn85 := by kernel_rfl
theorem run85 {a0 : AV} {h : H} {R : AV → H → Prop} (hp : sh85 C a0 h R) : C 85 [a0] h R := can_of tab85 rfl oka85 (Nat.le_of_ble_eq_true rfl) (by rw [← she85] at hp; exact hp)
theorem tab100 : tab 100 = some fn100 := by kernel_rfl
theorem run100 {a0 : AV} {h : H} {R : AV → H → Prop} (hp : sh100 C a0 h R) : C 100 [a0] h R := can_of tab100 rfl oka100 (Nat.le_of_ble_eq_true rfl) (by rw [← she100] at hp; exact hp)
theorem tab101 : tab 101 = some fn101 := by kernel_rfl
theorem run101 {a0 a1 a2 a3 : AV} {h : H} {R : AV → H → Prop} (hp : sh101 C a0 a1 a2 a3 h R) : C 101 [a0, a1, a2, a3] h R := can_of tab101 rfl oka101 (Nat.le_of_ble_eq_true rfl) (by rw [← she101] at hp; exact hp)
theorem tab102 : tab 102 = some fn102 := by kernel_rfl
theorem run102 {a0 a1 a2 : AV} {h : H} {R : AV → H → Prop} (hp : sh102 C a0 a1 a2 h R) : C 102 [a0, a1, a2] h R := can_of tab102 rfl oka102 (Nat.le_of_ble_eq_true rfl) (by rw [← she102] at hp; exact hp)
theorem tab103 : tab 103 = some fn103 := by kernel_rfl
theorem run103 {a0 a1 a2 a3 : AV} {h : H} {R : AV → H → Prop} (hp : sh103 C a0 a1 a2 a3 h R) : C 103 [a0, a1, a2, a3] h R := can_of tab103 rfl oka103 (Nat.le_of_ble_eq_true rfl) (by rw [← she103] at hp; exact hp)
theorem tab104 : tab 104 = some fn104 := by kernel_rfl
theorem run104 {a0 a1 a2 a3 : AV} {h : H} {R : AV → H → Prop} (hp : sh104 C a0 a1 a2 a3 h R) : C 104 [a0, a1, a2, a3] h R := can_of tab104 rfl oka104 (Nat.le_of_ble_eq_true rfl) (by rw [← she104] at hp; exact hp)
theorem tab105 : tab 105 = some fn105 := by kernel_rfl
theorem run105 {a0 a1 : AV} {h : H} {R : AV → H → Prop} (hp : sh105 C a0 a1 h R) : C 105 [a0, a1] h R := can_of tab105 rfl oka105 (Nat.le_of_ble_eq_true rfl) (by rw [← she105] at hp; exact hp)
theorem tab106 : tab 106 = some fn106 := by kernel_rfl
theorem run106 {a0 : AV} {h : H} {R : AV → H → Prop} (hp : sh106 C a0 h R) : C 106 [a0] h R := can_of tab106 rfl oka106 (Nat.le_of_ble_eq_true rfl) (by rw [← she106] at hp; exact hp)
end Go.Proofs.Ytljkkfcokpimkaa.X
