/- The table of the plain programs, and a call of each of them. -/
import Derived.Test.YtljkkfcokpimkaaT27F0
import Derived.Test.YtljkkfcokpimkaaT27F1
import Derived.Test.YtljkkfcokpimkaaT27F2
set_option linter.unusedVariables false
namespace Go.Proofs.Ytljkkfcokpimkaa.X
open Go
def tabL : List (Nat × IFun) := [
  (23, fn23),
  (27, fn27),
  (31, fn31),
  (33, fn33),
  (35, fn35),
  (36, fn36),
  (37, fn37),
  (41, fn41),
  (43, fn43),
  (48, fn48),
  (49, fn49),
  (50, fn50),
  (52, fn52),
  (53, fn53),
  (54, fn54),
  (55, fn55),
  (56, fn56),
  (57, fn57),
  (58, fn58),
  (59, fn59),
  (60, fn60),
  (61, fn61),
  (62, fn62),
  (63, fn63),
  (64, fn64),
  (65, fn65),
  (67, fn67),
  (68, fn68),
  (69, fn69),
  (71, fn71),
  (72, fn72),
  (73, fn73),
  (74, fn74),
  (75, fn75),
  (78, fn78),
  (80, fn80),
  (81, fn81),
  (82, fn82),
  (83, fn83),
  (84, fn84),
  (85, fn85),
  (86, fn86),
  (87, fn87),
  (88, fn88),
  (89, fn89),
  (90, fn90),
  (92, fn92),
  (94, fn94),
  (101, fn101),
  (102, fn102),
  (103, fn103),
  (104, fn104),
  (106, fn106),
  (107, fn107),
  (108, fn108),
  (109, fn109),
  (110, fn110),
  (111, fn111),
  (112, fn112),
  (113, fn113),
  (114, fn114),
  (115, fn115),
  (116, fn116),
  (117, fn117),
  (118, fn118),
  (119, fn119),
  (120, fn120),
  (121, fn121)]
def tab : Nat → Option IFun := lookF tabL
set_option maxRecDepth 100000 in
theorem okTab : okFs Try.prog tabL := ⟨ok23, ok27, ok31, ok33, ok35, ok36, ok37, ok41, ok43, ok48, ok49, ok50, ok52, ok53, ok54, ok55, ok56, ok57, ok58, ok59, ok60, ok61, ok62, ok63, ok64, ok65, ok67, ok68, ok69, ok71, ok72, ok73, ok74, ok75, ok78, ok80, ok81, ok82, ok83, ok84, ok85, ok86, ok87, ok88, ok89, ok90, ok92, ok94, ok101, ok102, ok103, ok104, ok106, ok107, ok108, ok109, ok110, ok111, ok112, ok113, ok114, ok115, ok116, ok117, ok118, ok119, ok120, ok121, trivial⟩
theorem htab : ∀ f i, tab f = some i → okFun Try.prog f i = true := okFs_look okTab
theorem hmix : Try.prog.follows .mixedOrders = true := by kernel_rfl
abbrev C : CallA := callA tab
theorem tab23 : tab 23 = some fn23 := by kernel_rfl
theorem run23 {a0 : AV} {h : H} {R : AV → H → Prop} (hp : sh23 C a0 h R) : C 23 [a0] h R := can_she tab23 rfl oka23 (Nat.le_of_ble_eq_true rfl) (she23 C a0 h R) hp
theorem tab27 : tab 27 = some fn27 := by kernel_rfl
theorem run27 {a0 : AV} {h : H} {R : AV → H → Prop} (hp : sh27 C a0 h R) : C 27 [a0] h R := can_she tab27 rfl oka27 (Nat.le_of_ble_eq_true rfl) (she27 C a0 h R) hp
theorem tab31 : tab 31 = some fn31 := by kernel_rfl
theorem run31 {a0 a1 : AV} {h : H} {R : AV → H → Prop} (hp : sh31 C a0 a1 h R) : C 31 [a0, a1] h R := can_she tab31 rfl oka31 (Nat.le_of_ble_eq_true rfl) (she31 C a0 a1 h R) hp
theorem tab33 : tab 33 = some fn33 := by kernel_rfl
theorem run33 {a0 : AV} {h : H} {R : AV → H → Prop} (hp : sh33 C a0 h R) : C 33 [a0] h R := can_she tab33 rfl oka33 (Nat.le_of_ble_eq_true rfl) (she33 C a0 h R) hp
theorem tab35 : tab 35 = some fn35 := by kernel_rfl
theorem run35 {a0 : AV} {h : H} {R : AV → H → Prop} (hp : sh35 C a0 h R) : C 35 [a0] h R := can_she tab35 rfl oka35 (Nat.le_of_ble_eq_true rfl) (she35 C a0 h R) hp
theorem tab36 : tab 36 = some fn36 := by kernel_rfl
theorem run36 {a0 : AV} {h : H} {R : AV → H → Prop} (hp : sh36 C a0 h R) : C 36 [a0] h R := can_she tab36 rfl oka36 (Nat.le_of_ble_eq_true rfl) (she36 C a0 h R) hp
theorem tab37 : tab 37 = some fn37 := by kernel_rfl
theorem run37 {a0 : AV} {h : H} {R : AV → H → Prop} (hp : sh37 C a0 h R) : C 37 [a0] h R := can_she tab37 rfl oka37 (Nat.le_of_ble_eq_true rfl) (she37 C a0 h R) hp
theorem tab41 : tab 41 = some fn41 := by kernel_rfl
theorem run41 {a0 a1 : AV} {h : H} {R : AV → H → Prop} (hp : sh41 C a0 a1 h R) : C 41 [a0, a1] h R := can_she tab41 rfl oka41 (Nat.le_of_ble_eq_true rfl) (she41 C a0 a1 h R) hp
theorem tab43 : tab 43 = some fn43 := by kernel_rfl
theorem run43 {a0 a1 : AV} {h : H} {R : AV → H → Prop} (hp : sh43 C a0 a1 h R) : C 43 [a0, a1] h R := can_she tab43 rfl oka43 (Nat.le_of_ble_eq_true rfl) (she43 C a0 a1 h R) hp
theorem tab48 : tab 48 = some fn48 := by kernel_rfl
theorem run48 {a0 : AV} {h : H} {R : AV → H → Prop} (hp : sh48 C a0 h R) : C 48 [a0] h R := can_she tab48 rfl oka48 (Nat.le_of_ble_eq_true rfl) (she48 C a0 h R) hp
theorem tab49 : tab 49 = some fn49 := by kernel_rfl
theorem run49 {a0 a1 : AV} {h : H} {R : AV → H → Prop} (hp : sh49 C a0 a1 h R) : C 49 [a0, a1] h R := can_she tab49 rfl oka49 (Nat.le_of_ble_eq_true rfl) (she49 C a0 a1 h R) hp
theorem tab50 : tab 50 = some fn50 := by kernel_rfl
theorem run50 {a0 a1 : AV} {h : H} {R : AV → H → Prop} (hp : sh50 C a0 a1 h R) : C 50 [a0, a1] h R := can_she tab50 rfl oka50 (Nat.le_of_ble_eq_true rfl) (she50 C a0 a1 h R) hp
theorem tab52 : tab 52 = some fn52 := by kernel_rfl
theorem run52 {a0 a1 a2 : AV} {h : H} {R : AV → H → Prop} (hp : sh52 C a0 a1 a2 h R) : C 52 [a0, a1, a2] h R := can_she tab52 rfl oka52 (Nat.le_of_ble_eq_true rfl) (she52 C a0 a1 a2 h R) hp
theorem tab53 : tab 53 = some fn53 := by kernel_rfl
theorem run53 {a0 a1 a2 : AV} {h : H} {R : AV → H → Prop} (hp : sh53 C a0 a1 a2 h R) : C 53 [a0, a1, a2] h R := can_she tab53 rfl oka53 (Nat.le_of_ble_eq_true rfl) (she53 C a0 a1 a2 h R) hp
theorem tab54 : tab 54 = some fn54 := by kernel_rfl
theorem run54 {a0 a1 : AV} {h : H} {R : AV → H → Prop} (hp : sh54 C a0 a1 h R) : C 54 [a0, a1] h R := can_she tab54 rfl oka54 (Nat.le_of_ble_eq_true rfl) (she54 C a0 a1 h R) hp
theorem tab55 : tab 55 = some fn55 := by kernel_rfl
theorem run55 {a0 a1 a2 : AV} {h : H} {R : AV → H → Prop} (hp : sh55 C a0 a1 a2 h R) : C 55 [a0, a1, a2] h R := can_she tab55 rfl oka55 (Nat.le_of_ble_eq_true rfl) (she55 C a0 a1 a2 h R) hp
theorem tab56 : tab 56 = some fn56 := by kernel_rfl
theorem run56 {a0 a1 : AV} {h : H} {R : AV → H → Prop} (hp : sh56 C a0 a1 h R) : C 56 [a0, a1] h R := can_she tab56 rfl oka56 (Nat.le_of_ble_eq_true rfl) (she56 C a0 a1 h R) hp
theorem tab57 : tab 57 = some fn57 := by kernel_rfl
theorem run57 {a0 : AV} {h : H} {R : AV → H → Prop} (hp : sh57 C a0 h R) : C 57 [a0] h R := can_she tab57 rfl oka57 (Nat.le_of_ble_eq_true rfl) (she57 C a0 h R) hp
theorem tab58 : tab 58 = some fn58 := by kernel_rfl
theorem run58 {a0 : AV} {h : H} {R : AV → H → Prop} (hp : sh58 C a0 h R) : C 58 [a0] h R := can_she tab58 rfl oka58 (Nat.le_of_ble_eq_true rfl) (she58 C a0 h R) hp
theorem tab59 : tab 59 = some fn59 := by kernel_rfl
theorem run59 {a0 : AV} {h : H} {R : AV → H → Prop} (hp : sh59 C a0 h R) : C 59 [a0] h R := can_she tab59 rfl oka59 (Nat.le_of_ble_eq_true rfl) (she59 C a0 h R) hp
theorem tab60 : tab 60 = some fn60 := by kernel_rfl
theorem run60 {a0 a1 a2 : AV} {h : H} {R : AV → H → Prop} (hp : sh60 C a0 a1 a2 h R) : C 60 [a0, a1, a2] h R := can_she tab60 rfl oka60 (Nat.le_of_ble_eq_true rfl) (she60 C a0 a1 a2 h R) hp
theorem tab61 : tab 61 = some fn61 := by kernel_rfl
theorem run61 {a0 a1 : AV} {h : H} {R : AV → H → Prop} (hp : sh61 C a0 a1 h R) : C 61 [a0, a1] h R := can_she tab61 rfl oka61 (Nat.le_of_ble_eq_true rfl) (she61 C a0 a1 h R) hp
theorem tab62 : tab 62 = some fn62 := by kernel_rfl
theorem run62 {a0 a1 : AV} {h : H} {R : AV → H → Prop} (hp : sh62 C a0 a1 h R) : C 62 [a0, a1] h R := can_she tab62 rfl oka62 (Nat.le_of_ble_eq_true rfl) (she62 C a0 a1 h R) hp
theorem tab63 : tab 63 = some fn63 := by kernel_rfl
theorem run63 {a0 a1 a2 a3 : AV} {h : H} {R : AV → H → Prop} (hp : sh63 C a0 a1 a2 a3 h R) : C 63 [a0, a1, a2, a3] h R := can_she tab63 rfl oka63 (Nat.le_of_ble_eq_true rfl) (she63 C a0 a1 a2 a3 h R) hp
theorem tab64 : tab 64 = some fn64 := by kernel_rfl
theorem run64 {a0 a1 a2 : AV} {h : H} {R : AV → H → Prop} (hp : sh64 C a0 a1 a2 h R) : C 64 [a0, a1, a2] h R := can_she tab64 rfl oka64 (Nat.le_of_ble_eq_true rfl) (she64 C a0 a1 a2 h R) hp
theorem tab65 : tab 65 = some fn65 := by kernel_rfl
theorem run65 {a0 a1 a2 a3 : AV} {h : H} {R : AV → H → Prop} (hp : sh65 C a0 a1 a2 a3 h R) : C 65 [a0, a1, a2, a3] h R := can_she tab65 rfl oka65 (Nat.le_of_ble_eq_true rfl) (she65 C a0 a1 a2 a3 h R) hp
theorem tab67 : tab 67 = some fn67 := by kernel_rfl
theorem run67 {a0 a1 : AV} {h : H} {R : AV → H → Prop} (hp : sh67 C a0 a1 h R) : C 67 [a0, a1] h R := can_she tab67 rfl oka67 (Nat.le_of_ble_eq_true rfl) (she67 C a0 a1 h R) hp
theorem tab68 : tab 68 = some fn68 := by kernel_rfl
theorem run68 {a0 a1 : AV} {h : H} {R : AV → H → Prop} (hp : sh68 C a0 a1 h R) : C 68 [a0, a1] h R := can_she tab68 rfl oka68 (Nat.le_of_ble_eq_true rfl) (she68 C a0 a1 h R) hp
theorem tab69 : tab 69 = some fn69 := by kernel_rfl
theorem run69 {a0 a1 : AV} {h : H} {R : AV → H → Prop} (hp : sh69 C a0 a1 h R) : C 69 [a0, a1] h R := can_she tab69 rfl oka69 (Nat.le_of_ble_eq_true rfl) (she69 C a0 a1 h R) hp
theorem tab71 : tab 71 = some fn71 := by kernel_rfl
theorem run71 {a0 a1 : AV} {h : H} {R : AV → H → Prop} (hp : sh71 C a0 a1 h R) : C 71 [a0, a1] h R := can_she tab71 rfl oka71 (Nat.le_of_ble_eq_true rfl) (she71 C a0 a1 h R) hp
theorem tab72 : tab 72 = some fn72 := by kernel_rfl
theorem run72 {a0 a1 : AV} {h : H} {R : AV → H → Prop} (hp : sh72 C a0 a1 h R) : C 72 [a0, a1] h R := can_she tab72 rfl oka72 (Nat.le_of_ble_eq_true rfl) (she72 C a0 a1 h R) hp
theorem tab73 : tab 73 = some fn73 := by kernel_rfl
theorem run73 {a0 : AV} {h : H} {R : AV → H → Prop} (hp : sh73 C a0 h R) : C 73 [a0] h R := can_she tab73 rfl oka73 (Nat.le_of_ble_eq_true rfl) (she73 C a0 h R) hp
theorem tab74 : tab 74 = some fn74 := by kernel_rfl
theorem run74 {a0 a1 a2 : AV} {h : H} {R : AV → H → Prop} (hp : sh74 C a0 a1 a2 h R) : C 74 [a0, a1, a2] h R := can_she tab74 rfl oka74 (Nat.le_of_ble_eq_true rfl) (she74 C a0 a1 a2 h R) hp
theorem tab75 : tab 75 = some fn75 := by kernel_rfl
theorem run75 {a0 : AV} {h : H} {R : AV → H → Prop} (hp : sh75 C a0 h R) : C 75 [a0] h R := can_she tab75 rfl oka75 (Nat.le_of_ble_eq_true rfl) (she75 C a0 h R) hp
theorem tab78 : tab 78 = some fn78 := by kernel_rfl
theorem run78 {a0 a1 a2 : AV} {h : H} {R : AV → H → Prop} (hp : sh78 C a0 a1 a2 h R) : C 78 [a0, a1, a2] h R := can_she tab78 rfl oka78 (Nat.le_of_ble_eq_true rfl) (she78 C a0 a1 a2 h R) hp
theorem tab80 : tab 80 = some fn80 := by kernel_rfl
theorem run80 {a0 a1 : AV} {h : H} {R : AV → H → Prop} (hp : sh80 C a0 a1 h R) : C 80 [a0, a1] h R := can_she tab80 rfl oka80 (Nat.le_of_ble_eq_true rfl) (she80 C a0 a1 h R) hp
theorem tab81 : tab 81 = some fn81 := by kernel_rfl
theorem run81 {a0 a1 : AV} {h : H} {R : AV → H → Prop} (hp : sh81 C a0 a1 h R) : C 81 [a0, a1] h R := can_she tab81 rfl oka81 (Nat.le_of_ble_eq_true rfl) (she81 C a0 a1 h R) hp
theorem tab82 : tab 82 = some fn82 := by kernel_rfl
theorem run82 {a0 : AV} {h : H} {R : AV → H → Prop} (hp : sh82 C a0 h R) : C 82 [a0] h R := can_she tab82 rfl oka82 (Nat.le_of_ble_eq_true rfl) (she82 C a0 h R) hp
theorem tab83 : tab 83 = some fn83 := by kernel_rfl
theorem run83 {a0 : AV} {h : H} {R : AV → H → Prop} (hp : sh83 C a0 h R) : C 83 [a0] h R := can_she tab83 rfl oka83 (Nat.le_of_ble_eq_true rfl) (she83 C a0 h R) hp
theorem tab84 : tab 84 = some fn84 := by kernel_rfl
theorem run84 {a0 a1 : AV} {h : H} {R : AV → H → Prop} (hp : sh84 C a0 a1 h R) : C 84 [a0, a1] h R := can_she tab84 rfl oka84 (Nat.le_of_ble_eq_true rfl) (she84 C a0 a1 h R) hp
theorem tab85 : tab 85 = some fn85 := by kernel_rfl
theorem run85 {a0 : AV} {h : H} {R : AV → H → Prop} (hp : sh85 C a0 h R) : C 85 [a0] h R := can_she tab85 rfl oka85 (Nat.le_of_ble_eq_true rfl) (she85 C a0 h R) hp
theorem tab86 : tab 86 = some fn86 := by kernel_rfl
theorem run86 {h : H} {R : AV → H → Prop} (hp : sh86 C h R) : C 86 [] h R := can_she tab86 rfl oka86 (Nat.le_of_ble_eq_true rfl) (she86 C h R) hp
theorem tab87 : tab 87 = some fn87 := by kernel_rfl
theorem run87 {a0 a1 : AV} {h : H} {R : AV → H → Prop} (hp : sh87 C a0 a1 h R) : C 87 [a0, a1] h R := can_she tab87 rfl oka87 (Nat.le_of_ble_eq_true rfl) (she87 C a0 a1 h R) hp
theorem tab88 : tab 88 = some fn88 := by kernel_rfl
theorem run88 {a0 a1 : AV} {h : H} {R : AV → H → Prop} (hp : sh88 C a0 a1 h R) : C 88 [a0, a1] h R := can_she tab88 rfl oka88 (Nat.le_of_ble_eq_true rfl) (she88 C a0 a1 h R) hp
theorem tab89 : tab 89 = some fn89 := by kernel_rfl
theorem run89 {a0 : AV} {h : H} {R : AV → H → Prop} (hp : sh89 C a0 h R) : C 89 [a0] h R := can_she tab89 rfl oka89 (Nat.le_of_ble_eq_true rfl) (she89 C a0 h R) hp
theorem tab90 : tab 90 = some fn90 := by kernel_rfl
theorem run90 {a0 a1 : AV} {h : H} {R : AV → H → Prop} (hp : sh90 C a0 a1 h R) : C 90 [a0, a1] h R := can_she tab90 rfl oka90 (Nat.le_of_ble_eq_true rfl) (she90 C a0 a1 h R) hp
theorem tab92 : tab 92 = some fn92 := by kernel_rfl
theorem run92 {a0 a1 : AV} {h : H} {R : AV → H → Prop} (hp : sh92 C a0 a1 h R) : C 92 [a0, a1] h R := can_she tab92 rfl oka92 (Nat.le_of_ble_eq_true rfl) (she92 C a0 a1 h R) hp
theorem tab94 : tab 94 = some fn94 := by kernel_rfl
theorem run94 {a0 a1 : AV} {h : H} {R : AV → H → Prop} (hp : sh94 C a0 a1 h R) : C 94 [a0, a1] h R := can_she tab94 rfl oka94 (Nat.le_of_ble_eq_true rfl) (she94 C a0 a1 h R) hp
theorem tab101 : tab 101 = some fn101 := by kernel_rfl
theorem run101 {a0 a1 a2 a3 : AV} {h : H} {R : AV → H → Prop} (hp : sh101 C a0 a1 a2 a3 h R) : C 101 [a0, a1, a2, a3] h R := can_she tab101 rfl oka101 (Nat.le_of_ble_eq_true rfl) (she101 C a0 a1 a2 a3 h R) hp
theorem tab102 : tab 102 = some fn102 := by kernel_rfl
theorem run102 {a0 a1 a2 : AV} {h : H} {R : AV → H → Prop} (hp : sh102 C a0 a1 a2 h R) : C 102 [a0, a1, a2] h R := can_she tab102 rfl oka102 (Nat.le_of_ble_eq_true rfl) (she102 C a0 a1 a2 h R) hp
theorem tab103 : tab 103 = some fn103 := by kernel_rfl
theorem run103 {a0 a1 a2 a3 : AV} {h : H} {R : AV → H → Prop} (hp : sh103 C a0 a1 a2 a3 h R) : C 103 [a0, a1, a2, a3] h R := can_she tab103 rfl oka103 (Nat.le_of_ble_eq_true rfl) (she103 C a0 a1 a2 a3 h R) hp
theorem tab104 : tab 104 = some fn104 := by kernel_rfl
theorem run104 {a0 a1 a2 a3 : AV} {h : H} {R : AV → H → Prop} (hp : sh104 C a0 a1 a2 a3 h R) : C 104 [a0, a1, a2, a3] h R := can_she tab104 rfl oka104 (Nat.le_of_ble_eq_true rfl) (she104 C a0 a1 a2 a3 h R) hp
theorem tab106 : tab 106 = some fn106 := by kernel_rfl
theorem run106 {a0 : AV} {h : H} {R : AV → H → Prop} (hp : sh106 C a0 h R) : C 106 [a0] h R := can_she tab106 rfl oka106 (Nat.le_of_ble_eq_true rfl) (she106 C a0 h R) hp
theorem tab107 : tab 107 = some fn107 := by kernel_rfl
theorem run107 {a0 a1 : AV} {h : H} {R : AV → H → Prop} (hp : sh107 C a0 a1 h R) : C 107 [a0, a1] h R := can_she tab107 rfl oka107 (Nat.le_of_ble_eq_true rfl) (she107 C a0 a1 h R) hp
theorem tab108 : tab 108 = some fn108 := by kernel_rfl
theorem run108 {a0 : AV} {h : H} {R : AV → H → Prop} (hp : sh108 C a0 h R) : C 108 [a0] h R := can_she tab108 rfl oka108 (Nat.le_of_ble_eq_true rfl) (she108 C a0 h R) hp
theorem tab109 : tab 109 = some fn109 := by kernel_rfl
theorem run109 {a0 a1 : AV} {h : H} {R : AV → H → Prop} (hp : sh109 C a0 a1 h R) : C 109 [a0, a1] h R := can_she tab109 rfl oka109 (Nat.le_of_ble_eq_true rfl) (she109 C a0 a1 h R) hp
theorem tab110 : tab 110 = some fn110 := by kernel_rfl
theorem run110 {a0 a1 : AV} {h : H} {R : AV → H → Prop} (hp : sh110 C a0 a1 h R) : C 110 [a0, a1] h R := can_she tab110 rfl oka110 (Nat.le_of_ble_eq_true rfl) (she110 C a0 a1 h R) hp
theorem tab111 : tab 111 = some fn111 := by kernel_rfl
theorem run111 {a0 a1 a2 a3 : AV} {h : H} {R : AV → H → Prop} (hp : sh111 C a0 a1 a2 a3 h R) : C 111 [a0, a1, a2, a3] h R := can_she tab111 rfl oka111 (Nat.le_of_ble_eq_true rfl) (she111 C a0 a1 a2 a3 h R) hp
theorem tab112 : tab 112 = some fn112 := by kernel_rfl
theorem run112 {a0 a1 : AV} {h : H} {R : AV → H → Prop} (hp : sh112 C a0 a1 h R) : C 112 [a0, a1] h R := can_she tab112 rfl oka112 (Nat.le_of_ble_eq_true rfl) (she112 C a0 a1 h R) hp
theorem tab113 : tab 113 = some fn113 := by kernel_rfl
theorem run113 {a0 a1 a2 a3 : AV} {h : H} {R : AV → H → Prop} (hp : sh113 C a0 a1 a2 a3 h R) : C 113 [a0, a1, a2, a3] h R := can_she tab113 rfl oka113 (Nat.le_of_ble_eq_true rfl) (she113 C a0 a1 a2 a3 h R) hp
theorem tab114 : tab 114 = some fn114 := by kernel_rfl
theorem run114 {a0 a1 a2 : AV} {h : H} {R : AV → H → Prop} (hp : sh114 C a0 a1 a2 h R) : C 114 [a0, a1, a2] h R := can_she tab114 rfl oka114 (Nat.le_of_ble_eq_true rfl) (she114 C a0 a1 a2 h R) hp
theorem tab115 : tab 115 = some fn115 := by kernel_rfl
theorem run115 {a0 a1 : AV} {h : H} {R : AV → H → Prop} (hp : sh115 C a0 a1 h R) : C 115 [a0, a1] h R := can_she tab115 rfl oka115 (Nat.le_of_ble_eq_true rfl) (she115 C a0 a1 h R) hp
theorem tab116 : tab 116 = some fn116 := by kernel_rfl
theorem run116 {a0 a1 : AV} {h : H} {R : AV → H → Prop} (hp : sh116 C a0 a1 h R) : C 116 [a0, a1] h R := can_she tab116 rfl oka116 (Nat.le_of_ble_eq_true rfl) (she116 C a0 a1 h R) hp
theorem tab117 : tab 117 = some fn117 := by kernel_rfl
theorem run117 {a0 a1 a2 a3 a4 : AV} {h : H} {R : AV → H → Prop} (hp : sh117 C a0 a1 a2 a3 a4 h R) : C 117 [a0, a1, a2, a3, a4] h R := can_she tab117 rfl oka117 (Nat.le_of_ble_eq_true rfl) (she117 C a0 a1 a2 a3 a4 h R) hp
theorem tab118 : tab 118 = some fn118 := by kernel_rfl
theorem run118 {a0 a1 : AV} {h : H} {R : AV → H → Prop} (hp : sh118 C a0 a1 h R) : C 118 [a0, a1] h R := can_she tab118 rfl oka118 (Nat.le_of_ble_eq_true rfl) (she118 C a0 a1 h R) hp
theorem tab119 : tab 119 = some fn119 := by kernel_rfl
theorem run119 {a0 a1 : AV} {h : H} {R : AV → H → Prop} (hp : sh119 C a0 a1 h R) : C 119 [a0, a1] h R := can_she tab119 rfl oka119 (Nat.le_of_ble_eq_true rfl) (she119 C a0 a1 h R) hp
theorem tab120 : tab 120 = some fn120 := by kernel_rfl
theorem run120 {a0 a1 a2 : AV} {h : H} {R : AV → H → Prop} (hp : sh120 C a0 a1 a2 h R) : C 120 [a0, a1, a2] h R := can_she tab120 rfl oka120 (Nat.le_of_ble_eq_true rfl) (she120 C a0 a1 a2 h R) hp
theorem tab121 : tab 121 = some fn121 := by kernel_rfl
theorem run121 {a0 a1 : AV} {h : H} {R : AV → H → Prop} (hp : sh121 C a0 a1 h R) : C 121 [a0, a1] h R := can_she tab121 rfl oka121 (Nat.le_of_ble_eq_true rfl) (she121 C a0 a1 h R) hp
end Go.Proofs.Ytljkkfcokpimkaa.X
