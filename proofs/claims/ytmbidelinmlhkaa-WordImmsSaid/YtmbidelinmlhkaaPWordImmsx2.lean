-- PRINTED BY print.sh 35421559b90ae4d0a3588c463048766b98c2df88dd9212a6774a882060cdf62d: not written by this session
import Derived.Test.YtmbidelinmlhkaaPWordImmsx0
import Derived.Test.YtmbidelinmlhkaaPWordImmsx1
namespace Go.Proofs.Ytmbidelinmlhkaa.PWordImms
open Go.RowKit Go.Proofs.YtmbidelinmlhkaaW.PrintWords Go.Proofs.YtmbidelinmlhkaaW.PrintLast Go.Proofs.YtmbidelinmlhkaaW.PrintMore
attribute [local go_sem] max2_int min2_int max_two min_two max_three min_three max_four min_four   -- for this text's walks alone
set_option linter.unusedVariables false
set_option linter.unusedSimpArgs false

/-! ### bellowsref01_Wrap: function 17 -/
mutual
def bellowsref01_Wrap.l0 : Nat → Int → Option (Int)
  | 0, _ => none
  | k + 1, x0 => if x0 ≥ 4611686018427387904 then (bellowsref01_Wrap.l0 k (wrap64 ((wrap64 (x0 - 4611686018427387904)) - 4611686018427387904))) else (bellowsref01_Wrap.l1 k x0)
def bellowsref01_Wrap.l1 : Nat → Int → Option (Int)
  | 0, _ => none
  | k + 1, x0 => if x0 < (-4611686018427387904) then (bellowsref01_Wrap.l1 k (wrap64 ((wrap64 (x0 + 4611686018427387904)) + 4611686018427387904))) else (some x0)
end
def bellowsref01_Wrap.f (k : Nat) (a0 : Int) : Option (Int) := bellowsref01_Wrap.l0 k a0
theorem bellowsref01_Wrap.mono_l : ∀ k, (∀ y0, LeO (bellowsref01_Wrap.l0 k y0) (bellowsref01_Wrap.l0 (k + 1) y0)) ∧ (∀ y0, LeO (bellowsref01_Wrap.l1 k y0) (bellowsref01_Wrap.l1 (k + 1) y0))
  | 0 => ⟨fun _ r h => by simp [bellowsref01_Wrap.l0] at h, fun _ r h => by simp [bellowsref01_Wrap.l1] at h⟩
  | k + 1 => by
    obtain ⟨ih0, ih1⟩ := bellowsref01_Wrap.mono_l k
    refine ⟨?_, ?_⟩
    · intro y0
      unfold bellowsref01_Wrap.l0
      repeat' first
      | (with_reducible exact ih0 _)
      | (with_reducible exact ih1 _)
      | (with_reducible exact LeO.refl _)
      | (with_reducible exact LeO.none _)
      | (with_reducible refine LeO.ite ?_ ?_)
      | (with_reducible refine LeO.bind ?_ (fun _ => ?_))
      | exact ih0 _
      | exact ih1 _
      | exact LeO.none _
      | refine LeO.ite ?_ ?_
      | refine LeO.bind ?_ (fun _ => ?_)
    · intro y0
      unfold bellowsref01_Wrap.l1
      repeat' first
      | (with_reducible exact ih0 _)
      | (with_reducible exact ih1 _)
      | (with_reducible exact LeO.refl _)
      | (with_reducible exact LeO.none _)
      | (with_reducible refine LeO.ite ?_ ?_)
      | (with_reducible refine LeO.bind ?_ (fun _ => ?_))
      | exact ih0 _
      | exact ih1 _
      | exact LeO.none _
      | refine LeO.ite ?_ ?_
      | refine LeO.bind ?_ (fun _ => ?_)
theorem bellowsref01_Wrap.mono : ∀ a0 k, LeO (bellowsref01_Wrap.f k a0) (bellowsref01_Wrap.f (k + 1) a0) := by
  intro a0 k
  obtain ⟨ih0, ih1⟩ := bellowsref01_Wrap.mono_l k
  unfold bellowsref01_Wrap.f
  repeat' first
      | (with_reducible exact ih0 _)
      | (with_reducible exact ih1 _)
      | (with_reducible exact LeO.refl _)
      | (with_reducible exact LeO.none _)
      | (with_reducible refine LeO.ite ?_ ?_)
      | (with_reducible refine LeO.bind ?_ (fun _ => ?_))
      | exact ih0 _
      | exact ih1 _
      | exact LeO.none _
      | refine LeO.ite ?_ ?_
      | refine LeO.bind ?_ (fun _ => ?_)
set_option maxHeartbeats 8000000 in
set_option maxRecDepth 100000 in
theorem bellowsref01_Wrap.calls (k : Nat) (a0 : Int) (r : Int) (w : World) (h : bellowsref01_Wrap.f k a0 = some r) :
    Calls Try.prog 17 #[.int .i64 a0] w fun e w' => e = .returned (.int .i64 r) ∧ Drawn0 w w' := by
  have H : (bellowsref01_Wrap.l0 k a0) = some r := h
  clear h
  have H' := Aside0.mk H
  clear H
  go_enter Try.func17, Try.ntmps17
  go_wp2
  go_loopg [0] k (fun kq v0 w' => ∃ (x0_1 : Int), v0 = .int .i64 x0_1 ∧ Aside0 (bellowsref01_Wrap.l0 kq x0_1 = some r) ∧ Aside0 (kq ≤ k) ∧ Drawn0 w w')
  case atStart => exact ⟨(a0), (by first | rfl | (simp; done) | (simp [*]; done)), H', ⟨Nat.le_refl _⟩, by repeat (first | exact Drawn0.refl _ | apply Drawn0.step)⟩
  case round =>
    clear H'
    try clear c1
    obtain ⟨x0_1, rfl, HA, HK1, ⟨m1, rfl⟩⟩ := hrel
    cases gk with
    | zero => exact absurd HA.out (by simp [bellowsref01_Wrap.l0])
    | succ k1 =>
      have H := HA.out
      clear HA
      simp only [bellowsref01_Wrap.l0] at H
      by_cases c2 : x0_1 ≥ 4611686018427387904
      · rw [if_pos c2] at H
        have c2b0 : decide (4611686018427387904 ≤ x0_1) = true := decide_eq_true c2
        clear c2
        have H' := Aside0.mk H
        clear H
        go_wp2
        go_roundg k1
        case measure => have := HK1.out; omega
        case rel => exact ⟨(wrap64 ((wrap64 (x0_1 - 4611686018427387904)) - 4611686018427387904)), (by first | rfl | (simp; done) | (simp [*]; done)), H', ⟨by have := HK1.out; omega⟩, by repeat (first | exact Drawn0.refl _ | apply Drawn0.step)⟩
      · rw [if_neg c2] at H
        have c2b0 : decide (4611686018427387904 ≤ x0_1) = false := decide_eq_false c2
        clear c2
        have H' := Aside0.mk H
        clear H
        go_wp2
        go_loopg [0] k1 (fun kq v0 w' => ∃ (x0_2 : Int), v0 = .int .i64 x0_2 ∧ Aside0 (bellowsref01_Wrap.l1 kq x0_2 = some r) ∧ Aside0 (kq ≤ k1) ∧ Drawn0 w w')
        case atStart => exact ⟨(x0_1), (by first | rfl | (simp; done) | (simp [*]; done)), H', ⟨Nat.le_refl _⟩, by repeat (first | exact Drawn0.refl _ | apply Drawn0.step)⟩
        case round =>
          clear H'
          try clear c1
          try clear c2
          try clear c2b0
          try clear p2
          obtain ⟨x0_2, rfl, HA, HK2, ⟨m2, rfl⟩⟩ := hrel
          cases gk with
          | zero => exact absurd HA.out (by simp [bellowsref01_Wrap.l1])
          | succ k2 =>
            have H := HA.out
            clear HA
            simp only [bellowsref01_Wrap.l1] at H
            by_cases c3 : x0_2 < (-4611686018427387904)
            · rw [if_pos c3] at H
              have c3b0 : decide (x0_2 < (-4611686018427387904)) = true := decide_eq_true c3
              clear c3
              have H' := Aside0.mk H
              clear H
              go_wp2
              go_roundg k2
              case measure => have := HK1.out; have := HK2.out; omega
              case rel => exact ⟨(wrap64 ((wrap64 (x0_2 + 4611686018427387904)) + 4611686018427387904)), (by first | rfl | (simp; done) | (simp [*]; done)), H', ⟨by have := HK1.out; have := HK2.out; omega⟩, by repeat (first | exact Drawn0.refl _ | apply Drawn0.step)⟩
            · rw [if_neg c3] at H
              have c3b0 : decide (x0_2 < (-4611686018427387904)) = false := decide_eq_false c3
              clear c3
              obtain rfl := Option.some.inj H
              go_wp2
              go_ret
              exact ⟨by first | rfl | (simp; done) | (simp [*]; done), by repeat (first | exact Drawn0.refl _ | apply Drawn0.step)⟩

/-! ### bellowsref01_Imm: function 25 -/
def bellowsref01_Imm.f (k : Nat) (a0 : Int) : Option (Int) := (bellowsref01_Wrap.f k a0).bind fun t125 => (some (IntKind.u64.wrap ((IntKind.u64.wrap ((IntKind.u64.wrap (t125)) * 2)) + 1)))
theorem bellowsref01_Imm.mono : ∀ a0 k, LeO (bellowsref01_Imm.f k a0) (bellowsref01_Imm.f (k + 1) a0) := by
  intro a0 k
  unfold bellowsref01_Imm.f
  repeat' first
      | (with_reducible exact bellowsref01_Wrap.mono _ _)
      | (with_reducible exact LeO.refl _)
      | (with_reducible exact LeO.none _)
      | (with_reducible refine LeO.ite ?_ ?_)
      | (with_reducible refine LeO.bind ?_ (fun _ => ?_))
      | exact bellowsref01_Wrap.mono _ _
      | exact LeO.none _
      | refine LeO.ite ?_ ?_
      | refine LeO.bind ?_ (fun _ => ?_)
set_option maxHeartbeats 8000000 in
set_option maxRecDepth 100000 in
theorem bellowsref01_Imm.calls (k : Nat) (a0 : Int) (r : Int) (w : World) (h : bellowsref01_Imm.f k a0 = some r) :
    Calls Try.prog 25 #[.int .i64 a0] w fun e w' => e = .returned (.int .u64 r) ∧ Drawn0 w w' := by
  have H : ((bellowsref01_Wrap.f k a0).bind fun t125 => (some (IntKind.u64.wrap ((IntKind.u64.wrap ((IntKind.u64.wrap (t125)) * 2)) + 1)))) = some r := h
  clear h
  replace H := Option.bind_eq_some_iff.mp H
  obtain ⟨t125, A20, H⟩ := H
  replace H : (some (IntKind.u64.wrap ((IntKind.u64.wrap ((IntKind.u64.wrap (t125)) * 2)) + 1))) = some r := H
  have A2 := Aside0.mk A20
  clear A20
  obtain rfl := Option.some.inj H
  go_enter Try.func25, Try.ntmps25
  go_wp2_with (first | ((with_reducible refine gate_callee (f := 17) rfl ?_); refine goesL_ (some 4) rfl rfl Try.func17 (by kernel_rfl) rfl #[.int .i64 a0] rfl (by (try simp only [List.map_toArray, List.map_cons, List.map_nil]); first | done | rfl | (simp only [List.length_drop, List.length_take]; rfl)) ?_; (with_reducible refine (bellowsref01_Wrap.calls k a0 t125 _ A2.out).mono ?_); rintro e w' ⟨rfl, ⟨nd, rfl⟩⟩; refine ⟨_, rfl, ?_⟩))
  go_ret
  exact ⟨by first | rfl | (simp; done) | (simp [*]; done), by repeat (first | exact Drawn0.refl _ | apply Drawn0.step)⟩

/-! ### bellowsref01_power: function 48 -/
def bellowsref01_power.l0 : Nat → Int → Int → Int → Option (Int)
  | 0, _, _, _ => none
  | k + 1, x0, x3, x4 => if x4 < x0 then (bellowsref01_power.l0 k x0 (IntKind.u64.wrap (x3 * 2)) (wrap64 (x4 + 1))) else (some x3)
def bellowsref01_power.f (k : Nat) (a0 : Int) : Option (Int) := bellowsref01_power.l0 k a0 1 0
theorem bellowsref01_power.mono_l : ∀ k, (∀ y0 y1 y2, LeO (bellowsref01_power.l0 k y0 y1 y2) (bellowsref01_power.l0 (k + 1) y0 y1 y2))
  | 0 => fun _ _ _ r h => by simp [bellowsref01_power.l0] at h
  | k + 1 => by
    have ih0 := bellowsref01_power.mono_l k
    · intro y0 y1 y2
      unfold bellowsref01_power.l0
      repeat' first
      | (with_reducible exact ih0 _ _ _)
      | (with_reducible exact LeO.refl _)
      | (with_reducible exact LeO.none _)
      | (with_reducible refine LeO.ite ?_ ?_)
      | (with_reducible refine LeO.bind ?_ (fun _ => ?_))
      | exact ih0 _ _ _
      | exact LeO.none _
      | refine LeO.ite ?_ ?_
      | refine LeO.bind ?_ (fun _ => ?_)
theorem bellowsref01_power.mono : ∀ a0 k, LeO (bellowsref01_power.f k a0) (bellowsref01_power.f (k + 1) a0) := by
  intro a0 k
  have ih0 := bellowsref01_power.mono_l k
  unfold bellowsref01_power.f
  repeat' first
      | (with_reducible exact ih0 _ _ _)
      | (with_reducible exact LeO.refl _)
      | (with_reducible exact LeO.none _)
      | (with_reducible refine LeO.ite ?_ ?_)
      | (with_reducible refine LeO.bind ?_ (fun _ => ?_))
      | exact ih0 _ _ _
      | exact LeO.none _
      | refine LeO.ite ?_ ?_
      | refine LeO.bind ?_ (fun _ => ?_)
set_option maxHeartbeats 8000000 in
set_option maxRecDepth 100000 in
theorem bellowsref01_power.calls (k : Nat) (a0 : Int) (r : Int) (w : World) (h : bellowsref01_power.f k a0 = some r) :
    Calls Try.prog 48 #[.int .i64 a0] w fun e w' => e = .returned (.int .u64 r) ∧ Drawn0 w w' := by
  have H : (bellowsref01_power.l0 k a0 1 0) = some r := h
  clear h
  have H' := Aside0.mk H
  clear H
  go_enter Try.func48, Try.ntmps48
  go_wp2
  go_loopg [3, 4] k (fun kq v3 v4 w' => ∃ (x3_1 : Int) (x4_1 : Int), v3 = .int .u64 x3_1 ∧ v4 = .int .i64 x4_1 ∧ Aside0 (bellowsref01_power.l0 kq a0 x3_1 x4_1 = some r) ∧ Aside0 (kq ≤ k) ∧ Drawn0 w w')
  case atStart => exact ⟨(1), (0), (by first | rfl | (simp; done) | (simp [*]; done)), (by first | rfl | (simp; done) | (simp [*]; done)), H', ⟨Nat.le_refl _⟩, by repeat (first | exact Drawn0.refl _ | apply Drawn0.step)⟩
  case round =>
    clear H'
    obtain ⟨x3_1, x4_1, rfl, rfl, HA, HK1, ⟨m1, rfl⟩⟩ := hrel
    cases gk with
    | zero => exact absurd HA.out (by simp [bellowsref01_power.l0])
    | succ k1 =>
      have H := HA.out
      clear HA
      simp only [bellowsref01_power.l0] at H
      by_cases c2 : x4_1 < a0
      · rw [if_pos c2] at H
        have c2b0 : decide (x4_1 < a0) = true := decide_eq_true c2
        clear c2
        have H' := Aside0.mk H
        clear H
        go_wp2
        go_roundg k1
        case measure => have := HK1.out; omega
        case rel => exact ⟨(IntKind.u64.wrap (x3_1 * 2)), (wrap64 (x4_1 + 1)), (by first | rfl | (simp; done) | (simp [*]; done)), (by first | rfl | (simp; done) | (simp [*]; done)), H', ⟨by have := HK1.out; omega⟩, by repeat (first | exact Drawn0.refl _ | apply Drawn0.step)⟩
      · rw [if_neg c2] at H
        have c2b0 : decide (x4_1 < a0) = false := decide_eq_false c2
        clear c2
        obtain rfl := Option.some.inj H
        go_wp2
        go_ret
        exact ⟨by first | rfl | (simp; done) | (simp [*]; done), by repeat (first | exact Drawn0.refl _ | apply Drawn0.step)⟩

/-! ### bellowsref01_Int: function 27 -/
def bellowsref01_Int.f (k : Nat) (a0 : Int) : Option (Int) := (bellowsref01_power.f k 62).bind fun t126 => (if (IntKind.u64.wrap (Int.tdiv a0 2)) ≥ t126 then ((bellowsref01_power.f k 62).bind fun t127 => ((bellowsref01_power.f k 62).bind fun t128 => (some (wrap64 ((wrap64 (-(wrap64 (IntKind.u64.wrap ((IntKind.u64.wrap (t127 - 1)) - (IntKind.u64.wrap ((IntKind.u64.wrap (Int.tdiv a0 2)) - t128))))))) - 1))))) else (some (wrap64 (IntKind.u64.wrap (Int.tdiv a0 2)))))
theorem bellowsref01_Int.mono : ∀ a0 k, LeO (bellowsref01_Int.f k a0) (bellowsref01_Int.f (k + 1) a0) := by
  intro a0 k
  unfold bellowsref01_Int.f
  repeat' first
      | (with_reducible exact bellowsref01_power.mono _ _)
      | (with_reducible exact LeO.refl _)
      | (with_reducible exact LeO.none _)
      | (with_reducible refine LeO.ite ?_ ?_)
      | (with_reducible refine LeO.bind ?_ (fun _ => ?_))
      | exact bellowsref01_power.mono _ _
      | exact LeO.none _
      | refine LeO.ite ?_ ?_
      | refine LeO.bind ?_ (fun _ => ?_)
set_option maxHeartbeats 8000000 in
set_option maxRecDepth 100000 in
theorem bellowsref01_Int.calls (k : Nat) (a0 : Int) (r : Int) (w : World) (h : bellowsref01_Int.f k a0 = some r) :
    Calls Try.prog 27 #[.int .u64 a0] w fun e w' => e = .returned (.int .i64 r) ∧ Drawn0 w w' := by
  have H : ((bellowsref01_power.f k 62).bind fun t126 => (if (IntKind.u64.wrap (Int.tdiv a0 2)) ≥ t126 then ((bellowsref01_power.f k 62).bind fun t127 => ((bellowsref01_power.f k 62).bind fun t128 => (some (wrap64 ((wrap64 (-(wrap64 (IntKind.u64.wrap ((IntKind.u64.wrap (t127 - 1)) - (IntKind.u64.wrap ((IntKind.u64.wrap (Int.tdiv a0 2)) - t128))))))) - 1))))) else (some (wrap64 (IntKind.u64.wrap (Int.tdiv a0 2)))))) = some r := h
  clear h
  replace H := Option.bind_eq_some_iff.mp H
  obtain ⟨t126, A20, H⟩ := H
  replace H : (if (IntKind.u64.wrap (Int.tdiv a0 2)) ≥ t126 then ((bellowsref01_power.f k 62).bind fun t127 => ((bellowsref01_power.f k 62).bind fun t128 => (some (wrap64 ((wrap64 (-(wrap64 (IntKind.u64.wrap ((IntKind.u64.wrap (t127 - 1)) - (IntKind.u64.wrap ((IntKind.u64.wrap (Int.tdiv a0 2)) - t128))))))) - 1))))) else (some (wrap64 (IntKind.u64.wrap (Int.tdiv a0 2))))) = some r := H
  have A2 := Aside0.mk A20
  clear A20
  by_cases c3 : (IntKind.u64.wrap (Int.tdiv a0 2)) ≥ t126
  · rw [if_pos c3] at H
    have c3b0 : decide (t126 ≤ (IntKind.u64.wrap (Int.tdiv a0 2))) = true := decide_eq_true c3
    clear c3
    replace H := Option.bind_eq_some_iff.mp H
    obtain ⟨t127, A40, H⟩ := H
    replace H : ((bellowsref01_power.f k 62).bind fun t128 => (some (wrap64 ((wrap64 (-(wrap64 (IntKind.u64.wrap ((IntKind.u64.wrap (t127 - 1)) - (IntKind.u64.wrap ((IntKind.u64.wrap (Int.tdiv a0 2)) - t128))))))) - 1)))) = some r := H
    have A4 := Aside0.mk A40
    clear A40
    replace H := Option.bind_eq_some_iff.mp H
    obtain ⟨t128, A50, H⟩ := H
    replace H : (some (wrap64 ((wrap64 (-(wrap64 (IntKind.u64.wrap ((IntKind.u64.wrap (t127 - 1)) - (IntKind.u64.wrap ((IntKind.u64.wrap (Int.tdiv a0 2)) - t128))))))) - 1))) = some r := H
    have A5 := Aside0.mk A50
    clear A50
    obtain rfl := Option.some.inj H
    go_enter Try.func27, Try.ntmps27
    go_wp2_with (first | ((with_reducible refine gate_callee (f := 48) rfl ?_); refine goesL_ (some 7) rfl rfl Try.func48 (by kernel_rfl) rfl #[.int .i64 62] rfl (by (try simp only [List.map_toArray, List.map_cons, List.map_nil]); first | done | rfl | (simp only [List.length_drop, List.length_take]; rfl)) ?_; (with_reducible refine (bellowsref01_power.calls k 62 t126 _ A2.out).mono ?_); rintro e w' ⟨rfl, ⟨nd, rfl⟩⟩; refine ⟨_, rfl, ?_⟩) | ((with_reducible refine gate_callee (f := 48) rfl ?_); refine goesL_ (some 9) rfl rfl Try.func48 (by kernel_rfl) rfl #[.int .i64 62] rfl (by (try simp only [List.map_toArray, List.map_cons, List.map_nil]); first | done | rfl | (simp only [List.length_drop, List.length_take]; rfl)) ?_; (with_reducible refine (bellowsref01_power.calls k 62 t127 _ A4.out).mono ?_); rintro e w' ⟨rfl, ⟨nd, rfl⟩⟩; refine ⟨_, rfl, ?_⟩) | ((with_reducible refine gate_callee (f := 48) rfl ?_); refine goesL_ (some 12) rfl rfl Try.func48 (by kernel_rfl) rfl #[.int .i64 62] rfl (by (try simp only [List.map_toArray, List.map_cons, List.map_nil]); first | done | rfl | (simp only [List.length_drop, List.length_take]; rfl)) ?_; (with_reducible refine (bellowsref01_power.calls k 62 t128 _ A5.out).mono ?_); rintro e w' ⟨rfl, ⟨nd, rfl⟩⟩; refine ⟨_, rfl, ?_⟩))
    go_ret
    exact ⟨by first | rfl | (simp; done) | (simp [*]; done), by repeat (first | exact Drawn0.refl _ | apply Drawn0.step)⟩
  · rw [if_neg c3] at H
    have c3b0 : decide (t126 ≤ (IntKind.u64.wrap (Int.tdiv a0 2))) = false := decide_eq_false c3
    clear c3
    obtain rfl := Option.some.inj H
    go_enter Try.func27, Try.ntmps27
    go_wp2_with (first | ((with_reducible refine gate_callee (f := 48) rfl ?_); refine goesL_ (some 7) rfl rfl Try.func48 (by kernel_rfl) rfl #[.int .i64 62] rfl (by (try simp only [List.map_toArray, List.map_cons, List.map_nil]); first | done | rfl | (simp only [List.length_drop, List.length_take]; rfl)) ?_; (with_reducible refine (bellowsref01_power.calls k 62 t126 _ A2.out).mono ?_); rintro e w' ⟨rfl, ⟨nd, rfl⟩⟩; refine ⟨_, rfl, ?_⟩))
    go_ret
    exact ⟨by first | rfl | (simp; done) | (simp [*]; done), by repeat (first | exact Drawn0.refl _ | apply Drawn0.step)⟩

/-! ### word_IsImm: function 28 -/
def word_IsImm.f (a0 : Int) : Option (Bool) := some ((Go.bits .and .u64 a0 1) == 1)
set_option maxHeartbeats 8000000 in
set_option maxRecDepth 100000 in
theorem word_IsImm.calls (a0 : Int) (r : Bool) (w : World) (h : word_IsImm.f a0 = some r) :
    Calls Try.prog 28 #[.int .u64 a0] w fun e w' => e = .returned (.bool r) ∧ Drawn0 w w' := by
  have H : (some ((Go.bits .and .u64 a0 1) == 1)) = some r := h
  clear h
  obtain rfl := Option.some.inj H
  go_enter Try.func28, Try.ntmps28
  go_wp2
  go_ret
  exact ⟨by first | rfl | (simp; done) | (simp [*]; done), by repeat (first | exact Drawn0.refl _ | apply Drawn0.step)⟩

/-! ### bellowslaw01_WordImms: function 6 -/
def bellowslaw01_WordImms.f (k : Nat) (a0 : Int) (a1 : Int) : Option (Bool) := (word_Imm.f a0).bind fun t129 => ((bellowsref01_Imm.f k a0).bind fun t130 => (if t129 = t130 then ((word_Int.f a1).bind fun t131 => ((bellowsref01_Int.f k a1).bind fun t132 => (if t131 = t132 then ((word_IsImm.f a1).bind fun t133 => (if (t133 == ((Int.tmod a1 2) == 1)) = true then ((bellowslaw01_lives.f k).bind fun t134 => (some t134)) else (some false))) else (some false)))) else (some false)))
theorem bellowslaw01_WordImms.mono : ∀ a0 a1 k, LeO (bellowslaw01_WordImms.f k a0 a1) (bellowslaw01_WordImms.f (k + 1) a0 a1) := by
  intro a0 a1 k
  unfold bellowslaw01_WordImms.f
  repeat' first
      | (with_reducible exact bellowslaw01_lives.mono _)
      | (with_reducible exact bellowsref01_Imm.mono _ _)
      | (with_reducible exact bellowsref01_Int.mono _ _)
      | (with_reducible exact LeO.refl _)
      | (with_reducible exact LeO.none _)
      | (with_reducible refine LeO.ite ?_ ?_)
      | (with_reducible refine LeO.bind ?_ (fun _ => ?_))
      | exact bellowslaw01_lives.mono _
      | exact bellowsref01_Imm.mono _ _
      | exact bellowsref01_Int.mono _ _
      | exact LeO.none _
      | refine LeO.ite ?_ ?_
      | refine LeO.bind ?_ (fun _ => ?_)
set_option maxHeartbeats 8000000 in
set_option maxRecDepth 100000 in
theorem bellowslaw01_WordImms.calls (k : Nat) (a0 : Int) (a1 : Int) (r : Bool) (w : World) (h : bellowslaw01_WordImms.f k a0 a1 = some r) :
    Calls Try.prog 6 #[.int .i64 a0, .int .u64 a1] w fun e w' => e = .returned (.bool r) ∧ Below w.heap.size w w' := by
  have HB := Aside0.mk (Below.refl w.heap.size w)
  have H : ((word_Imm.f a0).bind fun t129 => ((bellowsref01_Imm.f k a0).bind fun t130 => (if t129 = t130 then ((word_Int.f a1).bind fun t131 => ((bellowsref01_Int.f k a1).bind fun t132 => (if t131 = t132 then ((word_IsImm.f a1).bind fun t133 => (if (t133 == ((Int.tmod a1 2) == 1)) = true then ((bellowslaw01_lives.f k).bind fun t134 => (some t134)) else (some false))) else (some false)))) else (some false)))) = some r := h
  clear h
  replace H := Option.bind_eq_some_iff.mp H
  obtain ⟨t129, A30, H⟩ := H
  replace H : ((bellowsref01_Imm.f k a0).bind fun t130 => (if t129 = t130 then ((word_Int.f a1).bind fun t131 => ((bellowsref01_Int.f k a1).bind fun t132 => (if t131 = t132 then ((word_IsImm.f a1).bind fun t133 => (if (t133 == ((Int.tmod a1 2) == 1)) = true then ((bellowslaw01_lives.f k).bind fun t134 => (some t134)) else (some false))) else (some false)))) else (some false))) = some r := H
  have A3 := Aside0.mk A30
  clear A30
  replace H := Option.bind_eq_some_iff.mp H
  obtain ⟨t130, A40, H⟩ := H
  replace H : (if t129 = t130 then ((word_Int.f a1).bind fun t131 => ((bellowsref01_Int.f k a1).bind fun t132 => (if t131 = t132 then ((word_IsImm.f a1).bind fun t133 => (if (t133 == ((Int.tmod a1 2) == 1)) = true then ((bellowslaw01_lives.f k).bind fun t134 => (some t134)) else (some false))) else (some false)))) else (some false)) = some r := H
  have A4 := Aside0.mk A40
  clear A40
  by_cases c5 : t129 = t130
  · rw [if_pos c5] at H
    have c5b0 : (t129 == t130) = true := beq_iff_eq.mpr c5
    have c5b1 : (t129 != t130) = false := bne_eq_false_iff_eq.mpr c5
    clear c5
    replace H := Option.bind_eq_some_iff.mp H
    obtain ⟨t131, A60, H⟩ := H
    replace H : ((bellowsref01_Int.f k a1).bind fun t132 => (if t131 = t132 then ((word_IsImm.f a1).bind fun t133 => (if (t133 == ((Int.tmod a1 2) == 1)) = true then ((bellowslaw01_lives.f k).bind fun t134 => (some t134)) else (some false))) else (some false))) = some r := H
    have A6 := Aside0.mk A60
    clear A60
    replace H := Option.bind_eq_some_iff.mp H
    obtain ⟨t132, A70, H⟩ := H
    replace H : (if t131 = t132 then ((word_IsImm.f a1).bind fun t133 => (if (t133 == ((Int.tmod a1 2) == 1)) = true then ((bellowslaw01_lives.f k).bind fun t134 => (some t134)) else (some false))) else (some false)) = some r := H
    have A7 := Aside0.mk A70
    clear A70
    by_cases c8 : t131 = t132
    · rw [if_pos c8] at H
      have c8b0 : (t131 == t132) = true := beq_iff_eq.mpr c8
      have c8b1 : (t131 != t132) = false := bne_eq_false_iff_eq.mpr c8
      clear c8
      replace H := Option.bind_eq_some_iff.mp H
      obtain ⟨t133, A90, H⟩ := H
      replace H : (if (t133 == ((Int.tmod a1 2) == 1)) = true then ((bellowslaw01_lives.f k).bind fun t134 => (some t134)) else (some false)) = some r := H
      have A9 := Aside0.mk A90
      clear A90
      by_cases c10 : (t133 == ((Int.tmod a1 2) == 1)) = true
      · rw [if_pos c10] at H
        have c10b0 : (t133 == ((Int.tmod a1 2) == 1)) = true := c10
        (try (have c10b1 : decide (t133 = ((Int.tmod a1 2) == 1)) = true := by simpa using c10))
        (try (have c10b2 : (t133 == ((Int.tmod a1 2) == 1)) = true := by simpa using c10))
        clear c10
        replace H := Option.bind_eq_some_iff.mp H
        obtain ⟨t134, A110, H⟩ := H
        replace H : (some t134) = some r := H
        have A11 := Aside0.mk A110
        clear A110
        obtain rfl := Option.some.inj H
        go_enter Try.func6, Try.ntmps6
        go_wp2_with (first | ((with_reducible refine gate_callee (f := 24) rfl ?_); refine goesL_ (some 6) rfl rfl Try.func24 (by kernel_rfl) rfl #[.int .i64 a0] rfl (by (try simp only [List.map_toArray, List.map_cons, List.map_nil]); first | done | rfl | (simp only [List.length_drop, List.length_take]; rfl)) ?_; (with_reducible refine (word_Imm.calls a0 t129 _ A3.out).mono ?_); rintro e w' ⟨rfl, ⟨nd, rfl⟩⟩; refine ⟨_, rfl, ?_⟩) | ((with_reducible refine gate_callee (f := 25) rfl ?_); refine goesL_ (some 8) rfl rfl Try.func25 (by kernel_rfl) rfl #[.int .i64 a0] rfl (by (try simp only [List.map_toArray, List.map_cons, List.map_nil]); first | done | rfl | (simp only [List.length_drop, List.length_take]; rfl)) ?_; (with_reducible refine (bellowsref01_Imm.calls k a0 t130 _ A4.out).mono ?_); rintro e w' ⟨rfl, ⟨nd, rfl⟩⟩; refine ⟨_, rfl, ?_⟩) | (go_at_call 26; (with_reducible refine (word_Int.calls a1 t131 _ A6.out).mono ?_); rintro e w' ⟨rfl, ⟨nd, rfl⟩⟩) | (go_at_call 27; (with_reducible refine (bellowsref01_Int.calls k a1 t132 _ A7.out).mono ?_); rintro e w' ⟨rfl, ⟨nd, rfl⟩⟩) | (go_at_call 28; (with_reducible refine (word_IsImm.calls a1 t133 _ A9.out).mono ?_); rintro e w' ⟨rfl, ⟨nd, rfl⟩⟩) | (go_at_call 18; (with_reducible refine (bellowslaw01_lives.calls k  t134 _ A11.out).mono ?_); rintro e w12 ⟨rfl, hb⟩; have n0_ := Aside0.mk (below_step (by repeat (first | (with_reducible first | exact HB.out | apply below_alloc | apply pw_below_drewN | apply below_drew1) | exact HB.out)) hb); clear HB; have HB := n0_; clear n0_; (try clear hb); (try clear hb2); (try clear hk); (try clear hi)))
        go_ret
        exact ⟨by first | rfl | (simp [errW_none, errW_some] <;> rfl) | (simp [*, errW_none, errW_some] <;> rfl), by repeat (first | (with_reducible first | exact HB.out | apply below_alloc | apply pw_below_drewN | apply below_drew1) | exact HB.out)⟩
      · rw [if_neg c10] at H
        have c10b0 : (t133 == ((Int.tmod a1 2) == 1)) = false := by simpa using c10
        (try (have c10b1 : decide (t133 = ((Int.tmod a1 2) == 1)) = false := by simpa using c10))
        (try (have c10b2 : (t133 == ((Int.tmod a1 2) == 1)) = false := by simpa using c10))
        (try (have c10b3 : ¬ (t133 = ((Int.tmod a1 2) == 1)) := by simpa using c10))
        clear c10
        obtain rfl := Option.some.inj H
        go_enter Try.func6, Try.ntmps6
        go_wp2_with (first | ((with_reducible refine gate_callee (f := 24) rfl ?_); refine goesL_ (some 6) rfl rfl Try.func24 (by kernel_rfl) rfl #[.int .i64 a0] rfl (by (try simp only [List.map_toArray, List.map_cons, List.map_nil]); first | done | rfl | (simp only [List.length_drop, List.length_take]; rfl)) ?_; (with_reducible refine (word_Imm.calls a0 t129 _ A3.out).mono ?_); rintro e w' ⟨rfl, ⟨nd, rfl⟩⟩; refine ⟨_, rfl, ?_⟩) | ((with_reducible refine gate_callee (f := 25) rfl ?_); refine goesL_ (some 8) rfl rfl Try.func25 (by kernel_rfl) rfl #[.int .i64 a0] rfl (by (try simp only [List.map_toArray, List.map_cons, List.map_nil]); first | done | rfl | (simp only [List.length_drop, List.length_take]; rfl)) ?_; (with_reducible refine (bellowsref01_Imm.calls k a0 t130 _ A4.out).mono ?_); rintro e w' ⟨rfl, ⟨nd, rfl⟩⟩; refine ⟨_, rfl, ?_⟩) | (go_at_call 26; (with_reducible refine (word_Int.calls a1 t131 _ A6.out).mono ?_); rintro e w' ⟨rfl, ⟨nd, rfl⟩⟩) | (go_at_call 27; (with_reducible refine (bellowsref01_Int.calls k a1 t132 _ A7.out).mono ?_); rintro e w' ⟨rfl, ⟨nd, rfl⟩⟩) | (go_at_call 28; (with_reducible refine (word_IsImm.calls a1 t133 _ A9.out).mono ?_); rintro e w' ⟨rfl, ⟨nd, rfl⟩⟩))
        go_ret
        exact ⟨by first | rfl | (simp [errW_none, errW_some] <;> rfl) | (simp [*, errW_none, errW_some] <;> rfl), by repeat (first | (with_reducible first | exact HB.out | apply below_alloc | apply pw_below_drewN | apply below_drew1) | exact HB.out)⟩
    · rw [if_neg c8] at H
      have c8b0 : (t131 == t132) = false := beq_eq_false_iff_ne.mpr c8
      have c8b1 : (t131 != t132) = true := bne_iff_ne.mpr c8
      obtain rfl := Option.some.inj H
      go_enter Try.func6, Try.ntmps6
      go_wp2_with (first | ((with_reducible refine gate_callee (f := 24) rfl ?_); refine goesL_ (some 6) rfl rfl Try.func24 (by kernel_rfl) rfl #[.int .i64 a0] rfl (by (try simp only [List.map_toArray, List.map_cons, List.map_nil]); first | done | rfl | (simp only [List.length_drop, List.length_take]; rfl)) ?_; (with_reducible refine (word_Imm.calls a0 t129 _ A3.out).mono ?_); rintro e w' ⟨rfl, ⟨nd, rfl⟩⟩; refine ⟨_, rfl, ?_⟩) | ((with_reducible refine gate_callee (f := 25) rfl ?_); refine goesL_ (some 8) rfl rfl Try.func25 (by kernel_rfl) rfl #[.int .i64 a0] rfl (by (try simp only [List.map_toArray, List.map_cons, List.map_nil]); first | done | rfl | (simp only [List.length_drop, List.length_take]; rfl)) ?_; (with_reducible refine (bellowsref01_Imm.calls k a0 t130 _ A4.out).mono ?_); rintro e w' ⟨rfl, ⟨nd, rfl⟩⟩; refine ⟨_, rfl, ?_⟩) | (go_at_call 26; (with_reducible refine (word_Int.calls a1 t131 _ A6.out).mono ?_); rintro e w' ⟨rfl, ⟨nd, rfl⟩⟩) | (go_at_call 27; (with_reducible refine (bellowsref01_Int.calls k a1 t132 _ A7.out).mono ?_); rintro e w' ⟨rfl, ⟨nd, rfl⟩⟩))
      go_ret
      exact ⟨by first | rfl | (simp [errW_none, errW_some] <;> rfl) | (simp [*, errW_none, errW_some] <;> rfl), by repeat (first | (with_reducible first | exact HB.out | apply below_alloc | apply pw_below_drewN | apply below_drew1) | exact HB.out)⟩
  · rw [if_neg c5] at H
    have c5b0 : (t129 == t130) = false := beq_eq_false_iff_ne.mpr c5
    have c5b1 : (t129 != t130) = true := bne_iff_ne.mpr c5
    obtain rfl := Option.some.inj H
    go_enter Try.func6, Try.ntmps6
    go_wp2_with (first | ((with_reducible refine gate_callee (f := 24) rfl ?_); refine goesL_ (some 6) rfl rfl Try.func24 (by kernel_rfl) rfl #[.int .i64 a0] rfl (by (try simp only [List.map_toArray, List.map_cons, List.map_nil]); first | done | rfl | (simp only [List.length_drop, List.length_take]; rfl)) ?_; (with_reducible refine (word_Imm.calls a0 t129 _ A3.out).mono ?_); rintro e w' ⟨rfl, ⟨nd, rfl⟩⟩; refine ⟨_, rfl, ?_⟩) | ((with_reducible refine gate_callee (f := 25) rfl ?_); refine goesL_ (some 8) rfl rfl Try.func25 (by kernel_rfl) rfl #[.int .i64 a0] rfl (by (try simp only [List.map_toArray, List.map_cons, List.map_nil]); first | done | rfl | (simp only [List.length_drop, List.length_take]; rfl)) ?_; (with_reducible refine (bellowsref01_Imm.calls k a0 t130 _ A4.out).mono ?_); rintro e w' ⟨rfl, ⟨nd, rfl⟩⟩; refine ⟨_, rfl, ?_⟩))
    go_ret
    exact ⟨by first | rfl | (simp [errW_none, errW_some] <;> rfl) | (simp [*, errW_none, errW_some] <;> rfl), by repeat (first | (with_reducible first | exact HB.out | apply below_alloc | apply pw_below_drewN | apply below_drew1) | exact HB.out)⟩

/-- THE ONE PURE STATEMENT of bellowslaw01_WordImms: yours. -/
def bellowslaw01_WordImms.Pure : Prop := ∀ (a0 : Int) (a1 : Int), (Lit.int .i64 a0).wf = true → (Lit.int .u64 a1).wf = true → ∃ k, bellowslaw01_WordImms.f k a0 a1 = some true
theorem bellowslaw01_WordImms.walk (P : bellowslaw01_WordImms.Pure) (a0 : Int) (a1 : Int) (w : World) (w0 : (Lit.int .i64 a0).wf = true) (w1 : (Lit.int .u64 a1).wf = true) :
    Calls Try.prog 6 #[.int .i64 a0, .int .u64 a1] w fun e w' => e = .returned (.bool true) ∧ Below w.heap.size w w' := by
  obtain ⟨k, h⟩ := P a0 a1 w0 w1
  refine (bellowslaw01_WordImms.calls k a0 a1 true w h).mono ?_
  rintro e w' ⟨rfl, hd⟩
  exact ⟨rfl, hd⟩

end Go.Proofs.Ytmbidelinmlhkaa.PWordImms
