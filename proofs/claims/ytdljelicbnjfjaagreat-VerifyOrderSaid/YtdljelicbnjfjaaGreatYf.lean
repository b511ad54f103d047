/- The function that panics, and the one that catches. -/
import Derived.Test.YtdljelicbnjfjaaGreatYe
import Derived.Test.YtdljelicbnjfjaaGreatProg
import Derived.WalkKit
import Derived.WalkLawsBesides
import Derived.Tactics
import Derived.Tactics2
import Derived.Defers
import Derived.Recover
import Derived.Laws.Pointers
set_option linter.unusedVariables false
set_option linter.unusedSimpArgs false
namespace Go.Proofs.YtdljelicbnjfjaaGreat.X
open Go Go.RowKit

/-- What is thrown. -/
abbrev pvW : Value := .iface 186 (.agg #[])
theorem must_yes (w : World) : Calls Tryz.prog 161 #[.bool true] w fun e w' => e = .returned (.tuple #[]) ∧ w' = w := by
  go_enter Tryz.func161, Tryz.ntmps161
  go_wp2
  go_end0
  exact ⟨rfl, rfl⟩
theorem must_no (w : World) : Calls Tryz.prog 161 #[.bool false] w fun e w' => e = .panicked (oneP pvW) ∧ w' = w := by
  go_enter Tryz.func161, Tryz.ntmps161
  go_wp2
  exact ⟨rfl, rfl, rfl⟩
theorem mustOk : MustOk Tryz.prog pvW 161 := by
  refine ⟨by kernel_rfl, fun base ρ m w h => ?_, fun base ρ m w h => ?_⟩
  · refine Calls.mono (must_yes w) ?_
    rintro e w' ⟨rfl, rfl⟩
    exact ⟨rfl, h, Below.refl _ _⟩
  · refine Calls.mono (must_no w) ?_
    rintro e w' ⟨rfl, rfl⟩
    exact ⟨rfl, h, Below.refl _ _⟩
theorem catch_idle (p : Addr) (w : World) :
    CallsD Tryz.prog 156 #[.pointer (some p)] .returning w fun e u' w' => e = .returned (.tuple #[]) ∧ u' = .returning ∧ w' = w := by
  refine callsD_of_wpS Tryz.func156 rfl fun c₀ cs hu => ?_
  apply wpS_seq
  apply wpS_region
  simp [wpOpsS, go_sem, recoverD, hu, Tryz.ntmps156, Exit.thenS]
  refine wpS_of_wp ?_
  go_wp2
  cases c₀
  simp_all [bodyPostS, results, Tryz.results156]
theorem assert_run (w : World) : (Instr.typeAssert pvW 20 186 true).run Tryz.prog w = .ok (.tuple #[.agg #[], .bool true]) w := by
  simp [Instr.typeAssert, go_sem, Tryz.underlying186]
set_option maxRecDepth 20000 in
theorem catch_panic (p : Addr) (older : List PanicEntry) (w : World) (hp : p.block < w.heap.size) (x : Value) (hc : w.cell? p = some x) (hz : w.frozen? p = false) :
    CallsD Tryz.prog 156 #[.pointer (some p)] (.panicking ({ v := pvW, recovered := false } :: older)) w fun e u' w' =>
      e = .returned (.tuple #[]) ∧ u' = .panicking ({ v := pvW, recovered := true } :: older) ∧ w' = (w.alloc (.cells #[] 186)).setCell p (.bool false) := by
  refine callsD_of_wpS Tryz.func156 rfl fun c₀ cs hu => ?_
  apply wpS_seq
  apply wpS_region
  simp [wpOpsS, go_sem, recoverD, hu, Tryz.ntmps156, Exit.thenS]
  have hta := fun w => assert_run w
  have hbl : Below w.heap.size w (w.alloc (.cells #[] 186)) := (Below.refl _ _).alloc (Nat.le_refl _) _
  have hz2 : (w.alloc (.cells #[] 186)).frozen? p = false := by rw [hbl.frozen hp]; exact hz
  have hc2 : (w.alloc (.cells #[] 186)).cell? p = some x := by rw [hbl.cell hp]; exact hc
  refine wpS_of_wp ?_
  go_wp2
  cases c₀
  simp_all [bodyPostS, results, Tryz.results156]
set_option maxRecDepth 20000 in
theorem hold_yes (g : Nat) (F C : List Value) (w : World) (R : World → Prop) (hg : callOk Tryz.prog g = true) (hR : ∀ w', R w' → (∃ x, w'.cell? ⟨w.heap.size, 0, none⟩ = some x) ∧ w'.frozen? ⟨w.heap.size, 0, none⟩ = false)
    (hc : Calls Tryz.prog g (F ++ C).toArray (w.alloc (.cells #[.bool false] 4)) fun e w' => (∃ u, e = .returned u) ∧ R w') :
    Calls Tryz.prog 119 #[.func (.func g) F.toArray C.toArray] w fun e w' => e = .returned (.bool true) ∧ ∃ w1, R w1 ∧ w' = w1.setCell ⟨w.heap.size, 0, none⟩ (.bool true) := by
  have hmf : ∀ (fn : Fn) (first cap : Array Value) (w : World), (Instr.makeFunc fn first cap).run Tryz.prog w = .ok (.func fn first cap) w := fun _ _ _ _ => rfl
  have hrun := fun w => callOk_run (w := w) hg (F ++ C).toArray
  go_enter_defers Tryz.func119, Tryz.ntmps119
  go_wp2
  rename_i K1 a1 K2 a2
  refine Calls.mono hc ?_
  rintro e w' ⟨⟨u, rfl⟩, hr⟩
  obtain ⟨⟨x, hx⟩, hz⟩ := hR w' hr
  simp only
  apply a2
  go_wp2
  refine leaves_cons (f := 156) (args := #[.pointer (some ⟨w.heap.size, 0, none⟩)]) (by simp) (by simp [go_sem]) ?_
  refine (catch_idle _ _).mono ?_
  rintro e u' w'' ⟨rfl, rfl, rfl⟩
  have h1 : (w'.setCell ⟨w.heap.size, 0, none⟩ (.bool true)).cell? ⟨w.heap.size, 0, none⟩ = some (.bool true) := by
    simp [hx, go_sem]
  simp [Leaves, settle, results, Tryz.results119, go_sem, h1]
  exact ⟨w', hr, rfl⟩
set_option maxRecDepth 20000 in
theorem hold_no (g : Nat) (F C : List Value) (w : World) (R : World → Prop) (hg : callOk Tryz.prog g = true) (hR : ∀ w', R w' → (∃ x, w'.cell? ⟨w.heap.size, 0, none⟩ = some x) ∧ w'.frozen? ⟨w.heap.size, 0, none⟩ = false ∧ w.heap.size < w'.heap.size)
    (hc : Calls Tryz.prog g (F ++ C).toArray (w.alloc (.cells #[.bool false] 4)) fun e w' => e = .panicked (oneP pvW) ∧ R w') :
    Calls Tryz.prog 119 #[.func (.func g) F.toArray C.toArray] w fun e w' => e = .returned (.bool false) ∧ ∃ w1, R w1 ∧ w' = (w1.alloc (.cells #[] 186)).setCell ⟨w.heap.size, 0, none⟩ (.bool false) := by
  have hmf : ∀ (fn : Fn) (first cap : Array Value) (w : World), (Instr.makeFunc fn first cap).run Tryz.prog w = .ok (.func fn first cap) w := fun _ _ _ _ => rfl
  have hrun := fun w => callOk_run (w := w) hg (F ++ C).toArray
  go_enter_defers Tryz.func119, Tryz.ntmps119
  go_wp2
  rename_i K1 a1 K2 a2
  refine Calls.mono hc ?_
  rintro e w' ⟨rfl, hr⟩
  obtain ⟨⟨x, hx⟩, hz, hlt⟩ := hR w' hr
  simp only
  refine leaves_cons (f := 156) (args := #[.pointer (some ⟨w.heap.size, 0, none⟩)]) (by simp) (by simp [go_sem]) ?_
  refine (catch_panic _ [] w' hlt x hx hz).mono ?_
  rintro e u' w'' ⟨rfl, rfl, rfl⟩
  have hbl : Below w'.heap.size w' (w'.alloc (.cells #[] 186)) := (Below.refl _ _).alloc (Nat.le_refl _) _
  have hx2 : (w'.alloc (.cells #[] 186)).cell? ⟨w.heap.size, 0, none⟩ = some x := by rw [hbl.cell hlt]; exact hx
  have h1 : ((w'.alloc (.cells #[] 186)).setCell ⟨w.heap.size, 0, none⟩ (.bool false)).cell? ⟨w.heap.size, 0, none⟩ = some (.bool false) := by
    simp [hx2, go_sem]
  simp [Leaves, settle, results, Tryz.results119, go_sem, h1]
  exact ⟨w', hr, rfl⟩

theorem OR.below {P : Program} {ρ : Map} {base : Nat} {w w' : World} {r : Reg} {o : X.Obj} (hb : Below w.heap.size w w') (h : OR P ρ base w r o) : OR P ρ base w' r o := by
  cases o with
  | dead => trivial
  | live cs e own =>
    have h' := h
    obtain ⟨carr, e', fr, h1, _⟩ := h'
    exact OR.same (hb.block r.cb (Array.getElem?_eq_some_iff.1 h1).1) h
theorem MR.below {P : Program} {ρ : Map} {base : Nat} {m : Mem} {w w' : World} (h : MR P base ρ m w) (hb : Below w.heap.size w w') : MR P base ρ m w' :=
  ⟨fun b o ho => let ⟨h1, r, h2, h3⟩ := h.dom b o ho; ⟨h1, r, h2, h3.below hb⟩, h.used, Nat.le_trans h.low hb.size, h.inj⟩
theorem MR.cellset {P : Program} {ρ : Map} {base : Nat} {m m' : Mem} {w : World} (hm : MR P base ρ m w) {b : Nat} {v : AV} (hw : m.write b 0 [v] = some m') {u : Value} (hv : VR ρ v u) {r : Reg} (hr : ρ b = some r) :
    (∃ x, w.cell? ⟨r.cb, r.sh, none⟩ = some x) ∧ w.frozen? ⟨r.cb, r.sh, none⟩ = false ∧ r.cb < w.heap.size ∧ MR P base ρ m' (w.setCell ⟨r.cb, r.sh, none⟩ u) ∧ Below base w (w.setCell ⟨r.cb, r.sh, none⟩ u) := by
  have hvl : VRL ρ [v] [u] := .cons hv .nil'
  obtain ⟨w', s1, s2, s3⟩ := store_runs hm hw hvl hr
  unfold Mem.write at hw
  split at hw
  · rename_i known e0 hg
    split at hw
    · rename_i hle
      obtain ⟨_, r0, hr0, carr, e', fr, h1, h2, h3, h4, h5⟩ := hm.dom b _ hg
      rw [hr] at hr0
      injection hr0 with hr0
      subst hr0
      obtain ⟨hb, he, _, _, hfr⟩ := h5 rfl
      have hlen : 1 ≤ known.length := by have := hle.1; simp at this; omega
      have hlt : r.sh < carr.size := by omega
      have hone : u.oneCell' = true := leaf_oneCell hv (by have := hle.2; simp [leaves] at this; exact this)
      have hc : w.cell? ⟨r.cb, r.sh, none⟩ = some carr[r.sh] := by simp [World.cell?, h1]
      have hz : w.frozen? ⟨r.cb, r.sh, none⟩ = false := by
        have := hfr r.sh hlt
        simp only [World.frozen?, h1, Bool.and_eq_false_iff, decide_eq_false_iff_not]
        omega
      refine ⟨⟨_, hc⟩, hz, (Array.getElem?_eq_some_iff.1 h1).1, ?_⟩
      have hadd : (⟨r.cb, r.sh + 0, none⟩ : Addr).add 0 = ⟨r.cb, r.sh, none⟩ := by unfold Addr.add; split <;> simp_all
      have hst : (store ((⟨r.cb, r.sh + 0, none⟩ : Addr).add 0) u).run P w = .ok () (w.setCell ⟨r.cb, r.sh, none⟩ u) := by
        rw [hadd, run_store P w _ u _ hone]
        simp [hc, hz]
      rw [storeCells] at s1
      simp only [Sem.run_bind, hst, Result.andThen_ok] at s1
      have : w' = w.setCell ⟨r.cb, r.sh, none⟩ u := by
        simp only [storeCells, Sem.run_pure] at s1
        injection s1 with _ s1
        exact s1.symm
      subst this
      exact ⟨s2, s3⟩
    · cases hw
  · cases hw
theorem holdOk : HoldOk Tryz.prog pvW 119 4 := by
  have start : ∀ {base : Nat} {ρ : Map} {m m1 : Mem} {w : World} {b : Nat}, MR Tryz.prog base ρ m w → m.new none [.bool false] 4 = some (b, m1) → ∃ ρ1 r, ρ.le ρ1 ∧ ρ1 b = some r ∧ r.cb = w.heap.size ∧ r.sh = 0 ∧ MR Tryz.prog base ρ1 m1 (w.alloc (.cells #[.bool false] 4)) := by
    intro base ρ m m1 w b hm hn
    obtain ⟨ρ1, l1, e1, hm1, _⟩ := hm.new hn #[.bool false] (by simp) (fun i a ha => by
      cases i with
      | zero => simp at ha; subst ha; exact ⟨.bool false, by simp, by simp [VR]⟩
      | succ i => simp at ha) (0, 0) (fun i _ => .inr rfl)
    exact ⟨ρ1, _, l1, e1, rfl, rfl, hm1⟩
  refine ⟨by kernel_rfl, fun base ρ m w g F C b m1 m2 m3 hm hn hw hg hcall => ?_, fun base ρ m w g F C b m1 m2 m3 hm hn hw hg hcall => ?_⟩
  · obtain ⟨ρ1, r, l1, e1, r1, r2, hm1⟩ := start hm hn
    have hb0 : Below base w (w.alloc (.cells #[.bool false] 4)) := (Below.refl _ _).alloc hm.low _
    have cs : ∀ ρ' w', ρ1.le ρ' → MR Tryz.prog base ρ' m2 w' → _ := fun ρ' w' hρ hm' => hm'.cellset hw (show VR ρ' (.bool true) (.bool true) by simp [VR]) (hρ b r e1)
    rw [r1, r2] at cs
    refine (hold_yes g F C w (fun w' => ∃ ρ', ρ1.le ρ' ∧ MR Tryz.prog base ρ' m2 w' ∧ Below base (w.alloc (.cells #[.bool false] 4)) w') hg ?_ ?_).mono ?_
    · rintro w' ⟨ρ', hρ, hm', _⟩
      obtain ⟨q1, q2, _⟩ := cs ρ' w' hρ hm'
      exact ⟨q1, q2⟩
    · refine (hcall ρ1 _ l1 hm1).mono ?_
      rintro e w' ⟨ρ', u, q1, rfl, q3, q4⟩
      exact ⟨⟨u, rfl⟩, ρ', q1, q3, q4⟩
    · rintro e w' ⟨rfl, w1, ⟨ρ', hρ, hm', hb'⟩, rfl⟩
      obtain ⟨_, _, _, q4, q5⟩ := cs ρ' w1 hρ hm'
      exact ⟨ρ', Map.le_trans l1 hρ, rfl, q4, (hb0.trans hb').trans q5⟩
  · obtain ⟨ρ1, r, l1, e1, r1, r2, hm1⟩ := start hm hn
    have hb0 : Below base w (w.alloc (.cells #[.bool false] 4)) := (Below.refl _ _).alloc hm.low _
    have cs : ∀ ρ' w', ρ1.le ρ' → MR Tryz.prog base ρ' m2 w' → _ := fun ρ' w' hρ hm' => hm'.cellset hw (show VR ρ' (.bool false) (.bool false) by simp [VR]) (hρ b r e1)
    rw [r1, r2] at cs
    refine (hold_no g F C w (fun w' => ∃ ρ', ρ1.le ρ' ∧ MR Tryz.prog base ρ' m2 w' ∧ Below base (w.alloc (.cells #[.bool false] 4)) w') hg ?_ ?_).mono ?_
    · rintro w' ⟨ρ', hρ, hm', _⟩
      obtain ⟨q1, q2, q3, _⟩ := cs ρ' w' hρ hm'
      exact ⟨q1, q2, q3⟩
    · refine (hcall ρ1 _ l1 hm1).mono ?_
      rintro e w' ⟨ρ', q1, rfl, q3, q4⟩
      exact ⟨rfl, ρ', q1, q3, q4⟩
    · rintro e w' ⟨rfl, w1, ⟨ρ', hρ, hm', hb'⟩, rfl⟩
      have hbw : Below w1.heap.size w1 (w1.alloc (.cells #[] 186)) := (Below.refl _ _).alloc (Nat.le_refl _) _
      have hm2 := hm'.below hbw
      obtain ⟨_, _, _, q4, q5⟩ := cs ρ' _ hρ hm2
      exact ⟨ρ', Map.le_trans l1 hρ, rfl, q4, ((hb0.trans hb').trans (hbw.mono hm'.low)).trans q5⟩
end Go.Proofs.YtdljelicbnjfjaaGreat.X
