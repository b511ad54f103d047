/- What the law law3 needs: texts of one's own, put together; functions' contracts and plain facts. -/
import Derived.Test.YtdljelicbnjfjaaGreatT3E
set_option linter.unusedVariables false
set_option linter.unusedSimpArgs false
set_option maxRecDepth 20000
namespace Go.Proofs.YtdljelicbnjfjaaGreat.X
open Go Go.RowKit
noncomputable def eqB {α : Type} (a b : α) : Bool := open Classical in decide (a = b)
theorem eqB_t {α : Type} {a b : α} (h : a = b) : eqB a b = true := by unfold eqB; simp [h]
theorem eqB_f {α : Type} {a b : α} (h : a ≠ b) : eqB a b = false := by unfold eqB; simp [h]
theorem eqB_iff {α : Type} {a b : α} : eqB a b = true ↔ a = b := by unfold eqB; simp
theorem eqB_self {α : Type} (a : α) : eqB a a = true := eqB_t rfl
theorem eqB_dec {α : Type} [DecidableEq α] (a b : α) : decide (a = b) = eqB a b := by
  by_cases h : a = b
  · rw [eqB_t h, decide_eq_true h]
  · rw [eqB_f h, decide_eq_false h]
theorem eqB_of {α : Type} {a b : α} {p : Bool} (h : p = true ↔ a = b) : p = eqB a b := by
  by_cases q : a = b
  · rw [eqB_t q]; exact h.2 q
  · rw [eqB_f q]; exact Bool.eq_false_iff.2 fun e => q (h.1 e)
theorem take_diff {α : Type} {l1 l2 : List α} {i : Nat} {x y : α} (h1 : l1[i]? = some x) (h2 : l2[i]? = some y) (h : x ≠ y) : l1 ≠ l2 := by
  rintro rfl
  rw [h1] at h2; injection h2 with h2; exact h h2
theorem take_same {α : Type} {l1 l2 : List α} {i : Nat} {x : α} (h1 : l1[i]? = some x) (h2 : l2[i]? = some x) (h : l1.take i = l2.take i) : l1.take (i + 1) = l2.take (i + 1) := by
  rw [List.take_add_one, List.take_add_one, h1, h2, h]
theorem take_full {α : Type} {l1 l2 : List α} {i : Nat} (hi : ¬ i < l1.length) (hl : l1.length = l2.length) (h : l1.take i = l2.take i) : l1 = l2 := by
  rwa [List.take_of_length_le (by omega), List.take_of_length_le (by omega)] at h
section
variable {h : H}
def EqC {α : Type} (h : H) (E : Nat) (Rel : H → α → List AV → Prop) : Prop := ∀ (h' : H) (x y : α) (c d : List AV), Fr [] h h' → Rel h' x c → Rel h' y d → ∀ K : AV → H → Prop, (∀ h'', Fr [] h' h'' → K (.bool (eqB x y)) h'') → C E [.agg c, .agg d] h' K
theorem eqf_r {α : Type} {esz ty E : Nat} {zs : List AV} {v1 v2 : AV} {l1 l2 : List α} {Rel : H → α → List AV → Prop} (hmono : ∀ {h h' : H} {x c}, Fr [] h h' → Rel h x c → Rel h' x c) (hleaf : ∀ {h : H} {x c}, Rel h x c → leaves c = true) (hz : zs.length = esz) (lz : leaves zs = true)
    (r1 : RowOf h esz (Rel h) v1 l1) (r2 : RowOf h esz (Rel h) v2 l2) (hl : l1.length ≤ reachBytes) (hE : EqC h E Rel) {K : AV → H → Prop} (hK : ∀ h', Fr [] h h' → K (.bool (eqB l1 l2)) h') :
    valA (lenA false v1) h fun t11 h =>
    valA (lenA false v2) h fun t13 h =>
    valA (binOp .neq .num t11 t13) h fun t14 h =>
    condA t14 (K (.bool false) h)
     (joinA (fun (h : H) => K (.bool true) h) fun J =>
     valA (lenA false v1) h fun t16 h =>
     loopA (fun N l h => argA l 0 fun t17 => valA (binOp .lss .num t17 t16) h fun t18 h => condA t18
      (valA (iaA esz v1 t17) h fun t20 h =>
      valA (ldA h (some esz) t20) h fun t21 h =>
      boxA h zs ty fun v18 h =>
      memA (stA h esz v18 t21) .undef fun _ h =>
      valA (iaA esz v2 t17) h fun t24 h =>
      valA (ldA h (some esz) t24) h fun t25 h =>
      boxA h zs ty fun v29 h =>
      memA (stA h esz v29 t25) .undef fun _ h =>
      valA (ldA h (some esz) v18) h fun t27 h =>
      valA (ldA h (some esz) v29) h fun t28 h =>
      callvA C (.fn E [] []) [t27, t28] h fun t29 h =>
      valA (unOp .not t29) h fun t30 h =>
      condA t30 (K (.bool false) h)
       (valA (binOp .add .num t17 (.int .i64 1)) h fun t31 h => N [t31] h)) (J h)) [.int .i64 0] h) := by
  have hr : reachBytes ≤ 4611686018427387903 := by decide
  rw [r1.len, valA_some, r2.len, valA_some, b_neq, valA_some]
  by_cases hll : (l1.length : Int) = l2.length
  · rw [decide_eq_false (by simpa using hll), condA_f]
    have hll' : l1.length = l2.length := by omega
    refine join_r (fun (J : H → Prop) => ∀ h', Fr [] h h' → l1 = l2 → J h') (fun h' f e => by have := hK h' f; rwa [eqB_t e] at this) fun J hJ => ?_
    rw [valA_some]
    refine loop_r (l1.length + 1) (fun k ls h2 => ∃ i : Nat, ls = [.int .i64 i] ∧ i ≤ l1.length ∧ l1.take i = l2.take i ∧ Fr [] h h2 ∧ k = l1.length + 1 - i) ⟨0, rfl, by omega, rfl, Fr.refl _ _, rfl⟩ ?_
    rintro k ls h2 ⟨i, rfl, hi, ha, f, rfl⟩
    by_cases q : (i : Int) < l1.length
    · have hi' : i < l1.length := by omega
      have hi2 : i < l2.length := by omega
      obtain ⟨x, hx⟩ : ∃ x, l1[i]? = some x := ⟨l1[i], by simp [hi']⟩
      obtain ⟨y, hy⟩ : ∃ y, l2[i]? = some y := ⟨l2[i], by simp [hi2]⟩
      obtain ⟨b, o, c, e1, e2, e3, e4, e5⟩ := (r1.mono f fun _ _ _ z => hmono f z).el hx
      have en : IntKind.i64.wrap ((i : Int) + 1) = ((i + 1 : Nat) : Int) := by rw [i64_id (by omega) (by omega)]; rfl
      rw [argA_0, b_lss, valA_some, decide_eq_true q, condA_t, e1, valA_some, ldA_read e4, valA_some]
      refine box_r lz fun d hd => ?_
      rw [copy_st e3 hz (hleaf e2), memA_some]
      have fd : Fr [] h2 (h2.set d (.live c ty true)) := (Fr.refl _ _).set' hd
      have gd : (h2.set d (.live c ty true)).get d = some (.live c ty true) := H.get_same ..
      have e2 := hmono fd e2
      generalize h2.set d (.live c ty true) = h3 at *
      obtain ⟨b', o', c', u1, u2, u3, u4, u5⟩ := (r2.mono (f.trans fd) fun _ _ _ z => hmono (f.trans fd) z).el hy
      rw [u1, valA_some, ldA_read u4, valA_some]
      refine box_r lz fun d' hd' => ?_
      rw [copy_st u3 hz (hleaf u2), memA_some]
      have fd' : Fr [] h3 (h3.set d' (.live c' ty true)) := (Fr.refl _ _).set' hd'
      have gd' : (h3.set d' (.live c' ty true)).get d' = some (.live c' ty true) := H.get_same ..
      have e2 := hmono fd' e2
      have u2 := hmono fd' u2
      have gd := fd' d _ (by simp) gd
      generalize h3.set d' (.live c' ty true) = h4 at *
      rw [ldA_read (H.read_eq gd (by omega) (by rw [List.drop_zero, List.take_of_length_le (by omega)])), valA_some, ldA_read (H.read_eq gd' (by omega) (by rw [List.drop_zero, List.take_of_length_le (by omega)])), valA_some, callvA_f]
      have f4 := (f.trans fd).trans fd'
      refine hE h4 x y c c' f4 e2 u2 _ fun h5 f5 => ?_
      rw [u_not, valA_some]
      by_cases hxy : x = y
      · subst hxy
        rw [eqB_self, show (!true) = false from rfl, condA_f, b_add, en, valA_some]
        exact ⟨l1.length + 1 - (i + 1), by omega, i + 1, rfl, by omega, take_same hx hy ha, f4.trans f5, rfl⟩
      · rw [eqB_f hxy, show (!false) = true from rfl, condA_t]
        have := hK h5 (f4.trans f5)
        rwa [eqB_f (take_diff hx hy hxy)] at this
    · rw [argA_0, b_lss, valA_some, decide_eq_false q, condA_f]
      exact hJ h2 f (take_full (by omega) hll' ha)
  · rw [decide_eq_true (by simpa using hll), condA_t]
    have := hK h (Fr.refl _ _)
    rwa [eqB_f (fun e => hll (by rw [e]))] at this
theorem eq1_r {α : Type} {v1 v2 : AV} {l1 l2 : List α} {val : α → AV} (r1 : Row h v1 l1.length 1 (l1.map val)) (r2 : Row h v2 l2.length 1 (l2.map val)) (hl : l1.length ≤ reachBytes) (hv : ∀ x y, binOp .neq .num (val x) (val y) = some (.bool (!eqB x y))) {K : AV → H → Prop} (hK : K (.bool (eqB l1 l2)) h) :
    valA (lenA false v1) h fun t7 h =>
    valA (lenA false v2) h fun t9 h =>
    valA (binOp .neq .num t7 t9) h fun t10 h =>
    condA t10 (K (.bool false) h)
     (joinA (fun (h : H) => K (.bool true) h) fun J =>
     valA (lenA false v1) h fun t12 h =>
     loopA (fun N l h => argA l 0 fun t13 => valA (binOp .lss .num t13 t12) h fun t14 h => condA t14
      (valA (iaA 1 v1 t13) h fun t18 h =>
      valA (ldA h none t18) h fun t19 h =>
      valA (iaA 1 v2 t13) h fun t22 h =>
      valA (ldA h none t22) h fun t23 h =>
      valA (binOp .neq .num t19 t23) h fun t24 h =>
      condA t24 (K (.bool false) h)
       (valA (binOp .add .num t13 (.int .i64 1)) h fun t25 h => N [t25] h)) (J h)) [.int .i64 0] h) := by
  have hr : reachBytes ≤ 4611686018427387903 := by decide
  rw [r1.len, valA_some, r2.len, valA_some, b_neq, valA_some]
  by_cases hll : (l1.length : Int) = l2.length
  · rw [decide_eq_false (by simpa using hll), condA_f]
    have hll' : l1.length = l2.length := by omega
    refine join_r (fun (J : H → Prop) => l1 = l2 → J h) (fun e => by rwa [eqB_t e] at hK) fun J hJ => ?_
    rw [valA_some]
    refine loop_r (l1.length + 1) (fun k ls h2 => ∃ i : Nat, ls = [.int .i64 i] ∧ i ≤ l1.length ∧ l1.take i = l2.take i ∧ h2 = h ∧ k = l1.length + 1 - i) ⟨0, rfl, by omega, rfl, rfl, rfl⟩ ?_
    rintro k ls h2 ⟨i, rfl, hi, ha, eh, rfl⟩
    rw [eh]
    by_cases q : (i : Int) < l1.length
    · have hi' : i < l1.length := by omega
      have hi2 : i < l2.length := by omega
      obtain ⟨x, hx⟩ : ∃ x, l1[i]? = some x := ⟨l1[i], by simp [hi']⟩
      obtain ⟨y, hy⟩ : ∃ y, l2[i]? = some y := ⟨l2[i], by simp [hi2]⟩
      obtain ⟨b, o, e1, e2⟩ := r1.at (i := i) (x := val x) (by omega) q (by rw [Int.toNat_natCast, List.getElem?_map, hx]; rfl)
      obtain ⟨b', o', u1, u2⟩ := r2.at (i := i) (x := val y) (by omega) (by omega) (by rw [Int.toNat_natCast, List.getElem?_map, hy]; rfl)
      have en : IntKind.i64.wrap ((i : Int) + 1) = ((i + 1 : Nat) : Int) := by rw [i64_id (by omega) (by omega)]; rfl
      rw [argA_0, b_lss, valA_some, decide_eq_true q, condA_t, e1, valA_some, ldA_n, e2, valA_some, u1, valA_some, ldA_n, u2, valA_some, hv, valA_some]
      by_cases hxy : x = y
      · subst hxy
        rw [eqB_self, show (!true) = false from rfl, condA_f, b_add, en, valA_some]
        exact ⟨l1.length + 1 - (i + 1), by omega, i + 1, rfl, by omega, take_same hx hy ha, rfl, rfl⟩
      · rw [eqB_f hxy, show (!false) = true from rfl, condA_t]
        rwa [eqB_f (take_diff hx hy hxy)] at hK
    · rw [argA_0, b_lss, valA_some, decide_eq_false q, condA_f]
      exact hJ (take_full (by omega) hll' ha)
  · rw [decide_eq_true (by simpa using hll), condA_t]
    rwa [eqB_f (fun e => hll (by rw [e]))] at hK
theorem ints_eq {v1 v2 : AV} {l1 l2 : List Int} (r1 : Row h v1 l1.length 1 (ic l1)) (r2 : Row h v2 l2.length 1 (ic l2)) (hl : l1.length ≤ reachBytes) {K : AV → H → Prop} (hK : K (.bool (eqB l1 l2)) h) : C 52 [v1, v2] h K := by
  refine run52 ?_
  unfold sh52
  refine eq1_r (val := fun n => .int .i64 n) r1 r2 hl (fun x y => ?_) hK
  rw [b_neq, ← eqB_dec]; simp
theorem strs_eq {v1 v2 : AV} {l1 l2 : List (List UInt8)} (r1 : Row h v1 l1.length 1 (l1.map AV.str)) (r2 : Row h v2 l2.length 1 (l2.map AV.str)) (hl : l1.length ≤ reachBytes) {K : AV → H → Prop} (hK : K (.bool (eqB l1 l2)) h) : C 55 [v1, v2] h K := by
  refine run55 ?_
  unfold sh55
  refine eq1_r (val := AV.str) r1 r2 hl (fun x y => ?_) hK
  rw [← eqB_dec]; simp only [go_sem, reduceIte, Nat.reduceAdd, Nat.reduceSub, Nat.reduceMul, Nat.reducePow, Nat.reduceLT, Nat.reduceLeDiff, Nat.reduceEqDiff, Int.reduceAdd, Int.reduceSub, Int.reduceMul, Int.reduceNeg, Int.reducePow, Int.reduceLT, Int.reduceLE, Int.reduceEq, Int.reduceNe, Int.reduceToNat, Int.toNat_natCast, Nat.zero_add, Nat.add_zero, Nat.mul_one, Nat.one_mul, Bool.not_true, Bool.not_false, ne_eq, not_true_eq_false, not_false_eq_true, Bool.false_eq_true]; simp
theorem chunkV {p q : Bool} {b d i j : Nat} {v w : AV} (hc : h.cell b i = some v) (hd : h.cell d j = some w) (he : binOp .eql .num v w = some (.bool q)) {K : AV → H → Prop} (hK : K (.bool (p && q)) h) :
    whenA (.bool p) true (fun K => valA (faA i (.ptr b 0)) h K) h fun t11 h =>
    whenA (.bool p) true (fun K => valA (ldA h none t11) h K) h fun t12 h =>
    whenA (.bool p) true (fun K => valA (faA j (.ptr d 0)) h K) h fun t13 h =>
    whenA (.bool p) true (fun K => valA (ldA h none t13) h K) h fun t14 h =>
    whenA (.bool p) true (fun K => valA (binOp .eql .num t12 t14) h K) h fun t15 h =>
    valA (pickA (.bool p) t15 (.bool false)) h K := by
  cases p with
  | true => simp only [whenA_tt, faA_p, valA_some, ldA_n, Nat.zero_add, hc, hd, he, pickA_b, if_true]; exact hK
  | false => simp only [whenA_ft, pickA_b, valA_some]; exact hK
theorem chunkF {p q : Bool} {b d i j F : Nat} {v w : AV} {ar : List AV} (hc : h.cell b i = some v) (hd : h.cell d j = some w) {K : AV → H → Prop} (hX : ∀ K' : AV → H → Prop, (∀ h', Fr [] h h' → K' (.bool q) h') → C F (v :: w :: ar) h K') (hK : ∀ h', Fr [] h h' → K (.bool (p && q)) h') :
    whenA (.bool p) true (fun K => valA (faA i (.ptr b 0)) h K) h fun t11 h =>
    whenA (.bool p) true (fun K => valA (ldA h none t11) h K) h fun t12 h =>
    whenA (.bool p) true (fun K => valA (faA j (.ptr d 0)) h K) h fun t13 h =>
    whenA (.bool p) true (fun K => valA (ldA h none t13) h K) h fun t14 h =>
    whenA (.bool p) true (fun K => C F (t12 :: t14 :: ar) h K) h fun t15 h =>
    valA (pickA (.bool p) t15 (.bool false)) h K := by
  cases p with
  | true =>
    simp only [whenA_tt, faA_p, valA_some, ldA_n, Nat.zero_add, hc, hd]
    refine hX _ fun h' f => ?_
    rw [pickA_b, if_pos rfl, valA_some]; exact hK h' f
  | false => simp only [whenA_ft, pickA_b, valA_some]; exact hK h (Fr.refl _ _)
theorem eqI (x y : Int) : binOp .eql .num (.int .i64 x) (.int .i64 y) = some (.bool (eqB x y)) := by rw [b_eql, eqB_dec]
theorem eqS (x y : List UInt8) : binOp .eql .num (.str x) (.str y) = some (.bool (eqB x y)) := by rw [b_seql, eqB_dec]
theorem two_box {c d : List AV} {ty : Nat} (lc : leaves c = true) (ld : leaves d = true) {K : AV → AV → H → Prop} (hK : ∀ b e h', Fr [] h h' → (∀ h2, Fr [] h' h2 → ∀ o, h2.cell b o = c[o]?) → (∀ h2, Fr [] h' h2 → ∀ o, h2.cell e o = d[o]?) → (∀ h2, Fr [] h' h2 → h2.get b = some (.live c ty true) ∧ h2.get e = some (.live d ty true)) → K (.ptr b 0) (.ptr e 0) h') :
    boxA h (AV.cells (.agg c)) ty fun x h => boxA h (AV.cells (.agg d)) ty fun y h => K x y h := by
  show boxA h c ty fun x h => boxA h d ty fun y h => K x y h
  refine box_r lc fun b hb => ?_
  have f1 : Fr [] h (h.set b (.live c ty true)) := (Fr.refl _ _).set' hb
  have g1 : (h.set b (.live c ty true)).get b = some (.live c ty true) := H.get_same ..
  generalize h.set b (.live c ty true) = h1 at *
  refine box_r ld fun e he => ?_
  have f2 : Fr [] h1 (h1.set e (.live d ty true)) := (Fr.refl _ _).set' he
  have g2 : (h1.set e (.live d ty true)).get e = some (.live d ty true) := H.get_same ..
  have g1 := f2 b _ (by simp) g1
  generalize h1.set e (.live d ty true) = h2 at *
  exact hK b e h2 (f1.trans f2) (fun h3 f3 o => cell_of (f3 b _ (by simp) g1) o) (fun h3 f3 o => cell_of (f3 e _ (by simp) g2) o) fun h3 f3 => ⟨f3 b _ (by simp) g1, f3 e _ (by simp) g2⟩
theorem ty_eq {x y : Ty} {c d : List AV} (r : tyR h x c) (s : tyR h y d) (ok : x.ok) {K : AV → H → Prop} (hK : ∀ h', Fr [] h h' → K (.bool (eqB x y)) h') : C 51 [.agg c, .agg d] h K := by
  refine run51 ?_
  unfold sh51
  refine two_box r.leaves s.leaves fun b e h1 f cb ce _ => ?_
  obtain ⟨v, rfl, r1⟩ := r.fr f
  obtain ⟨w, rfl, s1⟩ := s.fr f
  refine fld_r (v := .bool x.imm) (by rw [cb h1 (Fr.refl _ _)]; rfl) ?_
  refine fld_r (v := .bool y.imm) (by rw [ce h1 (Fr.refl _ _)]; rfl) ?_
  rw [b_beql, valA_some, eqB_dec]
  refine chunkF (q := eqB x.sh y.sh) (by rw [cb h1 (Fr.refl _ _)]; rfl) (by rw [ce h1 (Fr.refl _ _)]; rfl) (fun K' hK' => ints_eq r1 s1 ok.1 (hK' h1 (Fr.refl _ _))) fun h2 f2 => ?_
  have := hK h2 (f.trans f2)
  rwa [← eqB_of (p := eqB x.imm y.imm && eqB x.sh y.sh) (by rw [Bool.and_eq_true, eqB_iff, eqB_iff]; cases x; cases y; simp)] at this
theorem shp_eq {x y : Shp} {c d : List AV} (r : shR h x c) (s : shR h y d) (ok : x.ok) {K : AV → H → Prop} (hK : ∀ h', Fr [] h h' → K (.bool (eqB x y)) h') : C 54 [.agg c, .agg d] h K := by
  refine run54 ?_
  unfold sh54
  refine two_box r.leaves s.leaves fun b e h1 f cb ce _ => ?_
  obtain ⟨v, rfl, r1⟩ := r.fr f
  obtain ⟨w, rfl, s1⟩ := s.fr f
  have cb := cb h1 (Fr.refl _ _)
  have ce := ce h1 (Fr.refl _ _)
  refine fld_r (v := .int .i64 x.kind) (by rw [cb]; rfl) ?_
  refine fld_r (v := .int .i64 y.kind) (by rw [ce]; rfl) ?_
  rw [eqI, valA_some]
  refine chunkV (q := eqB x.name y.name) (v := .str x.name) (w := .str y.name) (by rw [cb]; rfl) (by rw [ce]; rfl) (eqS _ _) ?_
  refine chunkF (q := eqB x.fs y.fs) (by rw [cb]; rfl) (by rw [ce]; rfl) (fun K' hK' => ints_eq r1 s1 ok.2.1.1 (hK' h1 (Fr.refl _ _))) fun h2 f2 => ?_
  have := hK h2 (f.trans f2)
  rwa [← eqB_of (p := (eqB x.kind y.kind && eqB x.name y.name) && eqB x.fs y.fs) (by simp only [Bool.and_eq_true, eqB_iff]; cases x; cases y; simp; grind)] at this
theorem ins_eq {x y : Ins} {c d : List AV} (r : insR h x c) (s : insR h y d) (ok : x.ok) {K : AV → H → Prop} (hK : ∀ h', Fr [] h h' → K (.bool (eqB x y)) h') : C 99 [.agg c, .agg d] h K := by
  refine run99 ?_
  unfold sh99
  refine two_box r.leaves s.leaves fun b e h1 f cb ce _ => ?_
  obtain ⟨v1, v2, v3, rfl, r1, r2, r3⟩ := r.fr f
  obtain ⟨w1, w2, w3, rfl, s1, s2, s3⟩ := s.fr f
  obtain ⟨_, o7, o8, o9⟩ := ok
  refine fld_r (v := .int .i64 x.op) (by rw [cb h1 (Fr.refl _ _)]; rfl) ?_
  refine fld_r (v := .int .i64 y.op) (by rw [ce h1 (Fr.refl _ _)]; rfl) ?_
  rw [eqI, valA_some]
  refine chunkV (q := eqB x.d y.d) (v := .int .i64 x.d) (w := .int .i64 y.d) (by rw [cb h1 (Fr.refl _ _)]; rfl) (by rw [ce h1 (Fr.refl _ _)]; rfl) (eqI _ _) ?_
  refine chunkV (q := eqB x.a y.a) (v := .int .i64 x.a) (w := .int .i64 y.a) (by rw [cb h1 (Fr.refl _ _)]; rfl) (by rw [ce h1 (Fr.refl _ _)]; rfl) (eqI _ _) ?_
  refine chunkV (q := eqB x.b y.b) (v := .int .i64 x.b) (w := .int .i64 y.b) (by rw [cb h1 (Fr.refl _ _)]; rfl) (by rw [ce h1 (Fr.refl _ _)]; rfl) (eqI _ _) ?_
  refine chunkV (q := eqB x.c y.c) (v := .int .i64 x.c) (w := .int .i64 y.c) (by rw [cb h1 (Fr.refl _ _)]; rfl) (by rw [ce h1 (Fr.refl _ _)]; rfl) (eqI _ _) ?_
  refine chunkV (q := eqB x.n y.n) (v := .int .i64 x.n) (w := .int .i64 y.n) (by rw [cb h1 (Fr.refl _ _)]; rfl) (by rw [ce h1 (Fr.refl _ _)]; rfl) (eqI _ _) ?_
  refine chunkF (q := eqB x.l y.l) (v := v1) (w := w1) (by rw [cb h1 (Fr.refl _ _)]; rfl) (by rw [ce h1 (Fr.refl _ _)]; rfl) (fun K' hK' => ints_eq r1 s1 o7.1 (hK' h1 (Fr.refl _ _))) fun h2 f2 => ?_
  refine chunkF (q := eqB x.m y.m) (v := v2) (w := w2) (by rw [cb h2 f2]; rfl) (by rw [ce h2 f2]; rfl) (fun K' hK' => ints_eq (r2.fr f2) (s2.fr f2) o8.1 (hK' h2 (Fr.refl _ _))) fun h3 f3 => ?_
  have f3 := f2.trans f3
  refine chunkF (q := eqB x.live y.live) (v := v3) (w := w3) (by rw [cb h3 f3]; rfl) (by rw [ce h3 f3]; rfl) (fun K' hK' => ints_eq (r3.fr f3) (s3.fr f3) o9.1 (hK' h3 (Fr.refl _ _))) fun h4 f4 => ?_
  have := hK h4 ((f.trans f3).trans f4)
  rwa [← eqB_of (p := ((((((((eqB x.op y.op && eqB x.d y.d) && eqB x.a y.a) && eqB x.b y.b) && eqB x.c y.c) && eqB x.n y.n) && eqB x.l y.l) && eqB x.m y.m) && eqB x.live y.live)) (by simp only [Bool.and_eq_true, eqB_iff]; cases x; cases y; simp; grind)] at this
theorem RowOf.with {α : Type} {esz : Nat} {R : α → List AV → Prop} {P : α → Prop} {v : AV} {l : List α} (r : RowOf h esz R v l) (hp : ∀ x ∈ l, P x) : RowOf h esz (fun x c => R x c ∧ P x) v l := r.mono (Fr.refl _ _) fun x hx c q => ⟨q, hp x hx⟩
theorem codes_eq {v1 v2 : AV} {l1 l2 : List Ins} (r1 : RowOf h 9 (insR h) v1 l1) (r2 : RowOf h 9 (insR h) v2 l2) (hl : l1.length ≤ reachBytes) (k1 : ∀ x ∈ l1, x.ok) (k2 : ∀ x ∈ l2, x.ok) {K : AV → H → Prop} (hK : ∀ h', Fr [] h h' → K (.bool (eqB l1 l2)) h') : C 98 [v1, v2, .fn 99 [] []] h K := by
  refine run98 ?_
  unfold sh98
  exact eqf_r (esz := 9) (ty := 55) (E := 99) (zs := [.int .i64 0, .int .i64 0, .int .i64 0, .int .i64 0, .int .i64 0, .int .i64 0, .nilsl, .nilsl, .nilsl]) (Rel := relIn) relIn_mono (fun r => r.1.leaves) rfl rfl (r1.with k1) (r2.with k2) hl (fun h' x y c d _ rx ry K hK => ins_eq rx.1 ry.1 rx.2 hK) hK
theorem blk_eq {x y : Blk} {c d : List AV} (r : blkR h x c) (s : blkR h y d) (ok : x.ok) (ok' : y.ok) {K : AV → H → Prop} (hK : ∀ h', Fr [] h h' → K (.bool (eqB x y)) h') : C 97 [.agg c, .agg d] h K := by
  refine run97 ?_
  unfold sh97
  refine two_box r.leaves s.leaves fun b e h1 f cb ce _ => ?_
  obtain ⟨v1, v2, rfl, r1, r2⟩ := r.fr f
  obtain ⟨w1, w2, rfl, s1, s2⟩ := s.fr f
  refine fld_r (v := v1) (by rw [cb h1 (Fr.refl _ _)]; rfl) ?_
  refine fld_r (v := w1) (by rw [ce h1 (Fr.refl _ _)]; rfl) ?_
  refine ints_eq r1 s1 ok.1.1 ?_
  refine chunkF (q := eqB x.code y.code) (v := v2) (w := w2) (by rw [cb h1 (Fr.refl _ _)]; rfl) (by rw [ce h1 (Fr.refl _ _)]; rfl) (fun K' hK' => codes_eq r2 s2 ok.2.1 ok.2.2 ok'.2.2 hK') fun h2 f2 => ?_
  have := hK h2 (f.trans f2)
  rwa [← eqB_of (p := eqB x.inn y.inn && eqB x.code y.code) (by rw [Bool.and_eq_true, eqB_iff, eqB_iff]; cases x; cases y; simp)] at this
theorem blks_eq {v1 v2 : AV} {l1 l2 : List Blk} (r1 : RowOf h 2 (blkR h) v1 l1) (r2 : RowOf h 2 (blkR h) v2 l2) (hl : l1.length ≤ reachBytes) (k1 : ∀ x ∈ l1, x.ok) (k2 : ∀ x ∈ l2, x.ok) {K : AV → H → Prop} (hK : ∀ h', Fr [] h h' → K (.bool (eqB l1 l2)) h') : C 96 [v1, v2, .fn 97 [] []] h K := by
  refine run96 ?_
  unfold sh96
  exact eqf_r (esz := 2) (ty := 42) (E := 97) (zs := [.nilsl, .nilsl]) (Rel := relBl) relBl_mono (fun r => r.1.leaves) rfl rfl (r1.with k1) (r2.with k2) hl (fun h' x y c d _ rx ry K hK => blk_eq rx.1 ry.1 rx.2 ry.2 hK) hK
theorem fn_eq {x y : Fn} {c d : List AV} (r : fnR h x c) (s : fnR h y d) (ok : x.ok) (ok' : y.ok) {K : AV → H → Prop} (hK : ∀ h', Fr [] h h' → K (.bool (eqB x y)) h') : C 57 [.agg c, .agg d] h K := by
  refine run57 ?_
  unfold sh57
  refine two_box r.leaves s.leaves fun b e h1 f cb ce _ => ?_
  obtain ⟨v1, v2, rfl, r1, r2⟩ := r.fr f
  obtain ⟨w1, w2, rfl, s1, s2⟩ := s.fr f
  obtain ⟨o1, o2, o3, o4, o5⟩ := ok
  obtain ⟨_, _, _, _, o5'⟩ := ok'
  refine fld_r (v := v1) (by rw [cb h1 (Fr.refl _ _)]; rfl) ?_
  refine fld_r (v := w1) (by rw [ce h1 (Fr.refl _ _)]; rfl) ?_
  refine ints_eq r1 s1 o1.1 ?_
  refine chunkV (q := eqB x.result y.result) (v := .int .i64 x.result) (w := .int .i64 y.result) (by rw [cb h1 (Fr.refl _ _)]; rfl) (by rw [ce h1 (Fr.refl _ _)]; rfl) (eqI _ _) ?_
  refine chunkV (q := eqB x.slots y.slots) (v := .int .i64 x.slots) (w := .int .i64 y.slots) (by rw [cb h1 (Fr.refl _ _)]; rfl) (by rw [ce h1 (Fr.refl _ _)]; rfl) (eqI _ _) ?_
  refine chunkF (q := eqB x.blocks y.blocks) (v := v2) (w := w2) (by rw [cb h1 (Fr.refl _ _)]; rfl) (by rw [ce h1 (Fr.refl _ _)]; rfl) (fun K' hK' => blks_eq r2 s2 o4 o5 o5' hK') fun h2 f2 => ?_
  have := hK h2 (f.trans f2)
  rwa [← eqB_of (p := ((eqB x.params y.params && eqB x.result y.result) && eqB x.slots y.slots) && eqB x.blocks y.blocks) (by simp only [Bool.and_eq_true, eqB_iff]; cases x; cases y; simp; grind)] at this
theorem fns_eq {v1 v2 : AV} {l1 l2 : List Fn} (r1 : RowOf h 4 (fnR h) v1 l1) (r2 : RowOf h 4 (fnR h) v2 l2) (hl : l1.length ≤ reachBytes) (k1 : ∀ x ∈ l1, x.ok) (k2 : ∀ x ∈ l2, x.ok) {K : AV → H → Prop} (hK : ∀ h', Fr [] h h' → K (.bool (eqB l1 l2)) h') : C 56 [v1, v2, .fn 57 [] []] h K := by
  refine run56 ?_
  unfold sh56
  exact eqf_r (esz := 4) (ty := 39) (E := 57) (zs := [.nilsl, .int .i64 0, .int .i64 0, .nilsl]) (Rel := relFn) relFn_mono (fun r => r.1.leaves) rfl rfl (r1.with k1) (r2.with k2) hl (fun h' x y c d _ rx ry K hK => fn_eq rx.1 ry.1 rx.2 ry.2 hK) hK
theorem shps_eq {v1 v2 : AV} {l1 l2 : List Shp} (r1 : RowOf h 3 (shR h) v1 l1) (r2 : RowOf h 3 (shR h) v2 l2) (hl : l1.length ≤ reachBytes) (k1 : ∀ x ∈ l1, x.ok) (k2 : ∀ x ∈ l2, x.ok) {K : AV → H → Prop} (hK : ∀ h', Fr [] h h' → K (.bool (eqB l1 l2)) h') : C 53 [v1, v2, .fn 54 [] []] h K := by
  refine run53 ?_
  unfold sh53
  exact eqf_r (esz := 3) (ty := 61) (E := 54) (zs := [.int .i64 0, .nilsl, .str []]) (Rel := relSh) relSh_mono (fun r => r.1.leaves) rfl rfl (r1.with k1) (r2.with k2) hl (fun h' x y c d _ rx ry K hK => shp_eq rx.1 ry.1 rx.2 hK) hK
theorem tys_eq {v1 v2 : AV} {l1 l2 : List Ty} (r1 : RowOf h 2 (tyR h) v1 l1) (r2 : RowOf h 2 (tyR h) v2 l2) (hl : l1.length ≤ reachBytes) (k1 : ∀ x ∈ l1, x.ok) (k2 : ∀ x ∈ l2, x.ok) {K : AV → H → Prop} (hK : ∀ h', Fr [] h h' → K (.bool (eqB l1 l2)) h') : C 50 [v1, v2, .fn 51 [] []] h K := by
  refine run50 ?_
  unfold sh50
  exact eqf_r (esz := 2) (ty := 46) (E := 51) (zs := [.bool false, .nilsl]) (Rel := relTy) relTy_mono (fun r => r.1.leaves) rfl rfl (r1.with k1) (r2.with k2) hl (fun h' x y c d _ rx ry K hK => ty_eq rx.1 ry.1 rx.2 hK) hK
theorem same_c {x y : Img} {c d : List AV} (r : imgR h x c) (s : imgR h y d) (ok : x.ok) (ok' : y.ok) {K : AV → H → Prop} (hK : ∀ h', Fr [] h h' → K (.bool (eqB x y)) h') : C 15 [.agg c, .agg d] h K := by
  refine run15 ?_
  unfold sh15
  refine two_box r.leaves s.leaves fun b e h1 f cb ce _ => ?_
  obtain ⟨v1, v2, v3, v4, v5, rfl, r1, r2, r3, r4, r5⟩ := r.fr f
  obtain ⟨w1, w2, w3, w4, w5, rfl, s1, s2, s3, s4, s5⟩ := s.fr f
  obtain ⟨⟨k1, k1'⟩, ⟨k2, k2'⟩, ⟨k3, k3'⟩, ⟨k4, k4'⟩, ⟨k5, k5'⟩, k6, k7⟩ := ok
  obtain ⟨⟨_, j1'⟩, ⟨_, j2'⟩, _, _, ⟨_, j5'⟩, _, _⟩ := ok'
  refine fld_r (v := v1) (by rw [cb h1 (Fr.refl _ _)]; rfl) ?_
  refine fld_r (v := w1) (by rw [ce h1 (Fr.refl _ _)]; rfl) ?_
  refine tys_eq r1 s1 k1 k1' j1' fun h2 f2 => ?_
  refine chunkF (q := eqB x.shapes y.shapes) (v := v2) (w := w2) (by rw [cb h2 f2]; rfl) (by rw [ce h2 f2]; rfl) (fun K' hK' => shps_eq (r2.mono f2 fun _ _ _ => shR.fr f2) (s2.mono f2 fun _ _ _ => shR.fr f2) k2 k2' j2' hK') fun h3 f3 => ?_
  have f3 := f2.trans f3
  refine chunkF (q := eqB x.strs y.strs) (v := v3) (w := w3) (by rw [cb h3 f3]; rfl) (by rw [ce h3 f3]; rfl) (fun K' hK' => strs_eq ((strs_row r3).fr f3) ((strs_row s3).fr f3) k3 (hK' h3 (Fr.refl _ _))) fun h4 f4 => ?_
  have f4 := f3.trans f4
  refine chunkF (q := eqB x.names y.names) (v := v4) (w := w4) (by rw [cb h4 f4]; rfl) (by rw [ce h4 f4]; rfl) (fun K' hK' => strs_eq ((strs_row r4).fr f4) ((strs_row s4).fr f4) k4 (hK' h4 (Fr.refl _ _))) fun h5 f5 => ?_
  have f5 := f4.trans f5
  refine chunkF (q := eqB x.fns y.fns) (v := v5) (w := w5) (by rw [cb h5 f5]; rfl) (by rw [ce h5 f5]; rfl) (fun K' hK' => fns_eq (r5.mono f5 fun _ _ _ => fnR.fr f5) (s5.mono f5 fun _ _ _ => fnR.fr f5) k5 k5' j5' hK') fun h6 f6 => ?_
  have f6 := f5.trans f6
  refine chunkV (q := eqB x.main y.main) (v := .int .i64 x.main) (w := .int .i64 y.main) (by rw [cb h6 f6]; rfl) (by rw [ce h6 f6]; rfl) (eqI _ _) ?_
  refine chunkV (q := eqB x.exn y.exn) (v := .int .i64 x.exn) (w := .int .i64 y.exn) (by rw [cb h6 f6]; rfl) (by rw [ce h6 f6]; rfl) (eqI _ _) ?_
  have := hK h6 (f.trans f6)
  rwa [← eqB_of (p := (((((eqB x.types y.types && eqB x.shapes y.shapes) && eqB x.strs y.strs) && eqB x.names y.names) && eqB x.fns y.fns) && eqB x.main y.main) && eqB x.exn y.exn) (by simp only [Bool.and_eq_true, eqB_iff]; cases x; cases y; simp; grind)] at this
theorem rsame_c {x y : Img} {c d : List AV} (r : imgR h x c) (s : imgR h y d) (ok : x.ok) (ok' : y.ok) (hx : (bytesI x).length ≤ most) (hy : (bytesI y).length ≤ most) {K : AV → H → Prop} (hK : ∀ h', Fr [] h h' → K (.bool (eqB (bytesI x) (bytesI y))) h') : C 14 [.agg c, .agg d] h K := by
  refine run14 ?_
  unfold sh14
  have lc := r.shape.1
  have ld := s.shape.1
  refine two_box r.leaves s.leaves fun b e h1 f cb ce g => ?_
  have rb : ∀ h2, Fr [] h1 h2 → h2.read b 0 7 = some c := fun h2 f2 => H.read_eq (g h2 f2).1 (by omega) (by rw [List.drop_zero, List.take_of_length_le (by omega)])
  have re : ∀ h2, Fr [] h1 h2 → h2.read e 0 7 = some d := fun h2 f2 => H.read_eq (g h2 f2).2 (by omega) (by rw [List.drop_zero, List.take_of_length_le (by omega)])
  rw [ldA_read (rb h1 (Fr.refl _ _)), valA_some, ldA_read (re h1 (Fr.refl _ _)), valA_some]
  refine bytes_w (r.fr f) ok hx fun v h2 w2 => ?_
  have f2 := w2.fr
  rw [ldA_read (re h2 f2)]
  simp only [go_sem, reduceIte, Nat.reduceAdd, Nat.reduceSub, Nat.reduceMul, Nat.reducePow, Nat.reduceLT, Nat.reduceLeDiff, Nat.reduceEqDiff, Int.reduceAdd, Int.reduceSub, Int.reduceMul, Int.reduceNeg, Int.reducePow, Int.reduceLT, Int.reduceLE, Int.reduceEq, Int.reduceNe, Int.reduceToNat, Int.toNat_natCast, Nat.zero_add, Nat.add_zero, Nat.mul_one, Nat.one_mul, Bool.not_true, Bool.not_false, ne_eq, not_true_eq_false, not_false_eq_true, Bool.false_eq_true, w2.ws.row.b2s]
  refine bytes_w (s.fr (f.trans f2)) ok' hy fun v' h3 w3 => ?_
  have f3 := w3.fr
  simp only [go_sem, reduceIte, Nat.reduceAdd, Nat.reduceSub, Nat.reduceMul, Nat.reducePow, Nat.reduceLT, Nat.reduceLeDiff, Nat.reduceEqDiff, Int.reduceAdd, Int.reduceSub, Int.reduceMul, Int.reduceNeg, Int.reducePow, Int.reduceLT, Int.reduceLE, Int.reduceEq, Int.reduceNe, Int.reduceToNat, Int.toNat_natCast, Nat.zero_add, Nat.add_zero, Nat.mul_one, Nat.one_mul, Bool.not_true, Bool.not_false, ne_eq, not_true_eq_false, not_false_eq_true, Bool.false_eq_true, (w2.ws.row.fr f3).b2s, w3.ws.row.b2s]
  have := hK h3 ((f.trans f2).trans f3)
  rwa [← eqB_of (p := decide ((bytesI x).map UInt8.ofNat = (bytesI y).map UInt8.ofNat)) (by rw [decide_eq_true_eq]; exact ⟨ofNat_inj (bytes_lt x) (bytes_lt y), fun e => by rw [e]⟩)] at this
end
end Go.Proofs.YtdljelicbnjfjaaGreat.X
set_option linter.unusedVariables false
set_option linter.unusedSimpArgs false
set_option maxRecDepth 20000
namespace Go.Proofs.YtdljelicbnjfjaaGreat.X
open Go Go.RowKit
section
variable {h : H}
theorem rget_c {v : AV} {L : List Nat} (hr : Row h v L.length 1 (bc L)) (hL : ∀ d ∈ L, d < 256) (hm : L.length < 4611686018427387904) {a : Int} (ha0 : -9223372036854775808 ≤ a) (ha1 : a < 9223372036854775808) {K : AV → H → Prop}
    (hK : ∀ h', Fr [] h h' → K (decV (decS L a)) h') : C 90 [v, .int .i64 a] h K := by
  refine run90 ?_
  by_cases h1 : a < 0
  · simp only [sh90, go_sem, reduceIte, Nat.reduceAdd, Nat.reduceSub, Nat.reduceMul, Nat.reducePow, Nat.reduceLT, Nat.reduceLeDiff, Nat.reduceEqDiff, Int.reduceAdd, Int.reduceSub, Int.reduceMul, Int.reduceNeg, Int.reducePow, Int.reduceLT, Int.reduceLE, Int.reduceEq, Int.reduceNe, Int.reduceToNat, Int.toNat_natCast, Nat.zero_add, Nat.add_zero, Nat.mul_one, Nat.one_mul, Bool.not_true, Bool.not_false, ne_eq, not_true_eq_false, not_false_eq_true, Bool.false_eq_true, h1]
    rw [decS_out (.inl h1)] at hK
    exact hK h (Fr.refl _ _)
  by_cases h2 : (L.length : Int) ≤ a
  · simp only [sh90, go_sem, reduceIte, Nat.reduceAdd, Nat.reduceSub, Nat.reduceMul, Nat.reducePow, Nat.reduceLT, Nat.reduceLeDiff, Nat.reduceEqDiff, Int.reduceAdd, Int.reduceSub, Int.reduceMul, Int.reduceNeg, Int.reducePow, Int.reduceLT, Int.reduceLE, Int.reduceEq, Int.reduceNe, Int.reduceToNat, Int.toNat_natCast, Nat.zero_add, Nat.add_zero, Nat.mul_one, Nat.one_mul, Bool.not_true, Bool.not_false, ne_eq, not_true_eq_false, not_false_eq_true, Bool.false_eq_true, h1, h2, hr.len]
    rw [decS_out (.inr h2)] at hK
    exact hK h (Fr.refl _ _)
  simp only [sh90, go_sem, reduceIte, Nat.reduceAdd, Nat.reduceSub, Nat.reduceMul, Nat.reducePow, Nat.reduceLT, Nat.reduceLeDiff, Nat.reduceEqDiff, Int.reduceAdd, Int.reduceSub, Int.reduceMul, Int.reduceNeg, Int.reducePow, Int.reduceLT, Int.reduceLE, Int.reduceEq, Int.reduceNe, Int.reduceToNat, Int.toNat_natCast, Nat.zero_add, Nat.add_zero, Nat.mul_one, Nat.one_mul, Bool.not_true, Bool.not_false, ne_eq, not_true_eq_false, not_false_eq_true, Bool.false_eq_true, h1, h2, hr.len]
  have hfail : ∀ (p r : List Nat), L.drop a.toNat = p ++ r → (∀ c ∈ p, 128 ≤ c) → (r = [] ∨ p.length = 10) → K (decV (0, 0, false)) h := fun p r hp hc hr => by
    rw [decS_none (by rw [hp]; exact cut_none p r 10 hc hr)] at hK; exact hK h (Fr.refl _ _)
  refine join_r (fun J => ∀ (p r : List Nat), L.drop a.toNat = p ++ r → (∀ c ∈ p, 128 ≤ c) → (r = [] ∨ p.length = 10) → J h) hfail ?_
  intro J hJ
  refine loop_r 10 (fun k l h' => ∃ (x u : Int) (p r : List Nat), l = [.int .u64 x, .int .u64 u, .int .i64 (a + p.length)] ∧ h' = h ∧ L.drop a.toNat = p ++ r ∧ p.length ≤ 10 ∧ (∀ c ∈ p, 128 ≤ c) ∧ (p.length ≤ 9 → x = val p ∧ u = ((128 ^ p.length : Nat) : Int)) ∧ k = 10 - p.length)
    ⟨0, 1, [], L.drop a.toNat, by simp, rfl, rfl, by simp, by simp, by simp [val], rfl⟩ ?_
  rintro k l h' ⟨x, u, p, r, rfl, rfl, hp, hp10, hc, hx, rfl⟩
  have hlen := congrArg List.length hp
  simp only [List.length_drop, List.length_append] at hlen
  have e10 : IntKind.i64.wrap (a + 10) = a + 10 := i64_id (by omega) (by omega)
  by_cases g1 : a + (p.length : Int) < L.length
  · by_cases g2 : a + (p.length : Int) < a + 10
    · obtain ⟨d, r, rfl⟩ : ∃ d r', r = d :: r' := by
        cases r with
        | nil => simp at hlen; omega
        | cons d r => exact ⟨d, r, rfl⟩
      have hat : L[(a + p.length).toNat]? = some d := by
        have : (L.drop a.toNat)[p.length]? = some d := by rw [hp, List.getElem?_append_right (by omega)]; simp
        rw [List.getElem?_drop] at this
        rw [← this]; congr 1; omega
      have hd := hL d (List.mem_of_getElem? hat)
      obtain ⟨b, o, q1, q2⟩ := hr.at (i := a + p.length) (x := .int .u8 (d : Nat)) (by omega) (by omega) (by simp only [bc, List.getElem?_map, hat, Option.map_some])
      obtain ⟨rfl, rfl⟩ := hx (by omega)
      have hvl := val_lt p
      have e0 : (d : Int).tmod 128 = ((d % 128 : Nat) : Int) := by rw [Int.tmod_eq_emod_of_nonneg (by omega)]; omega
      have e3 : IntKind.u64.wrap ((d % 128 : Nat) : Int) = ((d % 128 : Nat) : Int) := u64_id (by omega) (by omega)
      have e4 : IntKind.u64.wrap ((val p : Int) + IntKind.u64.wrap (((d % 128 : Nat) : Int) * ((128 ^ p.length : Nat) : Int))) = ((val (p ++ [d]) % 2 ^ 64 : Nat) : Int) := by
        rw [val_append, ← Int.natCast_mul, u64_wrap, u64_wrap, Nat.mul_comm]
        omega
      have e9 : IntKind.i64.wrap (a + (p.length : Int) + 1) = a + (p ++ [d]).length := by rw [i64_id (by omega) (by omega)]; simp; omega
      by_cases hds : d < 128
      · have hds' : decide ((128 : Int) ≤ d) = false := by simp; omega
        have hcut : cut (L.drop a.toNat) 10 = some (p ++ [d]) := by rw [hp]; exact cut_some p d r 10 hc hds (by omega)
        generalize hX : val (p ++ [d]) % 2 ^ 64 = X at e4
        have hX1 : X < 2 ^ 64 := by omega
        have e5 : IntKind.u64.wrap ((X : Int).tdiv 2) = ((X / 2 : Nat) : Int) := by rw [Int.tdiv_eq_ediv_of_nonneg (by omega), u64_id (by omega) (by omega)]; omega
        have e6 : IntKind.i64.wrap ((X / 2 : Nat) : Int) = ((X / 2 : Nat) : Int) := i64_id (by omega) (by omega)
        have e7 : (X : Int).tmod 2 = ((X % 2 : Nat) : Int) := by rw [Int.tmod_eq_emod_of_nonneg (by omega)]; omega
        simp only [go_sem, reduceIte, Nat.reduceAdd, Nat.reduceSub, Nat.reduceMul, Nat.reducePow, Nat.reduceLT, Nat.reduceLeDiff, Nat.reduceEqDiff, Int.reduceAdd, Int.reduceSub, Int.reduceMul, Int.reduceNeg, Int.reducePow, Int.reduceLT, Int.reduceLE, Int.reduceEq, Int.reduceNe, Int.reduceToNat, Int.toNat_natCast, Nat.zero_add, Nat.add_zero, Nat.mul_one, Nat.one_mul, Bool.not_true, Bool.not_false, ne_eq, not_true_eq_false, not_false_eq_true, Bool.false_eq_true, g1, g2, e10, q1, q2, e0, e3, e4, hds', e5, e6, e7]
        refine join_r (fun J' => J' (.int .i64 (unz X)) h') ?_ ?_
        · simp only [go_sem, reduceIte, Nat.reduceAdd, Nat.reduceSub, Nat.reduceMul, Nat.reducePow, Nat.reduceLT, Nat.reduceLeDiff, Nat.reduceEqDiff, Int.reduceAdd, Int.reduceSub, Int.reduceMul, Int.reduceNeg, Int.reducePow, Int.reduceLT, Int.reduceLE, Int.reduceEq, Int.reduceNe, Int.reduceToNat, Int.toNat_natCast, Nat.zero_add, Nat.add_zero, Nat.mul_one, Nat.one_mul, Bool.not_true, Bool.not_false, ne_eq, not_true_eq_false, not_false_eq_true, Bool.false_eq_true, e9]
          obtain ⟨v', w1, w2⟩ := hr.slice (k := .i64) (k' := .i64) (i := a) (j := a + (p ++ [d]).length) (by omega) (by omega) (by simp; omega) (by omega)
          have hsl : (L.drop a.toNat).take ((a + (p ++ [d]).length).toNat - a.toNat) = p ++ [d] := by
            rw [hp, show p ++ d :: r = (p ++ [d]) ++ r by simp, List.take_append_of_le_length (by simp; omega), List.take_of_length_le (by simp; omega)]
          rw [Nat.mul_one, Nat.mul_one, bc_drop, hsl] at w2
          have hle : (a + ((p ++ [d]).length : Int)).toNat - a.toNat = (p ++ [d]).length := by simp; omega
          rw [hle] at w2
          simp only [go_sem, reduceIte, Nat.reduceAdd, Nat.reduceSub, Nat.reduceMul, Nat.reducePow, Nat.reduceLT, Nat.reduceLeDiff, Nat.reduceEqDiff, Int.reduceAdd, Int.reduceSub, Int.reduceMul, Int.reduceNeg, Int.reducePow, Int.reduceLT, Int.reduceLE, Int.reduceEq, Int.reduceNe, Int.reduceToNat, Int.toNat_natCast, Nat.zero_add, Nat.add_zero, Nat.mul_one, Nat.one_mul, Bool.not_true, Bool.not_false, ne_eq, not_true_eq_false, not_false_eq_true, Bool.false_eq_true, w1, w2.b2s]
          refine rput_c (by unfold unz; split <;> omega) (by unfold unz; split <;> omega) fun v2 h2 o1 o2 => ?_
          rw [zig_unz] at o1
          simp only [go_sem, reduceIte, Nat.reduceAdd, Nat.reduceSub, Nat.reduceMul, Nat.reducePow, Nat.reduceLT, Nat.reduceLeDiff, Nat.reduceEqDiff, Int.reduceAdd, Int.reduceSub, Int.reduceMul, Int.reduceNeg, Int.reducePow, Int.reduceLT, Int.reduceLE, Int.reduceEq, Int.reduceNe, Int.reduceToNat, Int.toNat_natCast, Nat.zero_add, Nat.add_zero, Nat.mul_one, Nat.one_mul, Bool.not_true, Bool.not_false, ne_eq, not_true_eq_false, not_false_eq_true, Bool.false_eq_true, (w2.fr o2).b2s, o1.row.b2s]
          by_cases heq : putL X = p ++ [d]
          · have hv := congrArg val heq
            rw [val_putL] at hv
            have hgood : decS L a = (unz (val (p ++ [d])), a + (p ++ [d]).length, true) := decS_good (by omega) (by omega) hcut ⟨by rw [← hv]; exact heq, by omega⟩
            have hd1 : decide (List.map UInt8.ofNat (putL X) = List.map UInt8.ofNat (p ++ [d])) = true := by simp only [heq, decide_true]
            simp only [go_sem, reduceIte, Nat.reduceAdd, Nat.reduceSub, Nat.reduceMul, Nat.reducePow, Nat.reduceLT, Nat.reduceLeDiff, Nat.reduceEqDiff, Int.reduceAdd, Int.reduceSub, Int.reduceMul, Int.reduceNeg, Int.reducePow, Int.reduceLT, Int.reduceLE, Int.reduceEq, Int.reduceNe, Int.reduceToNat, Int.toNat_natCast, Nat.zero_add, Nat.add_zero, Nat.mul_one, Nat.one_mul, Bool.not_true, Bool.not_false, ne_eq, not_true_eq_false, not_false_eq_true, Bool.false_eq_true, hd1, heq]
            have := hK h2 o2
            rw [hgood, ← hv] at this
            exact this
          · have hf : decS L a = (0, 0, false) := by
              refine decS_bad hcut fun ⟨q, q'⟩ => heq ?_
              rw [← hX, Nat.mod_eq_of_lt q']; exact q
            have hne : ¬ List.map UInt8.ofNat (putL X) = List.map UInt8.ofNat (p ++ [d]) := fun q => heq (ofNat_inj (putL_lt X) (by
              intro c hcm
              have : c ∈ L.drop a.toNat := by rw [hp, show p ++ d :: r = (p ++ [d]) ++ r by simp]; exact List.mem_append_left _ hcm
              exact hL c (List.mem_of_mem_drop this)) q)
            simp only [go_sem, reduceIte, Nat.reduceAdd, Nat.reduceSub, Nat.reduceMul, Nat.reducePow, Nat.reduceLT, Nat.reduceLeDiff, Nat.reduceEqDiff, Int.reduceAdd, Int.reduceSub, Int.reduceMul, Int.reduceNeg, Int.reducePow, Int.reduceLT, Int.reduceLE, Int.reduceEq, Int.reduceNe, Int.reduceToNat, Int.toNat_natCast, Nat.zero_add, Nat.add_zero, Nat.mul_one, Nat.one_mul, Bool.not_true, Bool.not_false, ne_eq, not_true_eq_false, not_false_eq_true, Bool.false_eq_true, hne]
            have := hK h2 o2
            rw [hf] at this
            exact this
        · intro J' hJ'
          by_cases hodd : X % 2 = 1
          · have q : ((X % 2 : Nat) : Int) = 1 := by omega
            have : IntKind.i64.wrap (IntKind.i64.wrap (0 - ((X / 2 : Nat) : Int)) - 1) = unz X := by
              rw [i64_id (n := 0 - _) (by omega) (by omega), i64_id (by omega) (by omega)]; unfold unz; rw [if_pos hodd]; omega
            simp only [go_sem, reduceIte, Nat.reduceAdd, Nat.reduceSub, Nat.reduceMul, Nat.reducePow, Nat.reduceLT, Nat.reduceLeDiff, Nat.reduceEqDiff, Int.reduceAdd, Int.reduceSub, Int.reduceMul, Int.reduceNeg, Int.reducePow, Int.reduceLT, Int.reduceLE, Int.reduceEq, Int.reduceNe, Int.reduceToNat, Int.toNat_natCast, Nat.zero_add, Nat.add_zero, Nat.mul_one, Nat.one_mul, Bool.not_true, Bool.not_false, ne_eq, not_true_eq_false, not_false_eq_true, Bool.false_eq_true, q, this]
            exact hJ'
          · have q : ¬ ((X % 2 : Nat) : Int) = 1 := by omega
            have : ((X / 2 : Nat) : Int) = unz X := by unfold unz; rw [if_neg hodd]
            simp only [go_sem, reduceIte, Nat.reduceAdd, Nat.reduceSub, Nat.reduceMul, Nat.reducePow, Nat.reduceLT, Nat.reduceLeDiff, Nat.reduceEqDiff, Int.reduceAdd, Int.reduceSub, Int.reduceMul, Int.reduceNeg, Int.reducePow, Int.reduceLT, Int.reduceLE, Int.reduceEq, Int.reduceNe, Int.reduceToNat, Int.toNat_natCast, Nat.zero_add, Nat.add_zero, Nat.mul_one, Nat.one_mul, Bool.not_true, Bool.not_false, ne_eq, not_true_eq_false, not_false_eq_true, Bool.false_eq_true, q, this]
            exact hJ'
      · have hds' : decide ((128 : Int) ≤ d) = true := by simp; omega
        simp only [go_sem, reduceIte, Nat.reduceAdd, Nat.reduceSub, Nat.reduceMul, Nat.reducePow, Nat.reduceLT, Nat.reduceLeDiff, Nat.reduceEqDiff, Int.reduceAdd, Int.reduceSub, Int.reduceMul, Int.reduceNeg, Int.reducePow, Int.reduceLT, Int.reduceLE, Int.reduceEq, Int.reduceNe, Int.reduceToNat, Int.toNat_natCast, Nat.zero_add, Nat.add_zero, Nat.mul_one, Nat.one_mul, Bool.not_true, Bool.not_false, ne_eq, not_true_eq_false, not_false_eq_true, Bool.false_eq_true, g1, g2, e10, q1, q2, e0, e3, e4, hds', e9]
        refine ⟨10 - (p ++ [d]).length, by simp; omega, _, _, p ++ [d], r, rfl, by rw [hp]; simp, by simp; omega, ?_, ?_, rfl⟩
        · intro c hcm
          rcases List.mem_append.1 hcm with q | q
          · exact hc c q
          · simp at q; omega
        · intro h9
          have hv := val_lt (p ++ [d])
          have h64 : 128 ^ (p ++ [d]).length ≤ 128 ^ 9 := Nat.pow_le_pow_right (by decide) h9
          have e99 : (128 : Nat) ^ 9 = 9223372036854775808 := by decide
          refine ⟨by rw [Nat.mod_eq_of_lt (by omega)], ?_⟩
          have e : ((128 ^ p.length : Nat) : Int) * 128 = ((128 ^ (p ++ [d]).length : Nat) : Int) := by rw [List.length_append, List.length_singleton, Nat.pow_succ]; simp
          rw [e]; exact u64_id (by omega) (by omega)
    · simp only [go_sem, reduceIte, Nat.reduceAdd, Nat.reduceSub, Nat.reduceMul, Nat.reducePow, Nat.reduceLT, Nat.reduceLeDiff, Nat.reduceEqDiff, Int.reduceAdd, Int.reduceSub, Int.reduceMul, Int.reduceNeg, Int.reducePow, Int.reduceLT, Int.reduceLE, Int.reduceEq, Int.reduceNe, Int.reduceToNat, Int.toNat_natCast, Nat.zero_add, Nat.add_zero, Nat.mul_one, Nat.one_mul, Bool.not_true, Bool.not_false, ne_eq, not_true_eq_false, not_false_eq_true, Bool.false_eq_true, g1, g2, e10]
      exact hJ p r hp hc (.inr (by omega))
  · simp only [go_sem, reduceIte, Nat.reduceAdd, Nat.reduceSub, Nat.reduceMul, Nat.reducePow, Nat.reduceLT, Nat.reduceLeDiff, Nat.reduceEqDiff, Int.reduceAdd, Int.reduceSub, Int.reduceMul, Int.reduceNeg, Int.reducePow, Int.reduceLT, Int.reduceLE, Int.reduceEq, Int.reduceNe, Int.reduceToNat, Int.toNat_natCast, Nat.zero_add, Nat.add_zero, Nat.mul_one, Nat.one_mul, Bool.not_true, Bool.not_false, ne_eq, not_true_eq_false, not_false_eq_true, Bool.false_eq_true, g1]
    exact hJ p r hp hc (.inl (List.eq_nil_of_length_eq_zero (by omega)))
end
abbrev Td := RdE 79
abbrev TdD := RdDE 79
section
variable {h : H} {rb : Nat} {vB : AV} {B : List Nat} {s : RS}
theorem tnum_c (r : Td h rb vB B s) {K : AV → H → Prop} (hK : ∀ h', Fr [rb] h h' → Td h' rb vB B (longT B s).2 → K (.int .i64 (longT B s).1) h') : C 45 [.ptr rb 0] h K := by
  refine run45 ?_
  have hl := r.len; have hp := r.pos
  unfold longT at hK
  cases hb : s.bad with
  | true =>
    rw [hb, if_pos rfl] at hK
    simp only [sh45, go_sem, reduceIte, Nat.reduceAdd, Nat.reduceSub, Nat.reduceMul, Nat.reducePow, Nat.reduceLT, Nat.reduceLeDiff, Nat.reduceEqDiff, Int.reduceAdd, Int.reduceSub, Int.reduceMul, Int.reduceNeg, Int.reducePow, Int.reduceLT, Int.reduceLE, Int.reduceEq, Int.reduceNe, Int.reduceToNat, Int.toNat_natCast, Nat.zero_add, Nat.add_zero, Nat.mul_one, Nat.one_mul, Bool.not_true, Bool.not_false, ne_eq, not_true_eq_false, not_false_eq_true, Bool.false_eq_true, r.cell, hb]
    exact hK h (Fr.refl _ _) r
  | false =>
    rw [hb, if_neg (by decide)] at hK
    simp only [sh45, go_sem, reduceIte, Nat.reduceAdd, Nat.reduceSub, Nat.reduceMul, Nat.reducePow, Nat.reduceLT, Nat.reduceLeDiff, Nat.reduceEqDiff, Int.reduceAdd, Int.reduceSub, Int.reduceMul, Int.reduceNeg, Int.reducePow, Int.reduceLT, Int.reduceLE, Int.reduceEq, Int.reduceNe, Int.reduceToNat, Int.toNat_natCast, Nat.zero_add, Nat.add_zero, Nat.mul_one, Nat.one_mul, Bool.not_true, Bool.not_false, ne_eq, not_true_eq_false, not_false_eq_true, Bool.false_eq_true, r.cell, hb]
    refine rget_c (r.row.fr (Fr.of_wo h rb)) r.lt (by omega) (by omega) (by omega) fun h1 f1 => ?_
    have r1 := r.keep f1
    unfold longR at hK
    cases hd : decS B s.pos with
    | mk n x =>
      obtain ⟨a, ok⟩ := x
      rw [hd] at hK
      cases ok with
      | true =>
        have hf := decS_facts hd
        have st := st_val r1.g (off := 1) (v := .int .i64 a) (by simp) rfl rfl
        have ha : ((a.toNat : Nat) : Int) = a := by omega
        obtain ⟨r', f'⟩ := r1.put ⟨a.toNat, s.bad⟩ (by show a.toNat ≤ _; omega) (cs := [vB, AV.int .i64 s.pos, .bool s.bad].set 1 (.int .i64 a)) (by simp only [ha]; rfl)
        simp only [decV, go_sem, reduceIte, Nat.reduceAdd, Nat.reduceSub, Nat.reduceMul, Nat.reducePow, Nat.reduceLT, Nat.reduceLeDiff, Nat.reduceEqDiff, Int.reduceAdd, Int.reduceSub, Int.reduceMul, Int.reduceNeg, Int.reducePow, Int.reduceLT, Int.reduceLE, Int.reduceEq, Int.reduceNe, Int.reduceToNat, Int.toNat_natCast, Nat.zero_add, Nat.add_zero, Nat.mul_one, Nat.one_mul, Bool.not_true, Bool.not_false, ne_eq, not_true_eq_false, not_false_eq_true, Bool.false_eq_true, st]
        exact hK _ (f1.more.trans f') r'
      | false =>
        have st := st_val r1.g (off := 2) (v := .bool true) (by simp) rfl rfl
        obtain ⟨r', f'⟩ := r1.put ⟨s.pos, true⟩ r1.pos (cs := [vB, AV.int .i64 s.pos, .bool s.bad].set 2 (.bool true)) rfl
        simp only [decV, go_sem, reduceIte, Nat.reduceAdd, Nat.reduceSub, Nat.reduceMul, Nat.reducePow, Nat.reduceLT, Nat.reduceLeDiff, Nat.reduceEqDiff, Int.reduceAdd, Int.reduceSub, Int.reduceMul, Int.reduceNeg, Int.reducePow, Int.reduceLT, Int.reduceLE, Int.reduceEq, Int.reduceNe, Int.reduceToNat, Int.toNat_natCast, Nat.zero_add, Nat.add_zero, Nat.mul_one, Nat.one_mul, Bool.not_true, Bool.not_false, ne_eq, not_true_eq_false, not_false_eq_true, Bool.false_eq_true, st]
        exact hK _ (f1.more.trans f') r'
theorem tcount_c (r : Td h rb vB B s) {K : AV → H → Prop} (hK : ∀ h', Fr [rb] h h' → Td h' rb vB B (countT B s).2 → K (.int .i64 ((countT B s).1 : Nat)) h') : C 44 [.ptr rb 0] h K := by
  refine run44 ?_
  unfold sh44
  refine tnum_c r fun h1 f1 r1 => ?_
  have hf := longT_facts B s r.pos
  unfold countT at hK
  simp only at hK
  generalize longT B s = x at *
  obtain ⟨n, t⟩ := x
  simp only at hK r1 hf ⊢
  have hl := r.len
  have es : IntKind.i64.wrap ((B.length : Int) - (t.pos : Int)) = B.length - t.pos := i64_id (by omega) (by omega)
  have hrl := (r1.row.fr (Fr.of_wo h1 rb)).len
  have st := st_val r1.g (off := 2) (v := .bool true) (by simp) rfl rfl
  obtain ⟨r', f'⟩ := r1.put ⟨t.pos, true⟩ hf.2.2 (cs := [vB, AV.int .i64 t.pos, .bool t.bad].set 2 (.bool true)) rfl
  by_cases c1 : n < 0
  · rw [if_pos (.inl c1)] at hK
    simp only [go_sem, reduceIte, Nat.reduceAdd, Nat.reduceSub, Nat.reduceMul, Nat.reducePow, Nat.reduceLT, Nat.reduceLeDiff, Nat.reduceEqDiff, Int.reduceAdd, Int.reduceSub, Int.reduceMul, Int.reduceNeg, Int.reducePow, Int.reduceLT, Int.reduceLE, Int.reduceEq, Int.reduceNe, Int.reduceToNat, Int.toNat_natCast, Nat.zero_add, Nat.add_zero, Nat.mul_one, Nat.one_mul, Bool.not_true, Bool.not_false, ne_eq, not_true_eq_false, not_false_eq_true, Bool.false_eq_true, c1, st]
    exact hK _ (f1.trans f') r'
  · by_cases c2 : (B.length : Int) - t.pos < n
    · rw [if_pos (.inr c2)] at hK
      simp only [go_sem, reduceIte, Nat.reduceAdd, Nat.reduceSub, Nat.reduceMul, Nat.reducePow, Nat.reduceLT, Nat.reduceLeDiff, Nat.reduceEqDiff, Int.reduceAdd, Int.reduceSub, Int.reduceMul, Int.reduceNeg, Int.reducePow, Int.reduceLT, Int.reduceLE, Int.reduceEq, Int.reduceNe, Int.reduceToNat, Int.toNat_natCast, Nat.zero_add, Nat.add_zero, Nat.mul_one, Nat.one_mul, Bool.not_true, Bool.not_false, ne_eq, not_true_eq_false, not_false_eq_true, Bool.false_eq_true, c1, r1.cell, hrl, es, c2, st]
      exact hK _ (f1.trans f') r'
    · rw [if_neg (by omega)] at hK
      have hn : ((n.toNat : Nat) : Int) = n := by omega
      simp only [go_sem, reduceIte, Nat.reduceAdd, Nat.reduceSub, Nat.reduceMul, Nat.reducePow, Nat.reduceLT, Nat.reduceLeDiff, Nat.reduceEqDiff, Int.reduceAdd, Int.reduceSub, Int.reduceMul, Int.reduceNeg, Int.reducePow, Int.reduceLT, Int.reduceLE, Int.reduceEq, Int.reduceNe, Int.reduceToNat, Int.toNat_natCast, Nat.zero_add, Nat.add_zero, Nat.mul_one, Nat.one_mul, Bool.not_true, Bool.not_false, ne_eq, not_true_eq_false, not_false_eq_true, Bool.false_eq_true, c1, r1.cell, hrl, es, c2]
      simpa [hn] using hK h1 f1 r1
theorem ttext_c (r : Td h rb vB B s) {K : AV → H → Prop} (hK : ∀ h', Fr [rb] h h' → Td h' rb vB B (textT B s).2 → K (.str (textT B s).1) h') : C 47 [.ptr rb 0] h K := by
  refine run47 ?_
  unfold sh47
  refine tcount_c r fun h1 f1 r1 => ?_
  have hf := countT_facts B s r.pos
  unfold textT at hK
  simp only at hK
  generalize countT B s = x at *
  obtain ⟨n, t⟩ := x
  simp only at hK r1 hf ⊢
  have hl := r.len
  have ea : IntKind.i64.wrap ((t.pos : Int) + (n : Nat)) = ((t.pos + n : Nat) : Int) := by rw [i64_id (by omega) (by omega)]; rfl
  obtain ⟨v', w1, w2⟩ := (r1.row.fr (Fr.of_wo h1 rb)).slice (k := .i64) (k' := .i64) (i := t.pos) (j := ((t.pos + n : Nat) : Int)) (by omega) (by omega) (by omega) r.some
  have e2 : ((t.pos + n : Nat) : Int).toNat - ((t.pos : Nat) : Int).toNat = n := by omega
  rw [e2, Int.toNat_natCast, Nat.mul_one, Nat.mul_one, bc_drop] at w2
  have w2 : Row h1 v' ((B.drop t.pos).take n).length 1 (bc ((B.drop t.pos).take n)) := by
    have : ((B.drop t.pos).take n).length = n := by rw [List.length_take, List.length_drop]; omega
    rw [this]; exact w2
  have st := st_val r1.g (off := 1) (v := .int .i64 ((t.pos + n : Nat) : Int)) (by simp) rfl rfl
  obtain ⟨r', f'⟩ := r1.put ⟨t.pos + n, t.bad⟩ hf.2 (cs := [vB, AV.int .i64 t.pos, .bool t.bad].set 1 (.int .i64 ((t.pos + n : Nat) : Int))) rfl
  simp only [go_sem, reduceIte, Nat.reduceAdd, Nat.reduceSub, Nat.reduceMul, Nat.reducePow, Nat.reduceLT, Nat.reduceLeDiff, Nat.reduceEqDiff, Int.reduceAdd, Int.reduceSub, Int.reduceMul, Int.reduceNeg, Int.reducePow, Int.reduceLT, Int.reduceLE, Int.reduceEq, Int.reduceNe, Int.reduceToNat, Int.toNat_natCast, Nat.zero_add, Nat.add_zero, Nat.mul_one, Nat.one_mul, Bool.not_true, Bool.not_false, ne_eq, not_true_eq_false, not_false_eq_true, Bool.false_eq_true, r1.cell, ea, w1, w2.b2s, st]
  exact hK _ (f1.trans f') r'
theorem repT_len {α : Type} {dec : RS → α × RS} : ∀ (n : Nat) (s : RS) (acc : List α), (repT dec n s acc).1.length = acc.length + n
  | 0, s, acc => rfl
  | n + 1, s, acc => by rw [repT, repT_len n]; simp; omega
theorem repT_rg : ∀ (n : Nat) (s : RS) (acc : List Int), s.pos ≤ B.length → (∀ x ∈ acc, rg x) → ∀ x ∈ (repT (longT B) n s acc).1, rg x
  | 0, s, acc, _, ha => ha
  | n + 1, s, acc, hs, ha => by
    have hf := longT_facts B s hs
    rw [repT]
    refine repT_rg n _ _ hf.2.2 fun x hx => ?_
    rcases List.mem_append.1 hx with hx | hx
    · exact ha x hx
    · simp at hx; subst hx; exact hf.1
theorem numsT_ok (hs : s.pos ≤ B.length) (hl : B.length ≤ 4294967296) : rgs (numsT B s).1 := by
  have hf := countT_facts B s hs
  have : 4294967296 ≤ reachBytes := by decide
  refine ⟨?_, repT_rg _ _ _ (by omega) (by simp)⟩
  unfold numsT
  rw [repT_len]; simp; omega
theorem ic_append (l : List Int) (n : Int) : ic (l ++ [n]) = ic l ++ [.int .i64 n] := by simp [ic]
theorem tnums_c (r : Td h rb vB B s) {K : AV → H → Prop} (hK : ∀ v h', Fr [rb] h h' → Td h' rb vB B (numsT B s).2 → Row (H.new h h') v (numsT B s).1.length 1 (ic (numsT B s).1) → rgs (numsT B s).1 → K v h') : C 46 [.ptr rb 0] h K := by
  have hok := numsT_ok r.pos r.len
  refine run46 ?_
  have hl := r.len
  unfold sh46
  refine tcount_c r fun h1 f1 r1 => ?_
  refine join_r (fun (J : AV → H → Prop) => ∀ v h', Fr [rb] h h' → Td h' rb vB B (numsT B s).2 → Row (H.new h h') v (numsT B s).1.length 1 (ic (numsT B s).1) → J v h') (fun v h' f' r' rv => hK v h' f' r' rv hok) fun J hJ => ?_
  have hf := countT_facts B s r.pos
  unfold numsT at hJ
  generalize countT B s = x at *
  obtain ⟨n, t⟩ := x
  simp only at hJ r1 hf ⊢
  have hrb : h.get rb ≠ none := by rw [r.g]; simp
  refine loop_r (n + 1) (fun k ls h2 => ∃ (i : Nat) (v : AV) (acc : List Int) (s2 : RS), ls = [v, .int .i64 i] ∧ i ≤ n ∧ acc.length = i ∧ Fr [rb] h h2 ∧ Td h2 rb vB B s2 ∧ Own (h.wo rb) h2 3 1 v acc.length (ic acc) ∧ repT (longT B) n t [] = repT (longT B) (n - i) s2 acc ∧ k = n + 1 - i)
    ⟨0, .nilsl, [], t, rfl, by omega, rfl, f1, r1, Own.nil .., rfl, rfl⟩ ?_
  rintro k ls h2 ⟨i, v, acc, s2, rfl, hi, hacc, f2, r2, c4, hst, rfl⟩
  by_cases q : (i : Int) < (n : Nat)
  · obtain ⟨m, hm⟩ : ∃ m, n - i = m + 1 := ⟨n - i - 1, by omega⟩
    rw [hm, repT] at hst
    have en : IntKind.i64.wrap ((i : Int) + 1) = ((i + 1 : Nat) : Int) := by rw [i64_id (by omega) (by omega)]; rfl
    simp only [go_sem, reduceIte, Nat.reduceAdd, Nat.reduceSub, Nat.reduceMul, Nat.reducePow, Nat.reduceLT, Nat.reduceLeDiff, Nat.reduceEqDiff, Int.reduceAdd, Int.reduceSub, Int.reduceMul, Int.reduceNeg, Int.reducePow, Int.reduceLT, Int.reduceLE, Int.reduceEq, Int.reduceNe, Int.reduceToNat, Int.toNat_natCast, Nat.zero_add, Nat.add_zero, Nat.mul_one, Nat.one_mul, Bool.not_true, Bool.not_false, ne_eq, not_true_eq_false, not_false_eq_true, Bool.false_eq_true, q]
    refine tnum_c r2 fun h3 f3 r3 => ?_
    have o3 : Own (h.wo rb) h3 3 1 v acc.length (ic acc) := c4.keep fun b n' p e ob hg => f3 b ob (by
      intro z; simp at z; exact c4.ne r2.g (by decide) n' p (by rw [e, z])) hg
    have f03 := f2.trans f3
    rw [fill1 (v := .int .i64 (longT B s2).1) rfl rfl]
    refine append_one' (ty := 3) o3 rfl (by decide) (leaves_map _ (fun _ => rfl) _) rfl f03.wo1 ?_ fun v4 h4 o4 f4 k4 w4 => ?_
    · unfold most; omega
    have g4 := k4 rb _ r3.g (o3.ne r3.g (by decide))
    have f04 : Fr [rb] h h4 := fun b ob hb hg => f4 b ob (by simp) (by rw [H.get_wo, if_neg (by simpa using hb)]; exact hg)
    have r4 : Td h4 rb vB B (longT B s2).2 := ⟨g4, r.row.fr f04.wo, r3.pos, r3.lt, r3.len, r3.some⟩
    simp only [go_sem, reduceIte, Nat.reduceAdd, Nat.reduceSub, Nat.reduceMul, Nat.reducePow, Nat.reduceLT, Nat.reduceLeDiff, Nat.reduceEqDiff, Int.reduceAdd, Int.reduceSub, Int.reduceMul, Int.reduceNeg, Int.reducePow, Int.reduceLT, Int.reduceLE, Int.reduceEq, Int.reduceNe, Int.reduceToNat, Int.toNat_natCast, Nat.zero_add, Nat.add_zero, Nat.mul_one, Nat.one_mul, Bool.not_true, Bool.not_false, ne_eq, not_true_eq_false, not_false_eq_true, Bool.false_eq_true, en]
    refine ⟨n + 1 - (i + 1), by omega, i + 1, v4, acc ++ [(longT B s2).1], (longT B s2).2, rfl, by omega, by simp [hacc], f04, r4, by rw [ic_append, List.length_append]; exact o4, ?_, rfl⟩
    rw [hst]; congr 1; omega
  · have : n - i = 0 := by omega
    rw [this, repT] at hst
    simp only [go_sem, reduceIte, Nat.reduceAdd, Nat.reduceSub, Nat.reduceMul, Nat.reducePow, Nat.reduceLT, Nat.reduceLeDiff, Nat.reduceEqDiff, Int.reduceAdd, Int.reduceSub, Int.reduceMul, Int.reduceNeg, Int.reducePow, Int.reduceLT, Int.reduceLE, Int.reduceEq, Int.reduceNe, Int.reduceToNat, Int.toNat_natCast, Nat.zero_add, Nat.add_zero, Nat.mul_one, Nat.one_mul, Bool.not_true, Bool.not_false, ne_eq, not_true_eq_false, not_false_eq_true, Bool.false_eq_true, q]
    rw [hst] at hJ
    refine hJ v h2 f2 r2 ?_
    refine (show Own (h.wo rb) (H.new h h2) 3 1 v acc.length (ic acc) from c4.keep fun b n' p e ob hg => ?_).row
    rcases c4.2 with ⟨_, z⟩ | ⟨b', z1, z2, z3⟩
    · rw [e] at z; cases z
    · rw [e] at z1; injection z1 with z1 _; subst z1
      rw [H.get_wo] at z2
      split at z2
      · rename_i eb; rw [eb, r2.g] at z3; injection z3 with z3; injection z3 with _ z3 _; cases z3
      · simp only [H.new, H.only]
        rw [if_pos z2]; exact hg
end
end Go.Proofs.YtdljelicbnjfjaaGreat.X
set_option linter.unusedVariables false
set_option linter.unusedSimpArgs false
set_option maxRecDepth 20000
namespace Go.Proofs.YtdljelicbnjfjaaGreat.X
open Go Go.RowKit
theorem Fr.of_two {h h' : H} {rb d : Nat} (f : Fr [rb, d] h h') : Fr [] (h.only fun k => k ≠ rb ∧ k ≠ d) h' := fun k o _ x => by
  simp only [H.only] at x
  split at x
  · rename_i p; exact f k o (by simp [p]) x
  · cases x
theorem Fr.to_two {h h' : H} {rb d : Nat} (f : Fr [] (h.only fun k => k ≠ rb ∧ k ≠ d) h') : Fr [rb, d] h h' := fun k o hk x => f k o (by simp) (by
  simp only [H.only]; rw [if_pos (by simpa using hk)]; exact x)
theorem RdDE.upd {E : Nat} {h h1 hi h2 : H} {rb d e : Nat} {vB : AV} {B : List Nat} {s s' : RS} {cs cs' : List AV} (q : RdDE E h h1 hi rb d vB B s cs e) (f2 : Fr [rb, d] hi h2) (r2 : RdE E h2 rb vB B s') (gd2 : h2.get d = some (.live cs' e true)) : RdDE E h h1 h2 rb d vB B s' cs' e := by
  refine ⟨fun k o hk x => f2 k o ?_ (q.f k o hk x), q.g.trans f2, q.a0, fun k hk => ?_, q.k1, q.hd, r2, gd2⟩
  · simp at hk ⊢
    exact ⟨hk, fun e => by rw [e, q.hd] at x; cases x⟩
  · by_cases e1 : k = rb
    · rw [e1, r2.g]; simp
    by_cases e2 : k = d
    · rw [e2, gd2]; simp
    obtain ⟨o, ho⟩ := Option.ne_none_iff_exists'.1 (q.a k hk)
    rw [f2 k o (by simp [e1, e2]) ho]; simp
theorem floop_r {α : Type} {E ty esz bytes off e n : Nat} {h h1 hi : H} {rb d : Nat} {vB : AV} {B : List Nat} {s0 t : RS} {cs : List AV} {dec : RS → α × RS} {Rel : H → α → List AV → Prop}
    (hmono : ∀ {h h' : H} {x c}, Fr [] h h' → Rel h x c → Rel h' x c) (hleaf : ∀ {h : H} {x c}, Rel h x c → leaves c = true) (hz : 0 < esz) (hb : bytes ≤ 256) (hn : n ≤ 4294967296) (ht1 : ty ≠ E) (ht2 : ty ≠ e)
    (r0 : RdE E h rb vB B s0) (q0 : RdDE E h h1 hi rb d vB B t cs e) (hcs : cs.set off .nilsl = cs) (ho : off < cs.length)
    {J : H → Prop} {BODY : (List AV → H → Prop) → AV → H → Prop}
    (hJ : ∀ v h', Fr [rb, d] hi h' → RdDE E h h1 h' rb d vB B (whileT dec n t []).2 (cs.set off v) e → RowOf (H.new hi h') esz (Rel (H.new hi h')) v (whileT dec n t []).1 → J h')
    (hB : ∀ (N : List AV → H → Prop) (i : Nat) s2 v h2, i < n → RdDE E h h1 h2 rb d vB B s2 (cs.set off v) e →
      (∀ h3 c (T : H → Prop), (∀ h', (valA (binOp .add .num (.int .i64 i) (.int .i64 1)) h' fun t34 h => N [t34] h) → T h') → Fr [rb] h2 h3 → RdE E h3 rb vB B (dec s2).2 → Rel (H.new h2 h3) (dec s2).1 c → c.length = esz →
        mkslA h3 ty 1 (some c) fun t43 h => appendA h ty esz bytes v t43 fun t44 h => valA (faA off (.ptr d 0)) h fun t45 h => memA (stA h 1 t45 t44) .undef fun _ h => T h) → BODY N (.int .i64 i) h2) :
    loopA (fun N l h => argA l 0 fun i7 =>
      valA (binOp .lss .num i7 (.int .i64 n)) h fun t25 h =>
      whenA t25 true (fun K => K (.ptr rb 0) h) h fun t27 h =>
      whenA t25 true (fun K => valA (nilcA t27) h K) h fun t28 h =>
      whenA t25 true (fun K => valA (faA 2 t28) h K) h fun t29 h =>
      whenA t25 true (fun K => valA (ldA h none t29) h K) h fun t30 h =>
      whenA t25 true (fun K => valA (unOp .not t30) h K) h fun t31 h =>
      valA (pickA t25 t31 (.bool false)) h fun t32 h =>
      condA t32 (BODY N i7 h) (J h)) [(.int .i64 0)] hi := by
  have hdr : d ≠ rb := r0.ne q0.hd
  have hrb : hi.get rb ≠ none := by rw [q0.r.g]; simp
  have hdi : hi.get d ≠ none := by rw [q0.gd]; simp
  refine loop_r (n + 1) (fun k ls h2 => ∃ (i : Nat) (v : AV) (acc : List α) (s2 : RS) (css : List (List AV)), ls = [.int .i64 i] ∧ i ≤ n ∧ acc.length = i ∧ Fr [rb, d] hi h2 ∧ RdDE E h h1 h2 rb d vB B s2 (cs.set off v) e ∧ css.length = acc.length ∧
      (∀ (i : Nat) (x : α) (c : List AV), acc[i]? = some x → css[i]? = some c → Rel (h2.only fun k => hi.get k = none ∧ ∀ n p, v ≠ .sl k 0 n p) x c) ∧ (∀ c ∈ css, c.length = esz ∧ leaves c = true) ∧
      Own (hi.only fun k => k ≠ rb ∧ k ≠ d) h2 ty esz v acc.length css.flatten ∧ whileT dec n t [] = whileT dec (n - i) s2 acc ∧ k = n + 1 - i)
    ⟨0, .nilsl, [], t, [], rfl, by omega, rfl, Fr.refl _ _, by rw [hcs]; exact q0, rfl, by simp, by simp, Own.nil .., rfl, rfl⟩ ?_
  rintro k ls h2 ⟨i, v, acc, s2, css, rfl, hi', hacc, f2, q2, c1, c2, c3, c4, hst, rfl⟩
  have hrb2 : h2.get rb ≠ none := by rw [q2.r.g]; simp
  have hd2 : h2.get d ≠ none := by rw [q2.gd]; simp
  have alive2 : ∀ k, hi.get k ≠ none → h2.get k ≠ none := fun k hk => by
    by_cases e1 : k = rb
    · rw [e1]; exact hrb2
    by_cases e2 : k = d
    · rw [e2]; exact hd2
    obtain ⟨o, ho⟩ := Option.ne_none_iff_exists'.1 hk
    rw [f2 k o (by simp [e1, e2]) ho]; simp
  have vold : ∀ k n p, v = .sl k 0 n p → h2.get k ≠ none := fun k n p e => by
    rcases c4.2 with ⟨_, z⟩ | ⟨b, z1, _, z3⟩
    · rw [e] at z; cases z
    · rw [e] at z1; injection z1 with z1 _; rw [z1, z3]; simp
  have fin : whileT dec (n - i) s2 acc = (acc, s2) → J h2 := fun hw => by
    rw [hw] at hst
    rw [hst] at hJ
    refine hJ v h2 f2 q2 ⟨css, c1, fun j x d hx hd => hmono (only_fr fun k o p hk => ⟨p.1, hk⟩) (c2 j x d hx hd), fun c hc => (c3 c hc).1, ?_⟩
    refine (show Own (hi.only fun k => k ≠ rb ∧ k ≠ d) (H.new hi h2) ty esz v acc.length css.flatten from c4.keep fun b n' p e' ob hg => ?_).row
    have hv := e'
    rcases c4.2 with ⟨_, z⟩ | ⟨b', z1, z2, z3⟩
    · rw [e'] at z; cases z
    · rw [e'] at z1; injection z1 with z1 _; subst z1
      have hb1 : b ≠ rb := fun z => c4.ne q2.r.g ht1 n' p (by rw [hv, z])
      have hb2 : b ≠ d := fun z => c4.ne q2.gd ht2 n' p (by rw [hv, z])
      simp only [H.only] at z2
      rw [if_pos ⟨hb1, hb2⟩] at z2
      simp only [H.new, H.only]
      rw [if_pos z2]; exact hg
  by_cases q : (i : Int) < (n : Nat)
  · obtain ⟨m, hm⟩ : ∃ m, n - i = m + 1 := ⟨n - i - 1, by omega⟩
    cases hbad : s2.bad with
    | true =>
      simp only [go_sem, reduceIte, Nat.reduceAdd, Nat.reduceSub, Nat.reduceMul, Nat.reducePow, Nat.reduceLT, Nat.reduceLeDiff, Nat.reduceEqDiff, Int.reduceAdd, Int.reduceSub, Int.reduceMul, Int.reduceNeg, Int.reducePow, Int.reduceLT, Int.reduceLE, Int.reduceEq, Int.reduceNe, Int.reduceToNat, Int.toNat_natCast, Nat.zero_add, Nat.add_zero, Nat.mul_one, Nat.one_mul, Bool.not_true, Bool.not_false, ne_eq, not_true_eq_false, not_false_eq_true, Bool.false_eq_true, q, q2.r.cell, hbad]
      refine fin ?_
      rw [hm, whileT, hbad, if_pos rfl]
    | false =>
      rw [hm, whileT, hbad, if_neg (by decide)] at hst
      have en : IntKind.i64.wrap ((i : Int) + 1) = ((i + 1 : Nat) : Int) := by rw [i64_id (by omega) (by omega)]; rfl
      simp only [go_sem, reduceIte, Nat.reduceAdd, Nat.reduceSub, Nat.reduceMul, Nat.reducePow, Nat.reduceLT, Nat.reduceLeDiff, Nat.reduceEqDiff, Int.reduceAdd, Int.reduceSub, Int.reduceMul, Int.reduceNeg, Int.reducePow, Int.reduceLT, Int.reduceLE, Int.reduceEq, Int.reduceNe, Int.reduceToNat, Int.toNat_natCast, Nat.zero_add, Nat.add_zero, Nat.mul_one, Nat.one_mul, Bool.not_true, Bool.not_false, ne_eq, not_true_eq_false, not_false_eq_true, Bool.false_eq_true, q, q2.r.cell, hbad]
      refine hB _ i s2 v h2 (by omega) q2 fun h3 c T hT f3 r3 rl hc => ?_
      have o3 : Own (hi.only fun k => k ≠ rb ∧ k ≠ d) h3 ty esz v acc.length css.flatten := c4.keep fun b n' p e ob hg => f3 b ob (by
        intro z; simp at z; exact c4.ne q2.r.g ht1 n' p (by rw [e, z])) hg
      have gd3 := f3 d _ (by simpa using hdr) q2.gd
      have f03 : Fr [rb, d] hi h3 := f2.trans f3.rd
      refine append_one' (ty := ty) o3 hc hz (leaves_flat fun c hc => (c3 c hc).2) (hleaf rl) f03.of_two ?_ fun v4 h4 o4 f4 k4 w4 => ?_
      · have : (acc.length + 1) * bytes ≤ 4294967297 * 256 := Nat.mul_le_mul (by omega) hb
        unfold most; omega
      have g4 := k4 rb _ r3.g (o3.ne r3.g ht1)
      have gd4 := k4 d _ gd3 (o3.ne gd3 ht2)
      have f04 := f4.to_two
      obtain ⟨b4, z1, z2⟩ := w4
      have st := st_val gd4 (off := off) (v := v4) (by simpa using ho) (by rw [z1]; rfl) (by rw [z1]; rfl)
      rw [List.set_set] at st
      rw [faA_p, valA_some, Nat.zero_add, st, memA_some]
      have f05 : Fr [rb, d] hi (h4.set d (.live (cs.set off v4) e true)) := f04.trans (Fr.put (by simp))
      have g5 : (h4.set d (.live (cs.set off v4) e true)).get rb = some (.live [vB, .int .i64 (dec s2).2.pos, .bool (dec s2).2.bad] E true) := by rw [H.get_other _ _ hdr.symm]; exact g4
      have F5 : Fr [rb] h (h4.set d (.live (cs.set off v4) e true)) := fun k o hk x => f05 k o (by
        simp at hk ⊢; exact ⟨hk, fun z => by rw [z, q0.hd] at x; cases x⟩) (q0.f k o hk x)
      have q5 := q0.upd f05 (r0.re F5 g5 r3.pos) (H.get_same ..)
      have hne4 : ∀ k o, h3.get k = some o → ∀ n p, v4 ≠ .sl k 0 n p := fun k o hk n p e => by
        rw [z1] at e; injection e with e _; rw [← e, z2] at hk; cases hk
      have up : ∀ k o, hi.get k = none → h3.get k = some o → (∀ n p, v ≠ .sl k 0 n p) → (h4.set d (.live (cs.set off v4) e true)).get k = some o := fun k o p hk hv => by
        rw [H.get_other _ _ (fun z => by rw [z] at p; exact hdi p)]
        exact k4 k o hk hv
      have o5 : Own (hi.only fun k => k ≠ rb ∧ k ≠ d) (h4.set d (.live (cs.set off v4) e true)) ty esz v4 (acc.length + 1) (css.flatten ++ c) := o4.keep fun b n' p e' ob hg => by
        rw [H.get_other _ _ (fun z => o4.ne gd4 ht2 n' p (by rw [e', z]))]; exact hg
      refine hT _ ?_
      simp only [go_sem, reduceIte, Nat.reduceAdd, Nat.reduceSub, Nat.reduceMul, Nat.reducePow, Nat.reduceLT, Nat.reduceLeDiff, Nat.reduceEqDiff, Int.reduceAdd, Int.reduceSub, Int.reduceMul, Int.reduceNeg, Int.reducePow, Int.reduceLT, Int.reduceLE, Int.reduceEq, Int.reduceNe, Int.reduceToNat, Int.toNat_natCast, Nat.zero_add, Nat.add_zero, Nat.mul_one, Nat.one_mul, Bool.not_true, Bool.not_false, ne_eq, not_true_eq_false, not_false_eq_true, Bool.false_eq_true, en]
      refine ⟨n + 1 - (i + 1), by omega, i + 1, v4, acc ++ [(dec s2).1], (dec s2).2, css ++ [c], rfl, by omega, by simp [hacc], f05, q5, by simp [c1], fun j x dd hx hdd => ?_, fun dd hdd => ?_, by simpa using o5, ?_, rfl⟩
      · by_cases hj : j < acc.length
        · rw [List.getElem?_append_left hj] at hx
          rw [List.getElem?_append_left (by omega)] at hdd
          refine hmono (only_fr fun k o p hk => ?_) (c2 j x dd hx hdd)
          have hk3 := f3 k o (by simp; intro e; rw [e] at p; exact hrb p.1) hk
          exact ⟨⟨p.1, hne4 k o hk3⟩, up k o p.1 hk3 p.2⟩
        · rw [List.getElem?_append_right (by omega)] at hx
          rw [List.getElem?_append_right (by omega)] at hdd
          have hj0 : j = acc.length := by
            have := (List.getElem?_eq_some_iff.1 hx).1; simp at this; omega
          subst hj0
          simp [c1] at hx hdd
          subst hx hdd
          refine hmono (only_fr fun k o p hk => ?_) rl
          have hkv : ∀ n p, v ≠ .sl k 0 n p := fun n' p' e => vold k n' p' e p
          have hki : hi.get k = none := by
            by_cases z : hi.get k = none
            · exact z
            · exact absurd p (alive2 k z)
          exact ⟨⟨hki, hne4 k o hk⟩, up k o hki hk hkv⟩
      · rcases List.mem_append.1 hdd with hd | hd
        · exact c3 dd hd
        · simp at hd; subst hd; exact ⟨hc, (hleaf rl)⟩
      · rw [hst]; congr 1; omega
  · simp only [go_sem, reduceIte, Nat.reduceAdd, Nat.reduceSub, Nat.reduceMul, Nat.reducePow, Nat.reduceLT, Nat.reduceLeDiff, Nat.reduceEqDiff, Int.reduceAdd, Int.reduceSub, Int.reduceMul, Int.reduceNeg, Int.reducePow, Int.reduceLT, Int.reduceLE, Int.reduceEq, Int.reduceNe, Int.reduceToNat, Int.toNat_natCast, Nat.zero_add, Nat.add_zero, Nat.mul_one, Nat.one_mul, Bool.not_true, Bool.not_false, ne_eq, not_true_eq_false, not_false_eq_true, Bool.false_eq_true, q]
    refine fin ?_
    rw [show n - i = 0 by omega, whileT]
end Go.Proofs.YtdljelicbnjfjaaGreat.X
set_option linter.unusedVariables false
set_option linter.unusedSimpArgs false
set_option maxRecDepth 20000
namespace Go.Proofs.YtdljelicbnjfjaaGreat.X
open Go Go.RowKit
def EachT {α : Type} (rb : Nat) (B : List Nat) (E esz : Nat) (dec : RS → α × RS) (Rel : H → α → List AV → Prop) : Prop :=
  ∀ h vB s, Td h rb vB B s → ∀ K : AV → H → Prop, (∀ h' c, Fr [rb] h h' → Td h' rb vB B (dec s).2 → Rel (H.new h h') (dec s).1 c → c.length = esz → K (.agg c) h') → C E [.ptr rb 0] h K
theorem new_res {h h3 h5 : H} {p : Nat} {o : Obj} (a : ∀ k, h.get k ≠ none → h3.get k ≠ none) (p3 : h3.get p ≠ none) : Fr [] (H.new h3 h5) (H.new h (h5.set p o)) := only_fr fun k o' q x => ⟨by
  by_cases z : h.get k = none
  · exact z
  · exact absurd q (a k z), by
  rw [H.get_other _ _ (fun e => p3 (by rw [← e]; exact q))]; exact x⟩
theorem fr_alive {h h' : H} (f : Fr [] h h') : ∀ k, h.get k ≠ none → h'.get k ≠ none := fun k hk => by
  obtain ⟨o, ho⟩ := Option.ne_none_iff_exists'.1 hk
  rw [f k o (by simp) ho]; simp
theorem RdDE.st2 {E : Nat} {h h1 hi : H} {rb d e : Nat} {vB : AV} {B : List Nat} {s : RS} {cs : List AV} (q : RdDE E h h1 hi rb d vB B s cs e) {s0 : RS} (r : RdE E h rb vB B s0) {off : Nat} {v : AV} {cs' : List AV} (hc : cs.set off v = cs') (ho : off < cs.length) (hv : v.leaf = true) (hv' : v.cells = [v]) {K : AV → H → Prop}
    (hK : ∀ h', Fr [rb, d] hi h' → RdDE E h h1 h' rb d vB B s cs' e → K .undef h') : memA (stA hi 1 (.ptr d off) v) .undef K := by
  rw [st_val q.gd ho hv hv', memA_some]
  exact hK _ (Fr.put (by simp)) (q.put r hc)
section
variable {rb : Nat} {B : List Nat}
set_option maxHeartbeats 1000000 in
theorem teachIn : EachT rb B 91 9 (instrT B) relIn := by
  intro h vB s r K hK
  refine run91 ?_
  unfold sh91
  refine box_r rfl fun p hp => ?_
  have fp : Fr [] h (h.set p (.live (insC (insZ 0) .nilsl .nilsl .nilsl) 55 true)) := (Fr.refl _ _).set' hp
  have gp : (h.set p (.live (insC (insZ 0) .nilsl .nilsl .nilsl) 55 true)).get p = some (.live (insC (insZ 0) .nilsl .nilsl .nilsl) 55 true) := H.get_same ..
  have hpr := r.ne hp
  have r1 := r.keep fp
  change C 45 _ (h.set p (.live (insC (insZ 0) .nilsl .nilsl .nilsl) 55 true)) _
  generalize h.set p (.live (insC (insZ 0) .nilsl .nilsl .nilsl) 55 true) = h1 at *
  refine tnum_c r1 fun h2 f2 r2 => ?_
  have gp2 := f2 p _ (by simpa using hpr) gp
  have hop := (longT_facts B s r.pos).1
  unfold instrT at hK
  simp only at hK
  generalize longT B s = a at *
  obtain ⟨op, s3⟩ := a
  simp only at r2 hK hop ⊢
  rw [show buildA (fillV [AV.int .i64 0, .int .i64 0, .int .i64 0, .int .i64 0, .int .i64 0, .int .i64 0, .nilsl, .nilsl, .nilsl] [(0, 1, .int .i64 op)]) = some (.agg (insC (insZ op) .nilsl .nilsl .nilsl)) from rfl, valA_some]
  refine box_r rfl fun d hd => ?_
  have hdr := r2.ne hd
  have q1 := r2.box hd (cs := insC (insZ 0) .nilsl .nilsl .nilsl) (e := 55)
  change memA (stA (h2.set d (.live (insC (insZ 0) .nilsl .nilsl .nilsl) 55 true)) 9 (.ptr d 0) _) _ _
  generalize h2.set d (.live (insC (insZ 0) .nilsl .nilsl .nilsl) 55 true) = h3 at *
  rw [agg_st (n := 9) q1.gd rfl rfl rfl, memA_some]
  have q3 := q1.put r2 (cs'' := insC (insZ op) .nilsl .nilsl .nilsl) rfl
  generalize h3.set d _ = h3' at *
  refine fld_r (v := .int .i64 op) (by rw [q3.cell]; rfl) ?_
  refine ruses_c op fun h4 f4 => ?_
  have q4 := q3.call hdr f4.more (q3.r.keep f4)
  have hu := usesN_len op
  have hrb : reachBytes ≤ 4611686018427387903 := by decide
  generalize usesN op = u at *
  have p2 : h2.get p ≠ none := by rw [gp2]; simp
  have p3 : h3.get p ≠ none := q1.a0 p p2
  have al : ∀ k, h.get k ≠ none → h3.get k ≠ none := fun k hk => q1.a0 k (alive_of f2 (by rw [r2.g]; simp) k (fr_alive fp k hk))
  have f02 : Fr [rb] h h2 := fp.more.trans f2
  refine join_r (fun (J : H → Prop) => ∀ h5, TdD h2 h3 h5 rb d vB B ⟨s3.pos, s3.bad || decide (u = [])⟩ (insC (insZ op) .nilsl .nilsl .nilsl) 55 → J h5) ?_ fun J hJ => ?_
  · intro h4 q4
    refine join_r (fun (J : H → Prop) => ∀ h5 x s5 vl vm vv, TdD h2 h3 h5 rb d vB B s5 (insC x vl vm vv) 55 → R3 (H.new h3 h5) x vl vm vv → x.ok → u.foldl (fldT B) (insZ op, ⟨s3.pos, s3.bad || decide (u = [])⟩) = (x, s5) → J h5) ?_ fun J hJ => ?_
    · intro h5 x s5 vl vm vv q5 r3 ok e5
      have hl : leaves (insC x vl vm vv) = true := by simp only [insC, leaves, r3.1.one.1, r3.2.1.one.1, r3.2.2.one.1]; rfl
      have gp5 := q5.f p _ (by simpa using hpr) gp2
      rw [ldA_read (q5.read (n := 9) rfl), valA_some, agg_st (n := 9) gp5 rfl rfl hl, memA_some, ldA_read (H.read_eq (n := 9) (H.get_same ..) (by simp [insC]) rfl), valA_some]
      have F6 : Fr [rb] h (h5.set p (.live (insC x vl vm vv) 55 true)) := (f02.trans q5.f).set' hp
      have R6 := r.re F6 (s' := s5) (by rw [H.get_other _ _ hpr.symm]; exact q5.r.g) q5.r.pos
      have r3 := r3.fr (new_res (o := .live (insC x vl vm vv) 55 true) al p3)
      rw [e5] at hK
      exact hK _ (insC x vl vm vv) F6 R6 ⟨⟨vl, vm, vv, rfl, r3.1, r3.2.1, r3.2.2⟩, ok⟩ rfl
    have hlr : ∀ s, (RS.pos s ≤ B.length) → rg (longT B s).1 := fun s hs => (longT_facts B s hs).1
    refine loop_r (u.length + 1) (fun k ls h5 => ∃ (i : Nat) (x : Ins) (s5 : RS) (vl vm vv : AV), ls = [.int .i64 i] ∧ i ≤ u.length ∧ TdD h2 h3 h5 rb d vB B s5 (insC x vl vm vv) 55 ∧ R3 (H.new h3 h5) x vl vm vv ∧ x.ok ∧ (u.take i).foldl (fldT B) (insZ op, ⟨s3.pos, s3.bad || decide (u = [])⟩) = (x, s5) ∧ k = u.length + 1 - i)
      ⟨0, _, _, _, _, _, rfl, by omega, q4, ⟨Row.nil _ _, Row.nil _ _, Row.nil _ _⟩, ⟨⟨hop, rg0, rg0, rg0, rg0, rg0⟩, ⟨by simp [insZ], by simp [insZ]⟩, ⟨by simp [insZ], by simp [insZ]⟩, ⟨by simp [insZ], by simp [insZ]⟩⟩, rfl, rfl⟩ ?_
    rintro k ls h5 ⟨i, x, s5, vl, vm, vv, rfl, hi, q5, r3, ok, e5, rfl⟩
    have hlen : lenA true (.str u) = some (.int .i64 u.length) := rfl
    by_cases q : (i : Int) < u.length
    · have hi' : i < u.length := by omega
      obtain ⟨c, hc⟩ : ∃ c, u[i]? = some c := ⟨u[i], by simp [hi']⟩
      have hix : ixStrA (.str u) (.int .i64 i) = some (.int .u8 c.toNat) := by
        have : (0 : Int) ≤ i := by omega
        simp only [ixStrA, this, if_true, Int.toNat_natCast, hc]
      have en : IntKind.i64.wrap ((i : Int) + 1) = ((i + 1 : Nat) : Int) := by rw [i64_id (by omega) (by omega)]; rfl
      have etk : u.take (i + 1) = u.take i ++ [c] := by rw [List.take_add_one, hc]; rfl
      simp only [go_sem, reduceIte, Nat.reduceAdd, Nat.reduceSub, Nat.reduceMul, Nat.reducePow, Nat.reduceLT, Nat.reduceLeDiff, Nat.reduceEqDiff, Int.reduceAdd, Int.reduceSub, Int.reduceMul, Int.reduceNeg, Int.reducePow, Int.reduceLT, Int.reduceLE, Int.reduceEq, Int.reduceNe, Int.reduceToNat, Int.toNat_natCast, Nat.zero_add, Nat.add_zero, Nat.mul_one, Nat.one_mul, Bool.not_true, Bool.not_false, ne_eq, not_true_eq_false, not_false_eq_true, Bool.false_eq_true, hlen, q, hix]
      refine join_r (fun (J : H → Prop) => ∀ h6 x' s' vl' vm' vv', TdD h2 h3 h6 rb d vB B s' (insC x' vl' vm' vv') 55 → R3 (H.new h3 h6) x' vl' vm' vv' → x'.ok → fldT B (x, s5) c = (x', s') → J h6) ?_ fun J2 done => ?_
      · intro h6 x' s' vl' vm' vv' q6 r3 ok e
        simp only [go_sem, reduceIte, Nat.reduceAdd, Nat.reduceSub, Nat.reduceMul, Nat.reducePow, Nat.reduceLT, Nat.reduceLeDiff, Nat.reduceEqDiff, Int.reduceAdd, Int.reduceSub, Int.reduceMul, Int.reduceNeg, Int.reducePow, Int.reduceLT, Int.reduceLE, Int.reduceEq, Int.reduceNe, Int.reduceToNat, Int.toNat_natCast, Nat.zero_add, Nat.add_zero, Nat.mul_one, Nat.one_mul, Bool.not_true, Bool.not_false, ne_eq, not_true_eq_false, not_false_eq_true, Bool.false_eq_true, en]
        exact ⟨u.length + 1 - (i + 1), by omega, i + 1, x', s', vl', vm', vv', rfl, by omega, q6, r3, ok, by rw [etk, List.foldl_append, e5]; exact e, rfl⟩
      have fn : ∀ k : UInt8, ¬ c = k → ¬ ((c.toNat : Nat) : Int) = (k.toNat : Nat) := fun k e q => e (UInt8.toNat_inj.1 (by omega))
      obtain ⟨⟨o1, o2, o3, o4, o5, o6⟩, o7, o8, o9⟩ := ok
      have hn := hlr s5 q5.r.pos
      by_cases c0 : c = 68
      · subst c0
        have t : ((UInt8.toNat 68 : Nat) : Int) = 68 := rfl
        simp only [go_sem, reduceIte, Nat.reduceAdd, Nat.reduceSub, Nat.reduceMul, Nat.reducePow, Nat.reduceLT, Nat.reduceLeDiff, Nat.reduceEqDiff, Int.reduceAdd, Int.reduceSub, Int.reduceMul, Int.reduceNeg, Int.reducePow, Int.reduceLT, Int.reduceLE, Int.reduceEq, Int.reduceNe, Int.reduceToNat, Int.toNat_natCast, Nat.zero_add, Nat.add_zero, Nat.mul_one, Nat.one_mul, Bool.not_true, Bool.not_false, ne_eq, not_true_eq_false, not_false_eq_true, Bool.false_eq_true, t]
        refine tnum_c q5.r fun h6 f6 r6 => ?_
        have q6 := q5.call hdr f6 r6
        refine q6.st2 r2 (cs' := insC { x with d := (longT B s5).1 } vl vm vv) rfl (by simp [insC]) rfl rfl fun h7 g7 q7 => ?_
        exact done h7 { x with d := (longT B s5).1 } (longT B s5).2 vl vm vv q7 (r3.fr (q7.val0 (f6.rd.trans g7))) ⟨⟨o1, hn, o3, o4, o5, o6⟩, o7, o8, o9⟩ (by rfl)
      have n0 : ¬ ((c.toNat : Nat) : Int) = 68 := fn 68 c0
      by_cases c1 : c = 65
      · subst c1
        have t : ((UInt8.toNat 65 : Nat) : Int) = 65 := rfl
        simp only [go_sem, reduceIte, Nat.reduceAdd, Nat.reduceSub, Nat.reduceMul, Nat.reducePow, Nat.reduceLT, Nat.reduceLeDiff, Nat.reduceEqDiff, Int.reduceAdd, Int.reduceSub, Int.reduceMul, Int.reduceNeg, Int.reducePow, Int.reduceLT, Int.reduceLE, Int.reduceEq, Int.reduceNe, Int.reduceToNat, Int.toNat_natCast, Nat.zero_add, Nat.add_zero, Nat.mul_one, Nat.one_mul, Bool.not_true, Bool.not_false, ne_eq, not_true_eq_false, not_false_eq_true, Bool.false_eq_true, t]
        refine tnum_c q5.r fun h6 f6 r6 => ?_
        have q6 := q5.call hdr f6 r6
        refine q6.st2 r2 (cs' := insC { x with a := (longT B s5).1 } vl vm vv) rfl (by simp [insC]) rfl rfl fun h7 g7 q7 => ?_
        exact done h7 { x with a := (longT B s5).1 } (longT B s5).2 vl vm vv q7 (r3.fr (q7.val0 (f6.rd.trans g7))) ⟨⟨o1, o2, hn, o4, o5, o6⟩, o7, o8, o9⟩ (by rfl)
      have n1 : ¬ ((c.toNat : Nat) : Int) = 65 := fn 65 c1
      by_cases c2 : c = 66
      · subst c2
        have t : ((UInt8.toNat 66 : Nat) : Int) = 66 := rfl
        simp only [go_sem, reduceIte, Nat.reduceAdd, Nat.reduceSub, Nat.reduceMul, Nat.reducePow, Nat.reduceLT, Nat.reduceLeDiff, Nat.reduceEqDiff, Int.reduceAdd, Int.reduceSub, Int.reduceMul, Int.reduceNeg, Int.reducePow, Int.reduceLT, Int.reduceLE, Int.reduceEq, Int.reduceNe, Int.reduceToNat, Int.toNat_natCast, Nat.zero_add, Nat.add_zero, Nat.mul_one, Nat.one_mul, Bool.not_true, Bool.not_false, ne_eq, not_true_eq_false, not_false_eq_true, Bool.false_eq_true, t]
        refine tnum_c q5.r fun h6 f6 r6 => ?_
        have q6 := q5.call hdr f6 r6
        refine q6.st2 r2 (cs' := insC { x with b := (longT B s5).1 } vl vm vv) rfl (by simp [insC]) rfl rfl fun h7 g7 q7 => ?_
        exact done h7 { x with b := (longT B s5).1 } (longT B s5).2 vl vm vv q7 (r3.fr (q7.val0 (f6.rd.trans g7))) ⟨⟨o1, o2, o3, hn, o5, o6⟩, o7, o8, o9⟩ (by rfl)
      have n2 : ¬ ((c.toNat : Nat) : Int) = 66 := fn 66 c2
      by_cases c3 : c = 67
      · subst c3
        have t : ((UInt8.toNat 67 : Nat) : Int) = 67 := rfl
        simp only [go_sem, reduceIte, Nat.reduceAdd, Nat.reduceSub, Nat.reduceMul, Nat.reducePow, Nat.reduceLT, Nat.reduceLeDiff, Nat.reduceEqDiff, Int.reduceAdd, Int.reduceSub, Int.reduceMul, Int.reduceNeg, Int.reducePow, Int.reduceLT, Int.reduceLE, Int.reduceEq, Int.reduceNe, Int.reduceToNat, Int.toNat_natCast, Nat.zero_add, Nat.add_zero, Nat.mul_one, Nat.one_mul, Bool.not_true, Bool.not_false, ne_eq, not_true_eq_false, not_false_eq_true, Bool.false_eq_true, t]
        refine tnum_c q5.r fun h6 f6 r6 => ?_
        have q6 := q5.call hdr f6 r6
        refine q6.st2 r2 (cs' := insC { x with c := (longT B s5).1 } vl vm vv) rfl (by simp [insC]) rfl rfl fun h7 g7 q7 => ?_
        exact done h7 { x with c := (longT B s5).1 } (longT B s5).2 vl vm vv q7 (r3.fr (q7.val0 (f6.rd.trans g7))) ⟨⟨o1, o2, o3, o4, hn, o6⟩, o7, o8, o9⟩ (by rfl)
      have n3 : ¬ ((c.toNat : Nat) : Int) = 67 := fn 67 c3
      by_cases c4 : c = 78
      · subst c4
        have t : ((UInt8.toNat 78 : Nat) : Int) = 78 := rfl
        simp only [go_sem, reduceIte, Nat.reduceAdd, Nat.reduceSub, Nat.reduceMul, Nat.reducePow, Nat.reduceLT, Nat.reduceLeDiff, Nat.reduceEqDiff, Int.reduceAdd, Int.reduceSub, Int.reduceMul, Int.reduceNeg, Int.reducePow, Int.reduceLT, Int.reduceLE, Int.reduceEq, Int.reduceNe, Int.reduceToNat, Int.toNat_natCast, Nat.zero_add, Nat.add_zero, Nat.mul_one, Nat.one_mul, Bool.not_true, Bool.not_false, ne_eq, not_true_eq_false, not_false_eq_true, Bool.false_eq_true, t]
        refine tnum_c q5.r fun h6 f6 r6 => ?_
        have q6 := q5.call hdr f6 r6
        refine q6.st2 r2 (cs' := insC { x with n := (longT B s5).1 } vl vm vv) rfl (by simp [insC]) rfl rfl fun h7 g7 q7 => ?_
        exact done h7 { x with n := (longT B s5).1 } (longT B s5).2 vl vm vv q7 (r3.fr (q7.val0 (f6.rd.trans g7))) ⟨⟨o1, o2, o3, o4, o5, hn⟩, o7, o8, o9⟩ (by rfl)
      have n4 : ¬ ((c.toNat : Nat) : Int) = 78 := fn 78 c4
      by_cases c5 : c = 76
      · subst c5
        have t : ((UInt8.toNat 76 : Nat) : Int) = 76 := rfl
        simp only [go_sem, reduceIte, Nat.reduceAdd, Nat.reduceSub, Nat.reduceMul, Nat.reducePow, Nat.reduceLT, Nat.reduceLeDiff, Nat.reduceEqDiff, Int.reduceAdd, Int.reduceSub, Int.reduceMul, Int.reduceNeg, Int.reducePow, Int.reduceLT, Int.reduceLE, Int.reduceEq, Int.reduceNe, Int.reduceToNat, Int.toNat_natCast, Nat.zero_add, Nat.add_zero, Nat.mul_one, Nat.one_mul, Bool.not_true, Bool.not_false, ne_eq, not_true_eq_false, not_false_eq_true, Bool.false_eq_true, t]
        refine tnums_c q5.r fun v h6 f6 r6 rv okl => ?_
        have q6 := q5.call hdr f6 r6
        refine q6.st2 r2 (cs' := insC { x with l := (numsT B s5).1 } v vm vv) rfl (by simp [insC]) rv.one.1 rv.one.2 fun h7 g7 q7 => ?_
        have r3' := r3.fr (q7.val0 (f6.rd.trans g7))
        exact done h7 { x with l := (numsT B s5).1 } (numsT B s5).2 v vm vv q7 ⟨rv.fr (q5.val g7), r3'.2.1, r3'.2.2⟩ ⟨⟨o1, o2, o3, o4, o5, o6⟩, okl, o8, o9⟩ (by rfl)
      have n5 : ¬ ((c.toNat : Nat) : Int) = 76 := fn 76 c5
      by_cases c6 : c = 77
      · subst c6
        have t : ((UInt8.toNat 77 : Nat) : Int) = 77 := rfl
        simp only [go_sem, reduceIte, Nat.reduceAdd, Nat.reduceSub, Nat.reduceMul, Nat.reducePow, Nat.reduceLT, Nat.reduceLeDiff, Nat.reduceEqDiff, Int.reduceAdd, Int.reduceSub, Int.reduceMul, Int.reduceNeg, Int.reducePow, Int.reduceLT, Int.reduceLE, Int.reduceEq, Int.reduceNe, Int.reduceToNat, Int.toNat_natCast, Nat.zero_add, Nat.add_zero, Nat.mul_one, Nat.one_mul, Bool.not_true, Bool.not_false, ne_eq, not_true_eq_false, not_false_eq_true, Bool.false_eq_true, t]
        refine tnums_c q5.r fun v h6 f6 r6 rv okl => ?_
        have q6 := q5.call hdr f6 r6
        refine q6.st2 r2 (cs' := insC { x with m := (numsT B s5).1 } vl v vv) rfl (by simp [insC]) rv.one.1 rv.one.2 fun h7 g7 q7 => ?_
        have r3' := r3.fr (q7.val0 (f6.rd.trans g7))
        exact done h7 { x with m := (numsT B s5).1 } (numsT B s5).2 vl v vv q7 ⟨r3'.1, rv.fr (q5.val g7), r3'.2.2⟩ ⟨⟨o1, o2, o3, o4, o5, o6⟩, o7, okl, o9⟩ (by rfl)
      have n6 : ¬ ((c.toNat : Nat) : Int) = 77 := fn 77 c6
      simp only [go_sem, reduceIte, Nat.reduceAdd, Nat.reduceSub, Nat.reduceMul, Nat.reducePow, Nat.reduceLT, Nat.reduceLeDiff, Nat.reduceEqDiff, Int.reduceAdd, Int.reduceSub, Int.reduceMul, Int.reduceNeg, Int.reducePow, Int.reduceLT, Int.reduceLE, Int.reduceEq, Int.reduceNe, Int.reduceToNat, Int.toNat_natCast, Nat.zero_add, Nat.add_zero, Nat.mul_one, Nat.one_mul, Bool.not_true, Bool.not_false, ne_eq, not_true_eq_false, not_false_eq_true, Bool.false_eq_true, n0, n1, n2, n3, n4, n5, n6]
      refine tnums_c q5.r fun v h6 f6 r6 rv okl => ?_
      have q6 := q5.call hdr f6 r6
      refine q6.st2 r2 (cs' := insC { x with live := (numsT B s5).1 } vl vm v) rfl (by simp [insC]) rv.one.1 rv.one.2 fun h7 g7 q7 => ?_
      have r3' := r3.fr (q7.val0 (f6.rd.trans g7))
      exact done h7 { x with live := (numsT B s5).1 } (numsT B s5).2 vl vm v q7 ⟨r3'.1, r3'.2.1, rv.fr (q5.val g7)⟩ ⟨⟨o1, o2, o3, o4, o5, o6⟩, o7, o8, okl⟩ (by unfold fldT; simp only [c0, c1, c2, c3, c4, c5, c6, if_false])
    · have : u.take i = u := List.take_of_length_le (by omega)
      rw [this] at e5
      simp only [go_sem, reduceIte, Nat.reduceAdd, Nat.reduceSub, Nat.reduceMul, Nat.reducePow, Nat.reduceLT, Nat.reduceLeDiff, Nat.reduceEqDiff, Int.reduceAdd, Int.reduceSub, Int.reduceMul, Int.reduceNeg, Int.reducePow, Int.reduceLT, Int.reduceLE, Int.reduceEq, Int.reduceNe, Int.reduceToNat, Int.toNat_natCast, Nat.zero_add, Nat.add_zero, Nat.mul_one, Nat.one_mul, Bool.not_true, Bool.not_false, ne_eq, not_true_eq_false, not_false_eq_true, Bool.false_eq_true, hlen, q]
      exact hJ h5 x s5 vl vm vv q5 r3 ok e5
  · by_cases hue : u = []
    · have st := st_val q4.r.g (off := 2) (v := .bool true) (by simp) rfl rfl
      obtain ⟨r5, f5⟩ := q4.r.put ⟨s3.pos, true⟩ q4.r.pos (cs := [vB, AV.int .i64 s3.pos, .bool s3.bad].set 2 (.bool true)) rfl
      simp only [go_sem, reduceIte, Nat.reduceAdd, Nat.reduceSub, Nat.reduceMul, Nat.reducePow, Nat.reduceLT, Nat.reduceLeDiff, Nat.reduceEqDiff, Int.reduceAdd, Int.reduceSub, Int.reduceMul, Int.reduceNeg, Int.reducePow, Int.reduceLT, Int.reduceLE, Int.reduceEq, Int.reduceNe, Int.reduceToNat, Int.toNat_natCast, Nat.zero_add, Nat.add_zero, Nat.mul_one, Nat.one_mul, Bool.not_true, Bool.not_false, ne_eq, not_true_eq_false, not_false_eq_true, Bool.false_eq_true, hue, st]
      refine hJ _ ?_
      rw [hue, decide_eq_true rfl, Bool.or_true]
      exact q4.call hdr f5 r5
    · simp only [go_sem, reduceIte, Nat.reduceAdd, Nat.reduceSub, Nat.reduceMul, Nat.reducePow, Nat.reduceLT, Nat.reduceLeDiff, Nat.reduceEqDiff, Int.reduceAdd, Int.reduceSub, Int.reduceMul, Int.reduceNeg, Int.reducePow, Int.reduceLT, Int.reduceLE, Int.reduceEq, Int.reduceNe, Int.reduceToNat, Int.toNat_natCast, Nat.zero_add, Nat.add_zero, Nat.mul_one, Nat.one_mul, Bool.not_true, Bool.not_false, ne_eq, not_true_eq_false, not_false_eq_true, Bool.false_eq_true, hue]
      refine hJ _ ?_
      rw [decide_eq_false hue, Bool.or_false]
      exact q4
end
end Go.Proofs.YtdljelicbnjfjaaGreat.X
set_option linter.unusedVariables false
set_option linter.unusedSimpArgs false
set_option maxRecDepth 20000
namespace Go.Proofs.YtdljelicbnjfjaaGreat.X
open Go Go.RowKit
variable {B : List Nat}
def Sim2 {α : Type} (dec decT : RS → α × RS) : Prop := ∀ s, (decT s).2.bad = false → s.bad = false ∧ dec s = decT s
theorem long_sim2 : Sim2 (longR B) (longT B) := fun s h => by
  unfold longT at h ⊢
  cases hb : s.bad with
  | true => rw [hb, if_pos rfl] at h; rw [hb] at h; cases h
  | false => exact ⟨rfl, rfl⟩
theorem count_sim2 {s : RS} (h : (countT B s).2.bad = false) : s.bad = false ∧ countR B s = countT B s := by
  have hb := h
  unfold countT at h
  simp only at h
  split at h
  · cases h
  · rename_i q
    obtain ⟨a1, a2⟩ := long_sim2 (B := B) s h
    refine ⟨a1, ?_⟩
    unfold countR countT countBad
    simp only
    rw [a2, if_neg q, h, decide_eq_false (fun z => q (.inl z)), decide_eq_false (fun z => q (.inr z))]
    simp only [Bool.or_self, Bool.false_eq_true, if_false]
    rw [show (longT B s).2 = ⟨(longT B s).2.pos, false⟩ from by rw [← h]]
theorem text_sim2 : Sim2 (textR B) (textT B) := fun s h => by
  obtain ⟨s1, s2⟩ := count_sim2 (B := B) (s := s) h
  exact ⟨s1, by unfold textT textR; rw [s2]⟩
section
variable {α : Type} {dec decT : RS → α × RS}
theorem while_nb (hd : Sim2 dec decT) : ∀ (n : Nat) (s : RS) (acc : List α), (whileT decT n s acc).2.bad = false → s.bad = false ∧ stepsR dec n s acc = whileT decT n s acc
  | 0, s, acc, h => ⟨h, rfl⟩
  | n + 1, s, acc, h => by
    rw [whileT] at h
    cases hb : s.bad with
    | true => rw [hb, if_pos rfl] at h; rw [hb] at h; cases h
    | false =>
      rw [hb, if_neg (by decide)] at h
      obtain ⟨b1, b2⟩ := while_nb hd n _ _ h
      refine ⟨rfl, ?_⟩
      rw [stepsR, whileT, hb, if_neg (by decide), if_neg (by decide), (hd s b1).2, b2]
theorem rep_nb (hd : Sim2 dec decT) : ∀ (n : Nat) (s : RS) (acc : List α), (repT decT n s acc).2.bad = false → s.bad = false ∧ stepsR dec n s acc = repT decT n s acc
  | 0, s, acc, h => ⟨h, rfl⟩
  | n + 1, s, acc, h => by
    rw [repT] at h
    obtain ⟨b1, b2⟩ := rep_nb hd n _ _ h
    obtain ⟨c1, c2⟩ := hd s b1
    refine ⟨c1, ?_⟩
    rw [stepsR, repT, c1, if_neg (by decide), c2, b2]
theorem some_sim2 (hd : Sim2 dec decT) : Sim2 (someR B dec) (someT B decT) := fun s h => by
  unfold someT at h
  obtain ⟨a1, a2⟩ := while_nb hd _ _ _ h
  obtain ⟨s1, s2⟩ := count_sim2 (B := B) a1
  refine ⟨s1, ?_⟩
  unfold someT someR
  rw [s2, a2]
theorem nums_sim2 : Sim2 (numsR B) (numsT B) := fun s h => by
  unfold numsT at h
  obtain ⟨a1, a2⟩ := rep_nb long_sim2 _ _ _ h
  obtain ⟨s1, s2⟩ := count_sim2 (B := B) a1
  refine ⟨s1, ?_⟩
  unfold numsT numsR someR
  rw [s2, a2]
end
theorem shape_sim2 : Sim2 (shapeR B) (shapeT B) := fun s h => by
  unfold shapeT at h
  simp only at h
  obtain ⟨c1, c2⟩ := text_sim2 _ h
  obtain ⟨b1, b2⟩ := nums_sim2 _ c1
  obtain ⟨a1, a2⟩ := long_sim2 _ b1
  refine ⟨a1, ?_⟩
  unfold shapeT shapeR
  simp only
  rw [a2, b2, c2]
theorem fld_sim2 {c : UInt8} {q : Ins × RS} (h : (fldT B q c).2.bad = false) : q.2.bad = false ∧ fldR B q c = fldT B q c := by
  unfold fldT at h
  unfold fldT fldR
  simp only at h ⊢
  by_cases c0 : c = 78
  · subst c0
    obtain ⟨a1, a2⟩ := long_sim2 (B := B) q.2 h
    exact ⟨a1, by rw [a2]; rfl⟩
  by_cases c1 : c = 68
  · subst c1
    obtain ⟨a1, a2⟩ := long_sim2 (B := B) q.2 h
    exact ⟨a1, by rw [a2]; rfl⟩
  by_cases c2 : c = 65
  · subst c2
    obtain ⟨a1, a2⟩ := long_sim2 (B := B) q.2 h
    exact ⟨a1, by rw [a2]; rfl⟩
  by_cases c3 : c = 66
  · subst c3
    obtain ⟨a1, a2⟩ := long_sim2 (B := B) q.2 h
    exact ⟨a1, by rw [a2]; rfl⟩
  by_cases c4 : c = 67
  · subst c4
    obtain ⟨a1, a2⟩ := long_sim2 (B := B) q.2 h
    exact ⟨a1, by rw [a2]; rfl⟩
  by_cases c5 : c = 76
  · subst c5
    obtain ⟨a1, a2⟩ := nums_sim2 (B := B) q.2 h
    exact ⟨a1, by rw [a2]; rfl⟩
  by_cases c6 : c = 77
  · subst c6
    obtain ⟨a1, a2⟩ := nums_sim2 (B := B) q.2 h
    exact ⟨a1, by rw [a2]; rfl⟩
  simp only [c0, c1, c2, c3, c4, c5, c6, if_false] at h ⊢
  obtain ⟨a1, a2⟩ := nums_sim2 (B := B) q.2 h
  exact ⟨a1, by rw [a2]⟩
theorem flds_sim2 : ∀ (u : List UInt8) (q : Ins × RS), (u.foldl (fldT B) q).2.bad = false → q.2.bad = false ∧ u.foldl (fldR B) q = u.foldl (fldT B) q
  | [], q, h => ⟨h, rfl⟩
  | c :: u, q, h => by
    rw [List.foldl_cons] at h
    obtain ⟨a1, a2⟩ := flds_sim2 u _ h
    obtain ⟨b1, b2⟩ := fld_sim2 a1
    exact ⟨b1, by rw [List.foldl_cons, List.foldl_cons, b2, a2]⟩
theorem instr_sim2 : Sim2 (instrR B) (instrT B) := fun s h => by
  unfold instrT at h
  simp only at h
  obtain ⟨a1, a2⟩ := flds_sim2 _ _ h
  simp only [Bool.or_eq_false_iff] at a1
  obtain ⟨b1, b2⟩ := long_sim2 _ a1.1
  refine ⟨b1, ?_⟩
  unfold instrT instrR
  simp only
  rw [b2, a2]
theorem block_sim2 : Sim2 (blockR B) (blockT B) := fun s h => by
  unfold blockT at h
  simp only at h
  obtain ⟨b1, b2⟩ := some_sim2 (B := B) instr_sim2 _ h
  obtain ⟨a1, a2⟩ := nums_sim2 _ b1
  refine ⟨a1, ?_⟩
  unfold blockT blockR
  simp only
  rw [a2, b2]
theorem function_sim2 : Sim2 (functionR B) (functionT B) := fun s h => by
  unfold functionT at h
  simp only at h
  obtain ⟨d1, d2⟩ := some_sim2 (B := B) block_sim2 _ h
  obtain ⟨c1, c2⟩ := long_sim2 _ d1
  obtain ⟨b1, b2⟩ := long_sim2 _ c1
  obtain ⟨a1, a2⟩ := nums_sim2 _ b1
  refine ⟨a1, ?_⟩
  unfold functionT functionR
  simp only
  rw [a2, b2, c2, d2]
def Bl {α : Type} (B : List Nat) (dec : RS → α × RS) (enc : α → List Nat) : Prop :=
  ∀ s, (dec s).2.bad = false → s.bad = false ∧ (s.pos ≤ B.length → (dec s).2.pos ≤ B.length ∧ (enc (dec s).1).length + s.pos ≤ (dec s).2.pos)
theorem bl_of {α : Type} {dec decT : RS → α × RS} {enc : α → List Nat} (h2 : Sim2 dec decT) (hb : Bk B dec enc) : Bl B decT enc := fun s h => by
  obtain ⟨a1, a2⟩ := h2 s h
  refine ⟨a1, fun hs => ?_⟩
  obtain ⟨b1, b2⟩ := hb s hs
  rw [a2] at b1 b2
  have b3 := congrArg List.length (b2 h).2
  simp only [List.length_append, List.length_drop] at b3
  exact ⟨b1, by omega⟩
theorem num_one {n : Int} : 1 ≤ (numB n).length := numB_pos n
theorem kind_bl : Bl B (kindT B) tyB := fun s h => by
  unfold kindT at h ⊢
  simp only at h ⊢
  obtain ⟨b1, b2⟩ := bl_of (B := B) nums_sim2 nums_bk _ h
  obtain ⟨a1, a2⟩ := bl_of (B := B) long_sim2 long_bk _ b1
  refine ⟨a1, fun hs => ?_⟩
  obtain ⟨a3, a4⟩ := a2 hs
  obtain ⟨b3, b4⟩ := b2 a3
  refine ⟨b3, ?_⟩
  have := num_one (n := (longT B s).1)
  have e : (numB (if (decide ((longT B s).1 = 1)) = true then (1 : Int) else 0)).length = 1 := by split <;> (unfold numB; rw [putL_small (by decide)]; rfl)
  unfold tyB
  simp only [List.length_append]
  omega
theorem while_bl {α : Type} {dec : RS → α × RS} {enc : α → List Nat} (hd : Bl B dec enc) : ∀ (n : Nat) (s : RS) (acc : List α), (whileT dec n s acc).2.bad = false → s.bad = false ∧
    ∃ l, (whileT dec n s acc).1 = acc ++ l ∧ l.length = n ∧ (s.pos ≤ B.length → (whileT dec n s acc).2.pos ≤ B.length ∧ (l.flatMap enc).length + s.pos ≤ (whileT dec n s acc).2.pos)
  | 0, s, acc, h => ⟨h, [], by simp [whileT], rfl, fun hs => ⟨hs, by simp [whileT]⟩⟩
  | n + 1, s, acc, h => by
    rw [whileT] at h ⊢
    cases hb : s.bad with
    | true => rw [hb, if_pos rfl] at h; rw [hb] at h; cases h
    | false =>
      rw [hb, if_neg (by decide)] at h
      rw [if_neg (by decide)]
      obtain ⟨b1, l, b2, b3, b4⟩ := while_bl hd n _ _ h
      obtain ⟨c1, c2⟩ := hd s b1
      refine ⟨rfl, (dec s).1 :: l, by rw [b2]; simp, by simp [b3], fun hs => ?_⟩
      obtain ⟨d1, d2⟩ := c2 hs
      obtain ⟨e1, e2⟩ := b4 d1
      refine ⟨e1, ?_⟩
      rw [List.flatMap_cons, List.length_append]; omega
theorem some_bl {α : Type} {dec : RS → α × RS} {enc : α → List Nat} (hd : Bl B dec enc) : Bl B (someT B dec) (manyB enc) := fun s h => by
  unfold someT at h ⊢
  obtain ⟨a1, l, a2, a3, a4⟩ := while_bl hd _ _ _ h
  obtain ⟨s1, s2⟩ := count_sim2 (B := B) a1
  refine ⟨s1, fun hs => ?_⟩
  have hb : (countR B s).2.bad = false := by rw [s2]; exact a1
  obtain ⟨c1, c2, c3⟩ := count_bk hs hb
  rw [s2] at c2 c3
  have c4 := congrArg List.length c3
  simp only [List.length_append, List.length_drop] at c4
  have hf := countT_facts B s hs
  obtain ⟨d1, d2⟩ := a4 (by omega)
  refine ⟨d1, ?_⟩
  unfold manyB
  rw [a2, List.nil_append, a3, List.length_append]; omega
theorem image_le (lt : ∀ d ∈ B, d < 256) (hB : 4 ≤ B.length) (h : (imageT B).2.bad = false) : (bytesI (imageT B).1).length ≤ B.length := by
  unfold imageT at h
  simp only at h
  obtain ⟨g1, g2⟩ := bl_of (B := B) long_sim2 long_bk _ h
  obtain ⟨f1, f2⟩ := bl_of (B := B) long_sim2 long_bk _ g1
  obtain ⟨e1, e2⟩ := some_bl (B := B) (bl_of function_sim2 fn_bk) _ f1
  obtain ⟨d1, d2⟩ := some_bl (B := B) (bl_of text_sim2 (text_bk lt)) _ e1
  obtain ⟨c1, c2⟩ := some_bl (B := B) (bl_of text_sim2 (text_bk lt)) _ d1
  obtain ⟨b1, b2⟩ := some_bl (B := B) (bl_of shape_sim2 (shp_bk lt)) _ c1
  obtain ⟨a1, a2⟩ := some_bl (B := B) kind_bl _ b1
  obtain ⟨a3, a4⟩ := a2 hB
  obtain ⟨b3, b4⟩ := b2 a3
  obtain ⟨c3, c4⟩ := c2 b3
  obtain ⟨d3, d4⟩ := d2 c3
  obtain ⟨e3, e4⟩ := e2 d3
  obtain ⟨f3, f4⟩ := f2 e3
  obtain ⟨g3, g4⟩ := g2 f3
  unfold imageT bytesI
  simp only [List.length_append]
  have : headB.length = 4 := rfl
  simp only at a4
  omega
end Go.Proofs.YtdljelicbnjfjaaGreat.X
set_option linter.unusedVariables false
set_option linter.unusedSimpArgs false
set_option maxRecDepth 20000
namespace Go.Proofs.YtdljelicbnjfjaaGreat.X
open Go Go.RowKit
theorem whileT_len {α : Type} {dec : RS → α × RS} : ∀ (n : Nat) (s : RS) (acc : List α), (whileT dec n s acc).1.length ≤ acc.length + n
  | 0, s, acc => Nat.le_refl _
  | n + 1, s, acc => by
    rw [whileT]; split
    · simp
    · have := whileT_len (dec := dec) n (dec s).2 (acc ++ [(dec s).1])
      simp at this; omega
section
variable {rb : Nat} {B : List Nat}
theorem fn_ok {f : Fn} {h : H} {vb : AV} {n : Nat} (h1 : rgs f.params) (h2 : rg f.result) (h3 : rg f.slots) (h4 : f.blocks.length ≤ n) (hn : n ≤ 4294967296) (r : RowOf h 2 (relBl h) vb f.blocks) : f.ok := by
  have : 4294967296 ≤ reachBytes := by decide
  exact ⟨h1, h2, h3, by omega, r.both.2⟩
theorem teachFn : EachT rb B 48 4 (functionT B) relFn := by
  intro h vB s r K hK
  refine run48 ?_
  unfold sh48
  refine box_r rfl fun p hp => ?_
  have fp : Fr [] h (h.set p (.live [.nilsl, .int .i64 0, .int .i64 0, .nilsl] 39 true)) := (Fr.refl _ _).set' hp
  have gp : (h.set p (.live [.nilsl, .int .i64 0, .int .i64 0, .nilsl] 39 true)).get p = some (.live [.nilsl, .int .i64 0, .int .i64 0, .nilsl] 39 true) := H.get_same ..
  have hpr := r.ne hp
  have r1 := r.keep fp
  generalize h.set p (.live [.nilsl, .int .i64 0, .int .i64 0, .nilsl] 39 true) = h1 at *
  refine tnums_c r1 fun vp h2 f2 r2 rvp okp => ?_
  have gp2 := f2 p _ (by simpa using hpr) gp
  rw [show fillV [AV.nilsl, .int .i64 0, .int .i64 0, .nilsl] [(0, 1, vp)] = some [vp, .int .i64 0, .int .i64 0, .nilsl] by simp [fillV, rvp.one.2, leaves, rvp.one.1, overlay], buildA_s, valA_some]
  refine box_r rfl fun d hd => ?_
  have hdr := r2.ne hd
  have q1 := r2.box hd (cs := [.nilsl, .int .i64 0, .int .i64 0, .nilsl]) (e := 39)
  generalize h2.set d (.live [.nilsl, .int .i64 0, .int .i64 0, .nilsl] 39 true) = h3 at *
  rw [show stA h3 4 (.ptr d 0) (.agg [vp, .int .i64 0, .int .i64 0, .nilsl]) = _ from agg_st (n := 4) q1.gd rfl rfl (by simp only [leaves, rvp.one.1]; rfl), memA_some]
  have q2 := q1.put r2 (cs'' := [vp, .int .i64 0, .int .i64 0, .nilsl]) rfl
  have e1 : ∀ k, h1.get k ≠ none → h3.get k ≠ none := fun k hk => q1.a0 k (alive_of f2 (by rw [r2.g]; simp) k hk)
  have al : ∀ k, h.get k ≠ none → h3.get k ≠ none := fun k hk => e1 k (fr_alive fp k hk)
  have p3 : h3.get p ≠ none := e1 p (by rw [gp]; simp)
  have f02 : Fr [rb] h h2 := fp.more.trans f2
  generalize h3.set d _ = h3' at *
  have w1 := longT_facts B _ q2.r.pos
  refine tnum_c q2.r fun h4 f4 r4 => ?_
  refine (q2.call hdr f4 r4).st r2 (cs' := [vp, .int .i64 (longT B (numsT B s).2).1, .int .i64 0, .nilsl]) rfl (by simp) rfl rfl fun h5 g5 q5 => ?_
  have w2 := longT_facts B _ q5.r.pos
  refine tnum_c q5.r fun h6 f6 r6 => ?_
  refine (q5.call hdr f6 r6).st r2 (cs' := [vp, .int .i64 (longT B (numsT B s).2).1, .int .i64 (longT B (longT B (numsT B s).2).2).1, .nilsl]) rfl (by simp) rfl rfl fun h7 g7 q7 => ?_
  unfold functionT at hK
  simp only at hK
  generalize longT B (longT B (numsT B s).2).2 = sl at *
  generalize longT B (numsT B s).2 = re at *
  generalize numsT B s = pa at *
  have wc := countT_facts B _ q7.r.pos
  refine tcount_c q7.r fun h8 f8 r8 => ?_
  have q8 := q7.call hdr f8 r8
  unfold someT at hK
  generalize countT B sl.2 = cn at *
  obtain ⟨n, t⟩ := cn
  simp only at hK q8 wc
  have hlen := r.len
  have hn : n ≤ 4294967296 := by omega
  refine join_r (fun (J : H → Prop) => ∀ v h', TdD h2 h3 h' rb d vB B (whileT (blockT B) n t []).2 [vp, .int .i64 re.1, .int .i64 sl.1, v] 39 → RowOf (H.new h3 h') 2 (relBl (H.new h3 h')) v (whileT (blockT B) n t []).1 → J h') ?_ fun J hJ => ?_
  · intro v h9 q9 rw_
    have hl : leaves [vp, AV.int .i64 re.1, .int .i64 sl.1, v] = true := by simp only [leaves, rvp.one.1, rw_.one.1]; rfl
    have gp9 := q9.f p _ (by simpa using hpr) gp2
    rw [ldA_read (q9.read (n := 4) rfl), valA_some, agg_st (n := 4) gp9 rfl rfl hl, memA_some, ldA_read (H.read_eq (n := 4) (H.get_same ..) (by simp) rfl), valA_some]
    have F : Fr [rb] h (h9.set p (.live [vp, AV.int .i64 re.1, .int .i64 sl.1, v] 39 true)) := (f02.trans q9.f).set' hp
    have R := r.re F (s' := (whileT (blockT B) n t []).2) (by rw [H.get_other _ _ hpr.symm]; exact q9.r.g) q9.r.pos
    have G := new_res (h5 := h9) (o := .live [vp, AV.int .i64 re.1, .int .i64 sl.1, v] 39 true) al p3
    have rvp9 : Row (H.new h (h9.set p (.live [vp, AV.int .i64 re.1, .int .i64 sl.1, v] 39 true))) vp pa.1.length 1 (ic pa.1) := rvp.fr (only_fr fun k o q x => by
      have hkp : k ≠ p := fun z => by rw [z, gp] at q; cases q
      have hkr : k ≠ rb := fun z => by rw [z, r1.g] at q; cases q
      refine ⟨Classical.byContradiction fun z => fr_alive fp k z q, ?_⟩
      rw [H.get_other _ _ hkp]
      exact q9.f k o (by simpa using hkr) x)
    have hlw := whileT_len (dec := blockT B) n t []
    have r9 := RowOf.up (R := relBl) relBl_mono rw_ G
    exact hK _ _ F R ⟨⟨vp, v, rfl, rvp9, r9.both.1⟩, fn_ok okp w1.1 w2.1 (by simpa using hlw) hn r9⟩ rfl
  refine floop_r (E := 79) (ty := 42) (esz := 2) (bytes := 48) (off := 3) (e := 39) (n := n) (t := t) (dec := blockT B) (Rel := relBl) relBl_mono (fun r => r.1.leaves) (by decide) (by decide) hn (by decide) (by decide) r2 q8 rfl (by simp) (fun v h' f' q' rr => hJ v h' q' (RowOf.up (R := relBl) relBl_mono rr (q8.val (Fr.refl _ _)))) ?_
  intro N i s2 v h9 hi q9 AP
  refine join_r (fun (J33 : H → Prop) => ∀ h', (valA (binOp .add .num (.int .i64 i) (.int .i64 1)) h' fun t31 h => N [t31] h) → J33 h') (fun h' x => x) fun J33 hJ33 => ?_
  refine tnums_c q9.r fun vi h10 f10 r10 rvi oki => ?_
  rw [show fillV [AV.nilsl, .nilsl] [(0, 1, vi)] = some [vi, .nilsl] by simp [fillV, rvi.one.2, leaves, rvi.one.1, overlay], buildA_s, valA_some]
  refine box_r rfl fun b hb => ?_
  have hbr := r10.ne hb
  have m1 := r10.box hb (cs := [.nilsl, .nilsl]) (e := 42)
  generalize h10.set b (.live [.nilsl, .nilsl] 42 true) = h11 at *
  rw [show stA h11 2 (.ptr b 0) (.agg [vi, .nilsl]) = _ from agg_st (n := 2) m1.gd rfl rfl (by simp only [leaves, rvi.one.1]; rfl), memA_some]
  have m2 := m1.put r10 (cs'' := [vi, .nilsl]) rfl
  generalize h11.set b _ = h12 at *
  have wk := countT_facts B _ m2.r.pos
  refine tcount_c m2.r fun h13 f13 r13 => ?_
  have m3 := m2.call hbr f13 r13
  have eb : blockT B s2 = blockT B s2 := rfl
  conv at eb => rhs; unfold blockT someT
  simp only at eb
  generalize numsT B s2 = inn at *
  generalize countT B inn.2 = cn at *
  obtain ⟨k, t'⟩ := cn
  simp only at m3 wk eb
  have hk : k ≤ 4294967296 := by omega
  refine join_r (fun (J54 : H → Prop) => ∀ vc h', TdD h10 h11 h' rb b vB B (whileT (instrT B) k t' []).2 [vi, vc] 42 → RowOf (H.new h11 h') 9 (relIn (H.new h11 h')) vc (whileT (instrT B) k t' []).1 → J54 h') ?_ fun J54 hJ54 => ?_
  · intro vc h14 q14 rc
    have gd14 := q14.f d _ (by simpa using hdr) (f10 d _ (by simpa using hdr) q9.gd)
    refine fld_r (v := v) (by rw [cell_of gd14]; rfl) ?_
    rw [ldA_read (q14.read (n := 2) rfl), valA_some, show fillV [AV.nilsl, .nilsl] [(0, 2, .agg [vi, vc])] = some [vi, vc] from fill_agg rfl rfl (by simp only [leaves, rvi.one.1, rc.one.1]; rfl)]
    have a9 : ∀ k, h9.get k ≠ none → h11.get k ≠ none := fun k hk => m1.a0 k (alive_of f10 (by rw [r10.g]; simp) k hk)
    have G : Fr [] (H.new h11 h14) (H.new h9 h14) := new_mono (S := []) (Fr.refl _ _) (by simp) a9
    have rc9 := RowOf.up (R := relIn) relIn_mono rc G
    have rvi9 : Row (H.new h9 h14) vi inn.1.length 1 (ic inn.1) := rvi.fr (only_fr fun k o q x => ⟨q, q14.f k o (by simp; intro z; rw [z, q9.r.g] at q; cases q) x⟩)
    have hlw := whileT_len (dec := instrT B) k t' []
    have big : 4294967296 ≤ reachBytes := by decide
    refine AP h14 [vi, vc] J33 hJ33 (f10.trans q14.f) (by rw [eb]; exact q14.r) ?_ rfl
    rw [eb]
    exact ⟨⟨vi, vc, rfl, rvi9, rc9.both.1⟩, oki, by simp at hlw; show (whileT (instrT B) k t' []).1.length ≤ _; omega, rc9.both.2⟩
  refine floop_r (E := 79) (ty := 55) (esz := 9) (bytes := 120) (off := 1) (e := 42) (n := k) (t := t') (dec := instrT B) (Rel := relIn) relIn_mono (fun r => r.1.leaves) (by decide) (by decide) hk (by decide) (by decide) r10 m3 rfl (by simp) (fun v h' f' q' rr => hJ54 v h' q' (RowOf.up (R := relIn) relIn_mono rr (m3.val (Fr.refl _ _)))) ?_
  intro N' i' s3 v' h15 hi' q15 AP'
  refine fld_r (v := v') (by rw [q15.cell]; rfl) ?_
  refine teachIn h15 vB s3 q15.r _ fun h16 c f16 r16 rl hc => ?_
  have gb16 := f16 b _ (by simpa using hbr) q15.gd
  rw [show (valA (ldA h16 none (.ptr b 1)) h16 fun w _ => w = v') = True by rw [ldA_n, cell_of gb16]; exact eq_true rfl, againK_t]
  rw [show fillV [AV.int .i64 0, .int .i64 0, .int .i64 0, .int .i64 0, .int .i64 0, .int .i64 0, .nilsl, .nilsl, .nilsl] [(0, 9, .agg c)] = some c from fill_agg rfl hc rl.1.leaves]
  exact AP' h16 c _ (fun _ x => x) f16 r16 rl hc
end
end Go.Proofs.YtdljelicbnjfjaaGreat.X
set_option linter.unusedVariables false
set_option linter.unusedSimpArgs false
set_option maxRecDepth 20000
namespace Go.Proofs.YtdljelicbnjfjaaGreat.X
open Go Go.RowKit
section
variable {h h1 hi : H} {rb d : Nat} {vB : AV} {B : List Nat} {s0 t : RS} {n : Nat} {cs : List AV}
theorem tys_f {off : Nat} {J : H → Prop} (hn : n ≤ 4294967296) (r0 : Td h rb vB B s0) (q0 : TdD h h1 hi rb d vB B t cs 28) (hcs : cs.set off .nilsl = cs) (ho : off < cs.length)
    (hJ : ∀ v h', Fr [rb, d] hi h' → TdD h h1 h' rb d vB B (whileT (kindT B) n t []).2 (cs.set off v) 28 → RowOf (H.new h1 h') 2 (relTy (H.new h1 h')) v (whileT (kindT B) n t []).1 → J h') :
    loopA (fun N l h => argA l 0 fun i7 =>
      valA (binOp .lss .num i7 (.int .i64 n)) h fun t25 h =>
      whenA t25 true (fun K => K (.ptr rb 0) h) h fun t27 h =>
      whenA t25 true (fun K => valA (nilcA t27) h K) h fun t28 h =>
      whenA t25 true (fun K => valA (faA 2 t28) h K) h fun t29 h =>
      whenA t25 true (fun K => valA (ldA h none t29) h K) h fun t30 h =>
      whenA t25 true (fun K => valA (unOp .not t30) h K) h fun t31 h =>
      valA (pickA t25 t31 (.bool false)) h fun t32 h =>
      condA t32
       (valA (faA off (.ptr d 0)) h fun t35 h =>
      valA (ldA h none t35) h fun t36 h =>
      C 45 [.ptr rb 0] h fun t38 h =>
      againK (valA (ldA h none t35) h (fun v _ => v = t36)) <|
      valA (binOp .eql .num t38 (.int .i64 1)) h fun t39 h =>
      C 46 [.ptr rb 0] h fun t41 h =>
      againK (valA (ldA h none t35) h (fun v _ => v = t36)) <|
      valA (buildA (fillV [(.bool false), .nilsl] [(0, 1, t39), (1, 1, t41)])) h fun t42 h =>
      mkslA h 46 1 (fillV [(.bool false), .nilsl] [(0, 2, t42)]) fun t43 h =>
      appendA h 46 2 32 t36 t43 fun t44 h =>
      valA (faA off (.ptr d 0)) h fun t45 h =>
      memA (stA h 1 t45 t44) .undef fun _ h =>
      valA (binOp .add .num i7 (.int .i64 1)) h fun t34 h =>
      N [t34] h)
       (J h)) [(.int .i64 0)] hi := by
  have hdr : d ≠ rb := r0.ne q0.hd
  refine floop_r (E := 79) (ty := 46) (esz := 2) (bytes := 32) (off := off) (e := 28) (n := n) (t := t) (dec := kindT B) (Rel := relTy) relTy_mono (fun r => r.1.leaves) (by decide) (by decide) hn (by decide) (by decide) r0 q0 hcs ho (fun v h' f' q' rr => hJ v h' f' q' (RowOf.up (R := relTy) relTy_mono rr (q0.val (Fr.refl _ _)))) ?_
  intro N i s2 v h2 hi q2 AP
  have cell2 : ∀ {h'}, Fr [rb] h2 h' → h'.cell d off = some v := fun f => by
    rw [cell_of (f d _ (by simpa using hdr) q2.gd), List.getElem?_set_self ho]
  refine fld_r (v := v) (cell2 (Fr.refl _ _)) ?_
  refine tnum_c q2.r fun h3 f3 r3 => ?_
  rw [show (valA (ldA h3 none (.ptr d (0 + off))) h3 fun w _ => w = v) = True by rw [ldA_n, Nat.zero_add, cell2 f3]; exact eq_true rfl, againK_t, b_eql, valA_some]
  refine tnums_c r3 fun w h4 f4 r4 rw_ ok => ?_
  have f24 := f3.trans f4
  rw [show (valA (ldA h4 none (.ptr d (0 + off))) h4 fun w _ => w = v) = True by rw [ldA_n, Nat.zero_add, cell2 f24]; exact eq_true rfl, againK_t]
  rw [fill2 rfl rfl rw_.one.1 rw_.one.2, buildA_s, valA_some, show fillV [AV.bool false, .nilsl] [(0, 2, .agg [.bool (decide ((longT B s2).1 = 1)), w])] = some [.bool (decide ((longT B s2).1 = 1)), w] from fill_agg rfl rfl (by simp only [leaves, rw_.one.1]; rfl)]
  refine AP h4 [.bool (decide ((longT B s2).1 = 1)), w] _ (fun _ x => x) f24 r4 ⟨⟨w, rfl, rw_.fr (new_mono (S := []) (Fr.refl _ _) (by simp) fun k hk => alive_of f3 (by rw [r3.g]; simp) k hk)⟩, ok⟩ rfl
theorem shps_f {off : Nat} {J : H → Prop} (hn : n ≤ 4294967296) (r0 : Td h rb vB B s0) (q0 : TdD h h1 hi rb d vB B t cs 28) (hcs : cs.set off .nilsl = cs) (ho : off < cs.length)
    (hJ : ∀ v h', Fr [rb, d] hi h' → TdD h h1 h' rb d vB B (whileT (shapeT B) n t []).2 (cs.set off v) 28 → RowOf (H.new h1 h') 3 (relSh (H.new h1 h')) v (whileT (shapeT B) n t []).1 → J h') :
    loopA (fun N l h => argA l 0 fun i8 =>
      valA (binOp .lss .num i8 (.int .i64 n)) h fun t25 h =>
      whenA t25 true (fun K => K (.ptr rb 0) h) h fun t27 h =>
      whenA t25 true (fun K => valA (nilcA t27) h K) h fun t28 h =>
      whenA t25 true (fun K => valA (faA 2 t28) h K) h fun t29 h =>
      whenA t25 true (fun K => valA (ldA h none t29) h K) h fun t30 h =>
      whenA t25 true (fun K => valA (unOp .not t30) h K) h fun t31 h =>
      valA (pickA t25 t31 (.bool false)) h fun t32 h =>
      condA t32
       (C 45 [.ptr rb 0] h fun t61 h =>
       valA (buildA (fillV [(.int .i64 0), .nilsl, (.str [])] [(0, 1, t61)])) h fun t62 h =>
       boxA h [(.int .i64 0), .nilsl, (.str [])] 61 fun s9 h =>
       memA (stA h 3 s9 t62) .undef fun _ h =>
       C 46 [.ptr rb 0] h fun t64 h =>
       valA (faA 1 s9) h fun t65 h =>
       memA (stA h 1 t65 t64) .undef fun _ h =>
       C 47 [.ptr rb 0] h fun t67 h =>
       valA (faA 2 s9) h fun t68 h =>
       memA (stA h 1 t68 t67) .undef fun _ h =>
       valA (faA off (.ptr d 0)) h fun t69 h =>
       valA (ldA h none t69) h fun t70 h =>
       valA (ldA h (some 3) s9) h fun t71 h =>
       mkslA h 61 1 (fillV [(.int .i64 0), .nilsl, (.str [])] [(0, 3, t71)]) fun t72 h =>
       appendA h 61 3 48 t70 t72 fun t73 h =>
       valA (faA off (.ptr d 0)) h fun t74 h =>
       memA (stA h 1 t74 t73) .undef fun _ h =>
       valA (binOp .add .num i8 (.int .i64 1)) h fun t59 h =>
       N [t59] h)
       (J h)) [(.int .i64 0)] hi := by
  have hdr : d ≠ rb := r0.ne q0.hd
  refine floop_r (E := 79) (ty := 61) (esz := 3) (bytes := 48) (off := off) (e := 28) (n := n) (t := t) (dec := shapeT B) (Rel := relSh) relSh_mono (fun r => r.1.leaves) (by decide) (by decide) hn (by decide) (by decide) r0 q0 hcs ho (fun v h' f' q' rr => hJ v h' f' q' (RowOf.up (R := relSh) relSh_mono rr (q0.val (Fr.refl _ _)))) ?_
  intro N i s2 v h2 hi q2 AP
  have cell2 : ∀ {h'}, Fr [rb] h2 h' → h'.cell d off = some v := fun f => by
    rw [cell_of (f d _ (by simpa using hdr) q2.gd), List.getElem?_set_self ho]
  have w1 := longT_facts B _ q2.r.pos
  refine tnum_c q2.r fun h3 f3 r3 => ?_
  rw [show buildA (fillV [AV.int .i64 0, .nilsl, .str []] [(0, 1, .int .i64 (longT B s2).1)]) = some (.agg [.int .i64 (longT B s2).1, .nilsl, .str []]) from rfl, valA_some]
  refine box_r rfl fun b hb => ?_
  have hbr := r3.ne hb
  have m1 := r3.box hb (cs := [.int .i64 0, .nilsl, .str []]) (e := 61)
  generalize h3.set b (.live [.int .i64 0, .nilsl, .str []] 61 true) = h4 at *
  rw [show stA h4 3 (.ptr b 0) (.agg [.int .i64 (longT B s2).1, .nilsl, .str []]) = _ from agg_st (n := 3) m1.gd rfl rfl rfl, memA_some]
  have m2 := m1.put r3 (cs'' := [.int .i64 (longT B s2).1, .nilsl, .str []]) rfl
  generalize h4.set b _ = h5 at *
  refine tnums_c m2.r fun w h6 f6 r6 rw_ ok => ?_
  refine (m2.call hbr f6 r6).st r3 (cs' := [.int .i64 (longT B s2).1, w, .str []]) rfl (by simp) rw_.one.1 rw_.one.2 fun h7 g7 q7 => ?_
  refine ttext_c q7.r fun h8 f8 r8 => ?_
  refine (q7.call hbr f8 r8).st r3 (v := .str (textT B (numsT B (longT B s2).2).2).1) (cs' := [.int .i64 (longT B s2).1, w, .str (textT B (numsT B (longT B s2).2).2).1]) rfl (by simp) rfl rfl fun h9 g9 q9 => ?_
  have f29 := f3.trans q9.f
  refine fld_r (v := v) (cell2 f29) ?_
  have g69 : Fr [rb, b] h6 h9 := (g7.trans f8.rd).trans g9
  rw [ldA_read (q9.read (n := 3) rfl), valA_some, show fillV [AV.int .i64 0, .nilsl, .str []] [(0, 3, .agg [.int .i64 (longT B s2).1, w, .str (textT B (numsT B (longT B s2).2).2).1])] = some [.int .i64 (longT B s2).1, w, .str (textT B (numsT B (longT B s2).2).2).1] from fill_agg rfl rfl (by simp only [leaves, rw_.one.1]; rfl)]
  have F := (m2.val g69).trans (new_mono (S := []) (Fr.refl [] h9) (by simp) fun k hk => m1.a0 k (alive_of f3 (by rw [r3.g]; simp) k hk))
  have hl := r0.len
  have big : 4294967296 ≤ reachBytes := by decide
  refine AP h9 _ _ (fun _ x => x) f29 q9.r ⟨⟨w, rfl, rw_.fr F⟩, w1.1, ok, ?_⟩ rfl
  show (textT B _).1.length ≤ _
  unfold textT
  simp only [List.length_map, List.length_take, List.length_drop]
  omega
theorem strs_f {off : Nat} {J : H → Prop} (hn : n ≤ 4294967296) (r0 : Td h rb vB B s0) (q0 : TdD h h1 hi rb d vB B t cs 28) (hcs : cs.set off .nilsl = cs) (ho : off < cs.length)
    (hJ : ∀ v h', Fr [rb, d] hi h' → TdD h h1 h' rb d vB B (whileT (textT B) n t []).2 (cs.set off v) 28 → RowOf (H.new h1 h') 1 (relS (H.new h1 h')) v (whileT (textT B) n t []).1 → J h') :
    loopA (fun N l h => argA l 0 fun i10 =>
      valA (binOp .lss .num i10 (.int .i64 n)) h fun t25 h =>
      whenA t25 true (fun K => K (.ptr rb 0) h) h fun t27 h =>
      whenA t25 true (fun K => valA (nilcA t27) h K) h fun t28 h =>
      whenA t25 true (fun K => valA (faA 2 t28) h K) h fun t29 h =>
      whenA t25 true (fun K => valA (ldA h none t29) h K) h fun t30 h =>
      whenA t25 true (fun K => valA (unOp .not t30) h K) h fun t31 h =>
      valA (pickA t25 t31 (.bool false)) h fun t32 h =>
      condA t32
       (valA (faA off (.ptr d 0)) h fun t89 h =>
       valA (ldA h none t89) h fun t90 h =>
       C 47 [.ptr rb 0] h fun t92 h =>
       againK (valA (ldA h none t89) h (fun v _ => v = t90)) <|
       mkslA h 9 1 (fillV [(.str [])] [(0, 1, t92)]) fun t93 h =>
       appendA h 9 1 16 t90 t93 fun t94 h =>
       valA (faA off (.ptr d 0)) h fun t95 h =>
       memA (stA h 1 t95 t94) .undef fun _ h =>
       valA (binOp .add .num i10 (.int .i64 1)) h fun t88 h =>
       N [t88] h)
       (J h)) [(.int .i64 0)] hi := by
  have hdr : d ≠ rb := r0.ne q0.hd
  refine floop_r (E := 79) (ty := 9) (esz := 1) (bytes := 16) (off := off) (e := 28) (n := n) (t := t) (dec := textT B) (Rel := relS) relS_mono (fun r => (relS_leaf r).1) (by decide) (by decide) hn (by decide) (by decide) r0 q0 hcs ho (fun v h' f' q' rr => hJ v h' f' q' (RowOf.up (R := relS) relS_mono rr (q0.val (Fr.refl _ _)))) ?_
  intro N i s2 v h2 hi q2 AP
  have cell2 : ∀ {h'}, Fr [rb] h2 h' → h'.cell d off = some v := fun f => by
    rw [cell_of (f d _ (by simpa using hdr) q2.gd), List.getElem?_set_self ho]
  refine fld_r (v := v) (cell2 (Fr.refl _ _)) ?_
  refine ttext_c q2.r fun h3 f3 r3 => ?_
  rw [show (valA (ldA h3 none (.ptr d (0 + off))) h3 fun w _ => w = v) = True by rw [ldA_n, Nat.zero_add, cell2 f3]; exact eq_true rfl, againK_t]
  rw [fill1 (v := .str (textT B s2).1) rfl rfl]
  have hl := r0.len
  have big : 4294967296 ≤ reachBytes := by decide
  refine AP h3 _ _ (fun _ x => x) f3 r3 ⟨rfl, ?_⟩ rfl
  unfold textT
  simp only [List.length_map, List.length_take, List.length_drop]
  omega
theorem fns_f {off : Nat} {J : H → Prop} (hn : n ≤ 4294967296) (r0 : Td h rb vB B s0) (q0 : TdD h h1 hi rb d vB B t cs 28) (hcs : cs.set off .nilsl = cs) (ho : off < cs.length)
    (hJ : ∀ v h', Fr [rb, d] hi h' → TdD h h1 h' rb d vB B (whileT (functionT B) n t []).2 (cs.set off v) 28 → RowOf (H.new h1 h') 4 (relFn (H.new h1 h')) v (whileT (functionT B) n t []).1 → J h') :
    loopA (fun N l h => argA l 0 fun i12 =>
      valA (binOp .lss .num i12 (.int .i64 n)) h fun t25 h =>
      whenA t25 true (fun K => K (.ptr rb 0) h) h fun t27 h =>
      whenA t25 true (fun K => valA (nilcA t27) h K) h fun t28 h =>
      whenA t25 true (fun K => valA (faA 2 t28) h K) h fun t29 h =>
      whenA t25 true (fun K => valA (ldA h none t29) h K) h fun t30 h =>
      whenA t25 true (fun K => valA (unOp .not t30) h K) h fun t31 h =>
      valA (pickA t25 t31 (.bool false)) h fun t32 h =>
      condA t32
       (valA (faA off (.ptr d 0)) h fun t131 h =>
      valA (ldA h none t131) h fun t132 h =>
      C 48 [.ptr rb 0] h fun t134 h =>
      againK (valA (ldA h none t131) h (fun v _ => v = t132)) <|
      mkslA h 39 1 (fillV [.nilsl, (.int .i64 0), (.int .i64 0), .nilsl] [(0, 4, t134)]) fun t135 h =>
      appendA h 39 4 64 t132 t135 fun t136 h =>
      valA (faA off (.ptr d 0)) h fun t137 h =>
      memA (stA h 1 t137 t136) .undef fun _ h =>
      valA (binOp .add .num i12 (.int .i64 1)) h fun t130 h =>
      N [t130] h)
       (J h)) [(.int .i64 0)] hi := by
  have hdr : d ≠ rb := r0.ne q0.hd
  refine floop_r (E := 79) (ty := 39) (esz := 4) (bytes := 64) (off := off) (e := 28) (n := n) (t := t) (dec := functionT B) (Rel := relFn) relFn_mono (fun r => r.1.leaves) (by decide) (by decide) hn (by decide) (by decide) r0 q0 hcs ho (fun v h' f' q' rr => hJ v h' f' q' (RowOf.up (R := relFn) relFn_mono rr (q0.val (Fr.refl _ _)))) ?_
  intro N i s2 v h2 hi q2 AP
  have cell2 : ∀ {h'}, Fr [rb] h2 h' → h'.cell d off = some v := fun f => by
    rw [cell_of (f d _ (by simpa using hdr) q2.gd), List.getElem?_set_self ho]
  refine fld_r (v := v) (cell2 (Fr.refl _ _)) ?_
  refine teachFn h2 vB s2 q2.r _ fun h3 c f3 r3 rl hc => ?_
  rw [show (valA (ldA h3 none (.ptr d (0 + off))) h3 fun w _ => w = v) = True by rw [ldA_n, Nat.zero_add, cell2 f3]; exact eq_true rfl, againK_t]
  rw [show fillV [AV.nilsl, .int .i64 0, .int .i64 0, .nilsl] [(0, 4, .agg c)] = some c from fill_agg rfl hc rl.1.leaves]
  exact AP h3 c _ (fun _ x => x) f3 r3 rl hc
end
end Go.Proofs.YtdljelicbnjfjaaGreat.X
