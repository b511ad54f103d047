/- What the law law4 needs: texts of one's own, put together; functions' contracts and plain facts. -/
import Derived.Test.YtdljelicbnjfjaaGreatT4E
set_option linter.unusedVariables false
set_option linter.unusedSimpArgs false
set_option maxRecDepth 20000
namespace Go.Proofs.YtdljelicbnjfjaaGreat.X
open Go Go.RowKit
/-- Is it the same? -/
noncomputable def eqB {α : Type} (a b : α) : Bool := open Classical in decide (a = b)
theorem eqB_t {α : Type} {a b : α} (h : a = b) : eqB a b = true := by unfold eqB; simp [h]
theorem eqB_f {α : Type} {a b : α} (h : a ≠ b) : eqB a b = false := by unfold eqB; simp [h]
theorem eqB_iff {α : Type} {a b : α} : eqB a b = true ↔ a = b := by unfold eqB; simp
theorem eqB_self {α : Type} (a : α) : eqB a a = true := eqB_t rfl
theorem eqB_dec {α : Type} [DecidableEq α] (a b : α) : decide (a = b) = eqB a b := by
  by_cases h : a = b
  · rw [eqB_t h, decide_eq_true h]
  · rw [eqB_f h, decide_eq_false h]
theorem eqB_of {α : Type} {a b : α} {p : Bool} (h : p = true ↔ a = b) : p = eqB a b := by
  by_cases q : a = b
  · rw [eqB_t q]; exact h.2 q
  · rw [eqB_f q]; exact Bool.eq_false_iff.2 fun e => q (h.1 e)
theorem take_diff {α : Type} {l1 l2 : List α} {i : Nat} {x y : α} (h1 : l1[i]? = some x) (h2 : l2[i]? = some y) (h : x ≠ y) : l1 ≠ l2 := by
  rintro rfl
  rw [h1] at h2; injection h2 with h2; exact h h2
theorem take_same {α : Type} {l1 l2 : List α} {i : Nat} {x : α} (h1 : l1[i]? = some x) (h2 : l2[i]? = some x) (h : l1.take i = l2.take i) : l1.take (i + 1) = l2.take (i + 1) := by
  rw [List.take_add_one, List.take_add_one, h1, h2, h]
theorem take_full {α : Type} {l1 l2 : List α} {i : Nat} (hi : ¬ i < l1.length) (hl : l1.length = l2.length) (h : l1.take i = l2.take i) : l1 = l2 := by
  rwa [List.take_of_length_le (by omega), List.take_of_length_le (by omega)] at h
section
variable {h : H}
/-- Two elements are compared by a function E. -/
def EqC {α : Type} (h : H) (E : Nat) (Rel : H → α → List AV → Prop) : Prop := ∀ (h' : H) (x y : α) (c d : List AV), Fr [] h h' → Rel h' x c → Rel h' y d → ∀ K : AV → H → Prop, (∀ h'', Fr [] h' h'' → K (.bool (eqB x y)) h'') → C E [.agg c, .agg d] h' K
theorem eqf_r {α : Type} {esz ty E : Nat} {zs : List AV} {v1 v2 : AV} {l1 l2 : List α} {Rel : H → α → List AV → Prop} (hmono : ∀ {h h' : H} {x c}, Fr [] h h' → Rel h x c → Rel h' x c) (hleaf : ∀ {h : H} {x c}, Rel h x c → leaves c = true) (hz : zs.length = esz) (lz : leaves zs = true)
    (r1 : RowOf h esz (Rel h) v1 l1) (r2 : RowOf h esz (Rel h) v2 l2) (hl : l1.length ≤ reachBytes) (hE : EqC h E Rel) {K : AV → H → Prop} (hK : ∀ h', Fr [] h h' → K (.bool (eqB l1 l2)) h') :
    valA (lenA false v1) h fun t11 h =>
    valA (lenA false v2) h fun t13 h =>
    valA (binOp .neq .num t11 t13) h fun t14 h =>
    condA t14 (K (.bool false) h)
     (joinA (fun (h : H) => K (.bool true) h) fun J =>
     valA (lenA false v1) h fun t16 h =>
     loopA (fun N l h => argA l 0 fun t17 => valA (binOp .lss .num t17 t16) h fun t18 h => condA t18
      (valA (iaA esz v1 t17) h fun t20 h =>
      valA (ldA h (some esz) t20) h fun t21 h =>
      boxA h zs ty fun v18 h =>
      memA (stA h esz v18 t21) .undef fun _ h =>
      valA (iaA esz v2 t17) h fun t24 h =>
      valA (ldA h (some esz) t24) h fun t25 h =>
      boxA h zs ty fun v29 h =>
      memA (stA h esz v29 t25) .undef fun _ h =>
      valA (ldA h (some esz) v18) h fun t27 h =>
      valA (ldA h (some esz) v29) h fun t28 h =>
      callvA C (.fn E [] []) [t27, t28] h fun t29 h =>
      valA (unOp .not t29) h fun t30 h =>
      condA t30 (K (.bool false) h)
       (valA (binOp .add .num t17 (.int .i64 1)) h fun t31 h => N [t31] h)) (J h)) [.int .i64 0] h) := by
  have hr : reachBytes ≤ 4611686018427387903 := by decide
  rw [r1.len, valA_some, r2.len, valA_some, b_neq, valA_some]
  by_cases hll : (l1.length : Int) = l2.length
  · rw [decide_eq_false (by simpa using hll), condA_f]
    have hll' : l1.length = l2.length := by omega
    refine join_r (fun (J : H → Prop) => ∀ h', Fr [] h h' → l1 = l2 → J h') (fun h' f e => by have := hK h' f; rwa [eqB_t e] at this) fun J hJ => ?_
    rw [valA_some]
    refine loop_r (l1.length + 1) (fun k ls h2 => ∃ i : Nat, ls = [.int .i64 i] ∧ i ≤ l1.length ∧ l1.take i = l2.take i ∧ Fr [] h h2 ∧ k = l1.length + 1 - i) ⟨0, rfl, by omega, rfl, Fr.refl _ _, rfl⟩ ?_
    rintro k ls h2 ⟨i, rfl, hi, ha, f, rfl⟩
    by_cases q : (i : Int) < l1.length
    · have hi' : i < l1.length := by omega
      have hi2 : i < l2.length := by omega
      obtain ⟨x, hx⟩ : ∃ x, l1[i]? = some x := ⟨l1[i], by simp [hi']⟩
      obtain ⟨y, hy⟩ : ∃ y, l2[i]? = some y := ⟨l2[i], by simp [hi2]⟩
      obtain ⟨b, o, c, e1, e2, e3, e4, e5⟩ := (r1.mono f fun _ _ _ z => hmono f z).el hx
      have en : IntKind.i64.wrap ((i : Int) + 1) = ((i + 1 : Nat) : Int) := by rw [i64_id (by omega) (by omega)]; rfl
      rw [argA_0, b_lss, valA_some, decide_eq_true q, condA_t, e1, valA_some, ldA_read e4, valA_some]
      refine box_r lz fun d hd => ?_
      rw [copy_st e3 hz (hleaf e2), memA_some]
      have fd : Fr [] h2 (h2.set d (.live c ty true)) := (Fr.refl _ _).set' hd
      have gd : (h2.set d (.live c ty true)).get d = some (.live c ty true) := H.get_same ..
      have e2 := hmono fd e2
      generalize h2.set d (.live c ty true) = h3 at *
      obtain ⟨b', o', c', u1, u2, u3, u4, u5⟩ := (r2.mono (f.trans fd) fun _ _ _ z => hmono (f.trans fd) z).el hy
      rw [u1, valA_some, ldA_read u4, valA_some]
      refine box_r lz fun d' hd' => ?_
      rw [copy_st u3 hz (hleaf u2), memA_some]
      have fd' : Fr [] h3 (h3.set d' (.live c' ty true)) := (Fr.refl _ _).set' hd'
      have gd' : (h3.set d' (.live c' ty true)).get d' = some (.live c' ty true) := H.get_same ..
      have e2 := hmono fd' e2
      have u2 := hmono fd' u2
      have gd := fd' d _ (by simp) gd
      generalize h3.set d' (.live c' ty true) = h4 at *
      rw [ldA_read (H.read_eq gd (by omega) (by rw [List.drop_zero, List.take_of_length_le (by omega)])), valA_some, ldA_read (H.read_eq gd' (by omega) (by rw [List.drop_zero, List.take_of_length_le (by omega)])), valA_some, callvA_f]
      have f4 := (f.trans fd).trans fd'
      refine hE h4 x y c c' f4 e2 u2 _ fun h5 f5 => ?_
      rw [u_not, valA_some]
      by_cases hxy : x = y
      · subst hxy
        rw [eqB_self, show (!true) = false from rfl, condA_f, b_add, en, valA_some]
        exact ⟨l1.length + 1 - (i + 1), by omega, i + 1, rfl, by omega, take_same hx hy ha, f4.trans f5, rfl⟩
      · rw [eqB_f hxy, show (!false) = true from rfl, condA_t]
        have := hK h5 (f4.trans f5)
        rwa [eqB_f (take_diff hx hy hxy)] at this
    · rw [argA_0, b_lss, valA_some, decide_eq_false q, condA_f]
      exact hJ h2 f (take_full (by omega) hll' ha)
  · rw [decide_eq_true (by simpa using hll), condA_t]
    have := hK h (Fr.refl _ _)
    rwa [eqB_f (fun e => hll (by rw [e]))] at this
theorem eq1_r {α : Type} {v1 v2 : AV} {l1 l2 : List α} {val : α → AV} (r1 : Row h v1 l1.length 1 (l1.map val)) (r2 : Row h v2 l2.length 1 (l2.map val)) (hl : l1.length ≤ reachBytes) (hv : ∀ x y, binOp .neq .num (val x) (val y) = some (.bool (!eqB x y))) {K : AV → H → Prop} (hK : K (.bool (eqB l1 l2)) h) :
    valA (lenA false v1) h fun t7 h =>
    valA (lenA false v2) h fun t9 h =>
    valA (binOp .neq .num t7 t9) h fun t10 h =>
    condA t10 (K (.bool false) h)
     (joinA (fun (h : H) => K (.bool true) h) fun J =>
     valA (lenA false v1) h fun t12 h =>
     loopA (fun N l h => argA l 0 fun t13 => valA (binOp .lss .num t13 t12) h fun t14 h => condA t14
      (valA (iaA 1 v1 t13) h fun t18 h =>
      valA (ldA h none t18) h fun t19 h =>
      valA (iaA 1 v2 t13) h fun t22 h =>
      valA (ldA h none t22) h fun t23 h =>
      valA (binOp .neq .num t19 t23) h fun t24 h =>
      condA t24 (K (.bool false) h)
       (valA (binOp .add .num t13 (.int .i64 1)) h fun t25 h => N [t25] h)) (J h)) [.int .i64 0] h) := by
  have hr : reachBytes ≤ 4611686018427387903 := by decide
  rw [r1.len, valA_some, r2.len, valA_some, b_neq, valA_some]
  by_cases hll : (l1.length : Int) = l2.length
  · rw [decide_eq_false (by simpa using hll), condA_f]
    have hll' : l1.length = l2.length := by omega
    refine join_r (fun (J : H → Prop) => l1 = l2 → J h) (fun e => by rwa [eqB_t e] at hK) fun J hJ => ?_
    rw [valA_some]
    refine loop_r (l1.length + 1) (fun k ls h2 => ∃ i : Nat, ls = [.int .i64 i] ∧ i ≤ l1.length ∧ l1.take i = l2.take i ∧ h2 = h ∧ k = l1.length + 1 - i) ⟨0, rfl, by omega, rfl, rfl, rfl⟩ ?_
    rintro k ls h2 ⟨i, rfl, hi, ha, eh, rfl⟩
    rw [eh]
    by_cases q : (i : Int) < l1.length
    · have hi' : i < l1.length := by omega
      have hi2 : i < l2.length := by omega
      obtain ⟨x, hx⟩ : ∃ x, l1[i]? = some x := ⟨l1[i], by simp [hi']⟩
      obtain ⟨y, hy⟩ : ∃ y, l2[i]? = some y := ⟨l2[i], by simp [hi2]⟩
      obtain ⟨b, o, e1, e2⟩ := r1.at (i := i) (x := val x) (by omega) q (by rw [Int.toNat_natCast, List.getElem?_map, hx]; rfl)
      obtain ⟨b', o', u1, u2⟩ := r2.at (i := i) (x := val y) (by omega) (by omega) (by rw [Int.toNat_natCast, List.getElem?_map, hy]; rfl)
      have en : IntKind.i64.wrap ((i : Int) + 1) = ((i + 1 : Nat) : Int) := by rw [i64_id (by omega) (by omega)]; rfl
      rw [argA_0, b_lss, valA_some, decide_eq_true q, condA_t, e1, valA_some, ldA_n, e2, valA_some, u1, valA_some, ldA_n, u2, valA_some, hv, valA_some]
      by_cases hxy : x = y
      · subst hxy
        rw [eqB_self, show (!true) = false from rfl, condA_f, b_add, en, valA_some]
        exact ⟨l1.length + 1 - (i + 1), by omega, i + 1, rfl, by omega, take_same hx hy ha, rfl, rfl⟩
      · rw [eqB_f hxy, show (!false) = true from rfl, condA_t]
        rwa [eqB_f (take_diff hx hy hxy)] at hK
    · rw [argA_0, b_lss, valA_some, decide_eq_false q, condA_f]
      exact hJ (take_full (by omega) hll' ha)
  · rw [decide_eq_true (by simpa using hll), condA_t]
    rwa [eqB_f (fun e => hll (by rw [e]))] at hK
theorem ints_eq {v1 v2 : AV} {l1 l2 : List Int} (r1 : Row h v1 l1.length 1 (ic l1)) (r2 : Row h v2 l2.length 1 (ic l2)) (hl : l1.length ≤ reachBytes) {K : AV → H → Prop} (hK : K (.bool (eqB l1 l2)) h) : C 52 [v1, v2] h K := by
  refine run52 ?_
  unfold sh52
  refine eq1_r (val := fun n => .int .i64 n) r1 r2 hl (fun x y => ?_) hK
  rw [b_neq, ← eqB_dec]; simp
theorem strs_eq {v1 v2 : AV} {l1 l2 : List (List UInt8)} (r1 : Row h v1 l1.length 1 (l1.map AV.str)) (r2 : Row h v2 l2.length 1 (l2.map AV.str)) (hl : l1.length ≤ reachBytes) {K : AV → H → Prop} (hK : K (.bool (eqB l1 l2)) h) : C 55 [v1, v2] h K := by
  refine run55 ?_
  unfold sh55
  refine eq1_r (val := AV.str) r1 r2 hl (fun x y => ?_) hK
  rw [← eqB_dec]; simp only [go_sem, reduceIte, Nat.reduceAdd, Nat.reduceSub, Nat.reduceMul, Nat.reducePow, Nat.reduceLT, Nat.reduceLeDiff, Nat.reduceEqDiff, Int.reduceAdd, Int.reduceSub, Int.reduceMul, Int.reduceNeg, Int.reducePow, Int.reduceLT, Int.reduceLE, Int.reduceEq, Int.reduceNe, Int.reduceToNat, Int.toNat_natCast, Nat.zero_add, Nat.add_zero, Nat.mul_one, Nat.one_mul, Bool.not_true, Bool.not_false, ne_eq, not_true_eq_false, not_false_eq_true, Bool.false_eq_true]; simp
/-- One more field that must be the same. -/
theorem chunkV {p q : Bool} {b d i j : Nat} {v w : AV} (hc : h.cell b i = some v) (hd : h.cell d j = some w) (he : binOp .eql .num v w = some (.bool q)) {K : AV → H → Prop} (hK : K (.bool (p && q)) h) :
    whenA (.bool p) true (fun K => valA (faA i (.ptr b 0)) h K) h fun t11 h =>
    whenA (.bool p) true (fun K => valA (ldA h none t11) h K) h fun t12 h =>
    whenA (.bool p) true (fun K => valA (faA j (.ptr d 0)) h K) h fun t13 h =>
    whenA (.bool p) true (fun K => valA (ldA h none t13) h K) h fun t14 h =>
    whenA (.bool p) true (fun K => valA (binOp .eql .num t12 t14) h K) h fun t15 h =>
    valA (pickA (.bool p) t15 (.bool false)) h K := by
  cases p with
  | true => simp only [whenA_tt, faA_p, valA_some, ldA_n, Nat.zero_add, hc, hd, he, pickA_b, if_true]; exact hK
  | false => simp only [whenA_ft, pickA_b, valA_some]; exact hK
theorem chunkF {p q : Bool} {b d i j F : Nat} {v w : AV} {ar : List AV} (hc : h.cell b i = some v) (hd : h.cell d j = some w) {K : AV → H → Prop} (hX : ∀ K' : AV → H → Prop, (∀ h', Fr [] h h' → K' (.bool q) h') → C F (v :: w :: ar) h K') (hK : ∀ h', Fr [] h h' → K (.bool (p && q)) h') :
    whenA (.bool p) true (fun K => valA (faA i (.ptr b 0)) h K) h fun t11 h =>
    whenA (.bool p) true (fun K => valA (ldA h none t11) h K) h fun t12 h =>
    whenA (.bool p) true (fun K => valA (faA j (.ptr d 0)) h K) h fun t13 h =>
    whenA (.bool p) true (fun K => valA (ldA h none t13) h K) h fun t14 h =>
    whenA (.bool p) true (fun K => C F (t12 :: t14 :: ar) h K) h fun t15 h =>
    valA (pickA (.bool p) t15 (.bool false)) h K := by
  cases p with
  | true =>
    simp only [whenA_tt, faA_p, valA_some, ldA_n, Nat.zero_add, hc, hd]
    refine hX _ fun h' f => ?_
    rw [pickA_b, if_pos rfl, valA_some]; exact hK h' f
  | false => simp only [whenA_ft, pickA_b, valA_some]; exact hK h (Fr.refl _ _)
theorem eqI (x y : Int) : binOp .eql .num (.int .i64 x) (.int .i64 y) = some (.bool (eqB x y)) := by rw [b_eql, eqB_dec]
theorem eqS (x y : List UInt8) : binOp .eql .num (.str x) (.str y) = some (.bool (eqB x y)) := by rw [b_seql, eqB_dec]
/-- Two boxes. -/
theorem two_box {c d : List AV} {ty : Nat} (lc : leaves c = true) (ld : leaves d = true) {K : AV → AV → H → Prop} (hK : ∀ b e h', Fr [] h h' → (∀ h2, Fr [] h' h2 → ∀ o, h2.cell b o = c[o]?) → (∀ h2, Fr [] h' h2 → ∀ o, h2.cell e o = d[o]?) → (∀ h2, Fr [] h' h2 → h2.get b = some (.live c ty true) ∧ h2.get e = some (.live d ty true)) → K (.ptr b 0) (.ptr e 0) h') :
    boxA h (AV.cells (.agg c)) ty fun x h => boxA h (AV.cells (.agg d)) ty fun y h => K x y h := by
  show boxA h c ty fun x h => boxA h d ty fun y h => K x y h
  refine box_r lc fun b hb => ?_
  have f1 : Fr [] h (h.set b (.live c ty true)) := (Fr.refl _ _).set' hb
  have g1 : (h.set b (.live c ty true)).get b = some (.live c ty true) := H.get_same ..
  generalize h.set b (.live c ty true) = h1 at *
  refine box_r ld fun e he => ?_
  have f2 : Fr [] h1 (h1.set e (.live d ty true)) := (Fr.refl _ _).set' he
  have g2 : (h1.set e (.live d ty true)).get e = some (.live d ty true) := H.get_same ..
  have g1 := f2 b _ (by simp) g1
  generalize h1.set e (.live d ty true) = h2 at *
  exact hK b e h2 (f1.trans f2) (fun h3 f3 o => cell_of (f3 b _ (by simp) g1) o) (fun h3 f3 o => cell_of (f3 e _ (by simp) g2) o) fun h3 f3 => ⟨f3 b _ (by simp) g1, f3 e _ (by simp) g2⟩
theorem ty_eq {x y : Ty} {c d : List AV} (r : tyR h x c) (s : tyR h y d) (ok : x.ok) {K : AV → H → Prop} (hK : ∀ h', Fr [] h h' → K (.bool (eqB x y)) h') : C 51 [.agg c, .agg d] h K := by
  refine run51 ?_
  unfold sh51
  refine two_box r.leaves s.leaves fun b e h1 f cb ce _ => ?_
  obtain ⟨v, rfl, r1⟩ := r.fr f
  obtain ⟨w, rfl, s1⟩ := s.fr f
  refine fld_r (v := .bool x.imm) (by rw [cb h1 (Fr.refl _ _)]; rfl) ?_
  refine fld_r (v := .bool y.imm) (by rw [ce h1 (Fr.refl _ _)]; rfl) ?_
  rw [b_beql, valA_some, eqB_dec]
  refine chunkF (q := eqB x.sh y.sh) (by rw [cb h1 (Fr.refl _ _)]; rfl) (by rw [ce h1 (Fr.refl _ _)]; rfl) (fun K' hK' => ints_eq r1 s1 ok.1 (hK' h1 (Fr.refl _ _))) fun h2 f2 => ?_
  have := hK h2 (f.trans f2)
  rwa [← eqB_of (p := eqB x.imm y.imm && eqB x.sh y.sh) (by rw [Bool.and_eq_true, eqB_iff, eqB_iff]; cases x; cases y; simp)] at this
theorem shp_eq {x y : Shp} {c d : List AV} (r : shR h x c) (s : shR h y d) (ok : x.ok) {K : AV → H → Prop} (hK : ∀ h', Fr [] h h' → K (.bool (eqB x y)) h') : C 54 [.agg c, .agg d] h K := by
  refine run54 ?_
  unfold sh54
  refine two_box r.leaves s.leaves fun b e h1 f cb ce _ => ?_
  obtain ⟨v, rfl, r1⟩ := r.fr f
  obtain ⟨w, rfl, s1⟩ := s.fr f
  have cb := cb h1 (Fr.refl _ _)
  have ce := ce h1 (Fr.refl _ _)
  refine fld_r (v := .int .i64 x.kind) (by rw [cb]; rfl) ?_
  refine fld_r (v := .int .i64 y.kind) (by rw [ce]; rfl) ?_
  rw [eqI, valA_some]
  refine chunkV (q := eqB x.name y.name) (v := .str x.name) (w := .str y.name) (by rw [cb]; rfl) (by rw [ce]; rfl) (eqS _ _) ?_
  refine chunkF (q := eqB x.fs y.fs) (by rw [cb]; rfl) (by rw [ce]; rfl) (fun K' hK' => ints_eq r1 s1 ok.2.1.1 (hK' h1 (Fr.refl _ _))) fun h2 f2 => ?_
  have := hK h2 (f.trans f2)
  rwa [← eqB_of (p := (eqB x.kind y.kind && eqB x.name y.name) && eqB x.fs y.fs) (by simp only [Bool.and_eq_true, eqB_iff]; cases x; cases y; simp; grind)] at this
theorem ins_eq {x y : Ins} {c d : List AV} (r : insR h x c) (s : insR h y d) (ok : x.ok) {K : AV → H → Prop} (hK : ∀ h', Fr [] h h' → K (.bool (eqB x y)) h') : C 99 [.agg c, .agg d] h K := by
  refine run99 ?_
  unfold sh99
  refine two_box r.leaves s.leaves fun b e h1 f cb ce _ => ?_
  obtain ⟨v1, v2, v3, rfl, r1, r2, r3⟩ := r.fr f
  obtain ⟨w1, w2, w3, rfl, s1, s2, s3⟩ := s.fr f
  obtain ⟨_, o7, o8, o9⟩ := ok
  refine fld_r (v := .int .i64 x.op) (by rw [cb h1 (Fr.refl _ _)]; rfl) ?_
  refine fld_r (v := .int .i64 y.op) (by rw [ce h1 (Fr.refl _ _)]; rfl) ?_
  rw [eqI, valA_some]
  refine chunkV (q := eqB x.d y.d) (v := .int .i64 x.d) (w := .int .i64 y.d) (by rw [cb h1 (Fr.refl _ _)]; rfl) (by rw [ce h1 (Fr.refl _ _)]; rfl) (eqI _ _) ?_
  refine chunkV (q := eqB x.a y.a) (v := .int .i64 x.a) (w := .int .i64 y.a) (by rw [cb h1 (Fr.refl _ _)]; rfl) (by rw [ce h1 (Fr.refl _ _)]; rfl) (eqI _ _) ?_
  refine chunkV (q := eqB x.b y.b) (v := .int .i64 x.b) (w := .int .i64 y.b) (by rw [cb h1 (Fr.refl _ _)]; rfl) (by rw [ce h1 (Fr.refl _ _)]; rfl) (eqI _ _) ?_
  refine chunkV (q := eqB x.c y.c) (v := .int .i64 x.c) (w := .int .i64 y.c) (by rw [cb h1 (Fr.refl _ _)]; rfl) (by rw [ce h1 (Fr.refl _ _)]; rfl) (eqI _ _) ?_
  refine chunkV (q := eqB x.n y.n) (v := .int .i64 x.n) (w := .int .i64 y.n) (by rw [cb h1 (Fr.refl _ _)]; rfl) (by rw [ce h1 (Fr.refl _ _)]; rfl) (eqI _ _) ?_
  refine chunkF (q := eqB x.l y.l) (v := v1) (w := w1) (by rw [cb h1 (Fr.refl _ _)]; rfl) (by rw [ce h1 (Fr.refl _ _)]; rfl) (fun K' hK' => ints_eq r1 s1 o7.1 (hK' h1 (Fr.refl _ _))) fun h2 f2 => ?_
  refine chunkF (q := eqB x.m y.m) (v := v2) (w := w2) (by rw [cb h2 f2]; rfl) (by rw [ce h2 f2]; rfl) (fun K' hK' => ints_eq (r2.fr f2) (s2.fr f2) o8.1 (hK' h2 (Fr.refl _ _))) fun h3 f3 => ?_
  have f3 := f2.trans f3
  refine chunkF (q := eqB x.live y.live) (v := v3) (w := w3) (by rw [cb h3 f3]; rfl) (by rw [ce h3 f3]; rfl) (fun K' hK' => ints_eq (r3.fr f3) (s3.fr f3) o9.1 (hK' h3 (Fr.refl _ _))) fun h4 f4 => ?_
  have := hK h4 ((f.trans f3).trans f4)
  rwa [← eqB_of (p := ((((((((eqB x.op y.op && eqB x.d y.d) && eqB x.a y.a) && eqB x.b y.b) && eqB x.c y.c) && eqB x.n y.n) && eqB x.l y.l) && eqB x.m y.m) && eqB x.live y.live)) (by simp only [Bool.and_eq_true, eqB_iff]; cases x; cases y; simp; grind)] at this
theorem RowOf.with {α : Type} {esz : Nat} {R : α → List AV → Prop} {P : α → Prop} {v : AV} {l : List α} (r : RowOf h esz R v l) (hp : ∀ x ∈ l, P x) : RowOf h esz (fun x c => R x c ∧ P x) v l := r.mono (Fr.refl _ _) fun x hx c q => ⟨q, hp x hx⟩
theorem codes_eq {v1 v2 : AV} {l1 l2 : List Ins} (r1 : RowOf h 9 (insR h) v1 l1) (r2 : RowOf h 9 (insR h) v2 l2) (hl : l1.length ≤ reachBytes) (k1 : ∀ x ∈ l1, x.ok) (k2 : ∀ x ∈ l2, x.ok) {K : AV → H → Prop} (hK : ∀ h', Fr [] h h' → K (.bool (eqB l1 l2)) h') : C 98 [v1, v2, .fn 99 [] []] h K := by
  refine run98 ?_
  unfold sh98
  exact eqf_r (esz := 9) (ty := 55) (E := 99) (zs := [.int .i64 0, .int .i64 0, .int .i64 0, .int .i64 0, .int .i64 0, .int .i64 0, .nilsl, .nilsl, .nilsl]) (Rel := relIn) relIn_mono (fun r => r.1.leaves) rfl rfl (r1.with k1) (r2.with k2) hl (fun h' x y c d _ rx ry K hK => ins_eq rx.1 ry.1 rx.2 hK) hK
theorem blk_eq {x y : Blk} {c d : List AV} (r : blkR h x c) (s : blkR h y d) (ok : x.ok) (ok' : y.ok) {K : AV → H → Prop} (hK : ∀ h', Fr [] h h' → K (.bool (eqB x y)) h') : C 97 [.agg c, .agg d] h K := by
  refine run97 ?_
  unfold sh97
  refine two_box r.leaves s.leaves fun b e h1 f cb ce _ => ?_
  obtain ⟨v1, v2, rfl, r1, r2⟩ := r.fr f
  obtain ⟨w1, w2, rfl, s1, s2⟩ := s.fr f
  refine fld_r (v := v1) (by rw [cb h1 (Fr.refl _ _)]; rfl) ?_
  refine fld_r (v := w1) (by rw [ce h1 (Fr.refl _ _)]; rfl) ?_
  refine ints_eq r1 s1 ok.1.1 ?_
  refine chunkF (q := eqB x.code y.code) (v := v2) (w := w2) (by rw [cb h1 (Fr.refl _ _)]; rfl) (by rw [ce h1 (Fr.refl _ _)]; rfl) (fun K' hK' => codes_eq r2 s2 ok.2.1 ok.2.2 ok'.2.2 hK') fun h2 f2 => ?_
  have := hK h2 (f.trans f2)
  rwa [← eqB_of (p := eqB x.inn y.inn && eqB x.code y.code) (by rw [Bool.and_eq_true, eqB_iff, eqB_iff]; cases x; cases y; simp)] at this
theorem blks_eq {v1 v2 : AV} {l1 l2 : List Blk} (r1 : RowOf h 2 (blkR h) v1 l1) (r2 : RowOf h 2 (blkR h) v2 l2) (hl : l1.length ≤ reachBytes) (k1 : ∀ x ∈ l1, x.ok) (k2 : ∀ x ∈ l2, x.ok) {K : AV → H → Prop} (hK : ∀ h', Fr [] h h' → K (.bool (eqB l1 l2)) h') : C 96 [v1, v2, .fn 97 [] []] h K := by
  refine run96 ?_
  unfold sh96
  exact eqf_r (esz := 2) (ty := 42) (E := 97) (zs := [.nilsl, .nilsl]) (Rel := relBl) relBl_mono (fun r => r.1.leaves) rfl rfl (r1.with k1) (r2.with k2) hl (fun h' x y c d _ rx ry K hK => blk_eq rx.1 ry.1 rx.2 ry.2 hK) hK
theorem fn_eq {x y : Fn} {c d : List AV} (r : fnR h x c) (s : fnR h y d) (ok : x.ok) (ok' : y.ok) {K : AV → H → Prop} (hK : ∀ h', Fr [] h h' → K (.bool (eqB x y)) h') : C 57 [.agg c, .agg d] h K := by
  refine run57 ?_
  unfold sh57
  refine two_box r.leaves s.leaves fun b e h1 f cb ce _ => ?_
  obtain ⟨v1, v2, rfl, r1, r2⟩ := r.fr f
  obtain ⟨w1, w2, rfl, s1, s2⟩ := s.fr f
  obtain ⟨o1, o2, o3, o4, o5⟩ := ok
  obtain ⟨_, _, _, _, o5'⟩ := ok'
  refine fld_r (v := v1) (by rw [cb h1 (Fr.refl _ _)]; rfl) ?_
  refine fld_r (v := w1) (by rw [ce h1 (Fr.refl _ _)]; rfl) ?_
  refine ints_eq r1 s1 o1.1 ?_
  refine chunkV (q := eqB x.result y.result) (v := .int .i64 x.result) (w := .int .i64 y.result) (by rw [cb h1 (Fr.refl _ _)]; rfl) (by rw [ce h1 (Fr.refl _ _)]; rfl) (eqI _ _) ?_
  refine chunkV (q := eqB x.slots y.slots) (v := .int .i64 x.slots) (w := .int .i64 y.slots) (by rw [cb h1 (Fr.refl _ _)]; rfl) (by rw [ce h1 (Fr.refl _ _)]; rfl) (eqI _ _) ?_
  refine chunkF (q := eqB x.blocks y.blocks) (v := v2) (w := w2) (by rw [cb h1 (Fr.refl _ _)]; rfl) (by rw [ce h1 (Fr.refl _ _)]; rfl) (fun K' hK' => blks_eq r2 s2 o4 o5 o5' hK') fun h2 f2 => ?_
  have := hK h2 (f.trans f2)
  rwa [← eqB_of (p := ((eqB x.params y.params && eqB x.result y.result) && eqB x.slots y.slots) && eqB x.blocks y.blocks) (by simp only [Bool.and_eq_true, eqB_iff]; cases x; cases y; simp; grind)] at this
theorem fns_eq {v1 v2 : AV} {l1 l2 : List Fn} (r1 : RowOf h 4 (fnR h) v1 l1) (r2 : RowOf h 4 (fnR h) v2 l2) (hl : l1.length ≤ reachBytes) (k1 : ∀ x ∈ l1, x.ok) (k2 : ∀ x ∈ l2, x.ok) {K : AV → H → Prop} (hK : ∀ h', Fr [] h h' → K (.bool (eqB l1 l2)) h') : C 56 [v1, v2, .fn 57 [] []] h K := by
  refine run56 ?_
  unfold sh56
  exact eqf_r (esz := 4) (ty := 39) (E := 57) (zs := [.nilsl, .int .i64 0, .int .i64 0, .nilsl]) (Rel := relFn) relFn_mono (fun r => r.1.leaves) rfl rfl (r1.with k1) (r2.with k2) hl (fun h' x y c d _ rx ry K hK => fn_eq rx.1 ry.1 rx.2 ry.2 hK) hK
theorem shps_eq {v1 v2 : AV} {l1 l2 : List Shp} (r1 : RowOf h 3 (shR h) v1 l1) (r2 : RowOf h 3 (shR h) v2 l2) (hl : l1.length ≤ reachBytes) (k1 : ∀ x ∈ l1, x.ok) (k2 : ∀ x ∈ l2, x.ok) {K : AV → H → Prop} (hK : ∀ h', Fr [] h h' → K (.bool (eqB l1 l2)) h') : C 53 [v1, v2, .fn 54 [] []] h K := by
  refine run53 ?_
  unfold sh53
  exact eqf_r (esz := 3) (ty := 61) (E := 54) (zs := [.int .i64 0, .nilsl, .str []]) (Rel := relSh) relSh_mono (fun r => r.1.leaves) rfl rfl (r1.with k1) (r2.with k2) hl (fun h' x y c d _ rx ry K hK => shp_eq rx.1 ry.1 rx.2 hK) hK
theorem tys_eq {v1 v2 : AV} {l1 l2 : List Ty} (r1 : RowOf h 2 (tyR h) v1 l1) (r2 : RowOf h 2 (tyR h) v2 l2) (hl : l1.length ≤ reachBytes) (k1 : ∀ x ∈ l1, x.ok) (k2 : ∀ x ∈ l2, x.ok) {K : AV → H → Prop} (hK : ∀ h', Fr [] h h' → K (.bool (eqB l1 l2)) h') : C 50 [v1, v2, .fn 51 [] []] h K := by
  refine run50 ?_
  unfold sh50
  exact eqf_r (esz := 2) (ty := 46) (E := 51) (zs := [.bool false, .nilsl]) (Rel := relTy) relTy_mono (fun r => r.1.leaves) rfl rfl (r1.with k1) (r2.with k2) hl (fun h' x y c d _ rx ry K hK => ty_eq rx.1 ry.1 rx.2 hK) hK
theorem same_c {x y : Img} {c d : List AV} (r : imgR h x c) (s : imgR h y d) (ok : x.ok) (ok' : y.ok) {K : AV → H → Prop} (hK : ∀ h', Fr [] h h' → K (.bool (eqB x y)) h') : C 15 [.agg c, .agg d] h K := by
  refine run15 ?_
  unfold sh15
  refine two_box r.leaves s.leaves fun b e h1 f cb ce _ => ?_
  obtain ⟨v1, v2, v3, v4, v5, rfl, r1, r2, r3, r4, r5⟩ := r.fr f
  obtain ⟨w1, w2, w3, w4, w5, rfl, s1, s2, s3, s4, s5⟩ := s.fr f
  obtain ⟨⟨k1, k1'⟩, ⟨k2, k2'⟩, ⟨k3, k3'⟩, ⟨k4, k4'⟩, ⟨k5, k5'⟩, k6, k7⟩ := ok
  obtain ⟨⟨_, j1'⟩, ⟨_, j2'⟩, _, _, ⟨_, j5'⟩, _, _⟩ := ok'
  refine fld_r (v := v1) (by rw [cb h1 (Fr.refl _ _)]; rfl) ?_
  refine fld_r (v := w1) (by rw [ce h1 (Fr.refl _ _)]; rfl) ?_
  refine tys_eq r1 s1 k1 k1' j1' fun h2 f2 => ?_
  refine chunkF (q := eqB x.shapes y.shapes) (v := v2) (w := w2) (by rw [cb h2 f2]; rfl) (by rw [ce h2 f2]; rfl) (fun K' hK' => shps_eq (r2.mono f2 fun _ _ _ => shR.fr f2) (s2.mono f2 fun _ _ _ => shR.fr f2) k2 k2' j2' hK') fun h3 f3 => ?_
  have f3 := f2.trans f3
  refine chunkF (q := eqB x.strs y.strs) (v := v3) (w := w3) (by rw [cb h3 f3]; rfl) (by rw [ce h3 f3]; rfl) (fun K' hK' => strs_eq ((strs_row r3).fr f3) ((strs_row s3).fr f3) k3 (hK' h3 (Fr.refl _ _))) fun h4 f4 => ?_
  have f4 := f3.trans f4
  refine chunkF (q := eqB x.names y.names) (v := v4) (w := w4) (by rw [cb h4 f4]; rfl) (by rw [ce h4 f4]; rfl) (fun K' hK' => strs_eq ((strs_row r4).fr f4) ((strs_row s4).fr f4) k4 (hK' h4 (Fr.refl _ _))) fun h5 f5 => ?_
  have f5 := f4.trans f5
  refine chunkF (q := eqB x.fns y.fns) (v := v5) (w := w5) (by rw [cb h5 f5]; rfl) (by rw [ce h5 f5]; rfl) (fun K' hK' => fns_eq (r5.mono f5 fun _ _ _ => fnR.fr f5) (s5.mono f5 fun _ _ _ => fnR.fr f5) k5 k5' j5' hK') fun h6 f6 => ?_
  have f6 := f5.trans f6
  refine chunkV (q := eqB x.main y.main) (v := .int .i64 x.main) (w := .int .i64 y.main) (by rw [cb h6 f6]; rfl) (by rw [ce h6 f6]; rfl) (eqI _ _) ?_
  refine chunkV (q := eqB x.exn y.exn) (v := .int .i64 x.exn) (w := .int .i64 y.exn) (by rw [cb h6 f6]; rfl) (by rw [ce h6 f6]; rfl) (eqI _ _) ?_
  have := hK h6 (f.trans f6)
  rwa [← eqB_of (p := (((((eqB x.types y.types && eqB x.shapes y.shapes) && eqB x.strs y.strs) && eqB x.names y.names) && eqB x.fns y.fns) && eqB x.main y.main) && eqB x.exn y.exn) (by simp only [Bool.and_eq_true, eqB_iff]; cases x; cases y; simp; grind)] at this
theorem rsame_c {x y : Img} {c d : List AV} (r : imgR h x c) (s : imgR h y d) (ok : x.ok) (ok' : y.ok) (hx : (bytesI x).length ≤ most) (hy : (bytesI y).length ≤ most) {K : AV → H → Prop} (hK : ∀ h', Fr [] h h' → K (.bool (eqB (bytesI x) (bytesI y))) h') : C 14 [.agg c, .agg d] h K := by
  refine run14 ?_
  unfold sh14
  have lc := r.shape.1
  have ld := s.shape.1
  refine two_box r.leaves s.leaves fun b e h1 f cb ce g => ?_
  have rb : ∀ h2, Fr [] h1 h2 → h2.read b 0 7 = some c := fun h2 f2 => H.read_eq (g h2 f2).1 (by omega) (by rw [List.drop_zero, List.take_of_length_le (by omega)])
  have re : ∀ h2, Fr [] h1 h2 → h2.read e 0 7 = some d := fun h2 f2 => H.read_eq (g h2 f2).2 (by omega) (by rw [List.drop_zero, List.take_of_length_le (by omega)])
  rw [ldA_read (rb h1 (Fr.refl _ _)), valA_some, ldA_read (re h1 (Fr.refl _ _)), valA_some]
  refine bytes_w (r.fr f) ok hx fun v h2 w2 => ?_
  have f2 := w2.fr
  rw [ldA_read (re h2 f2)]
  simp only [go_sem, reduceIte, Nat.reduceAdd, Nat.reduceSub, Nat.reduceMul, Nat.reducePow, Nat.reduceLT, Nat.reduceLeDiff, Nat.reduceEqDiff, Int.reduceAdd, Int.reduceSub, Int.reduceMul, Int.reduceNeg, Int.reducePow, Int.reduceLT, Int.reduceLE, Int.reduceEq, Int.reduceNe, Int.reduceToNat, Int.toNat_natCast, Nat.zero_add, Nat.add_zero, Nat.mul_one, Nat.one_mul, Bool.not_true, Bool.not_false, ne_eq, not_true_eq_false, not_false_eq_true, Bool.false_eq_true, w2.ws.row.b2s]
  refine bytes_w (s.fr (f.trans f2)) ok' hy fun v' h3 w3 => ?_
  have f3 := w3.fr
  simp only [go_sem, reduceIte, Nat.reduceAdd, Nat.reduceSub, Nat.reduceMul, Nat.reducePow, Nat.reduceLT, Nat.reduceLeDiff, Nat.reduceEqDiff, Int.reduceAdd, Int.reduceSub, Int.reduceMul, Int.reduceNeg, Int.reducePow, Int.reduceLT, Int.reduceLE, Int.reduceEq, Int.reduceNe, Int.reduceToNat, Int.toNat_natCast, Nat.zero_add, Nat.add_zero, Nat.mul_one, Nat.one_mul, Bool.not_true, Bool.not_false, ne_eq, not_true_eq_false, not_false_eq_true, Bool.false_eq_true, (w2.ws.row.fr f3).b2s, w3.ws.row.b2s]
  have := hK h3 ((f.trans f2).trans f3)
  rwa [← eqB_of (p := decide ((bytesI x).map UInt8.ofNat = (bytesI y).map UInt8.ofNat)) (by rw [decide_eq_true_eq]; exact ⟨ofNat_inj (bytes_lt x) (bytes_lt y), fun e => by rw [e]⟩)] at this
end
end Go.Proofs.YtdljelicbnjfjaaGreat.X
set_option linter.unusedVariables false
set_option linter.unusedSimpArgs false
set_option maxRecDepth 20000
namespace Go.Proofs.YtdljelicbnjfjaaGreat.X
open Go Go.RowKit
def szB (b : Blk) : Nat := b.code.length
def szF (f : Fn) : Nat := sumN szB f.blocks
def szI (m : Img) : Nat := sumN szF m.fns
theorem sum_take {α : Type} (w : α → Nat) (l : List α) (i : Nat) : sumN w (l.take i) ≤ sumN w l := by
  have := sum_app w (l.take i) (l.drop i)
  rw [List.take_append_drop] at this; omega
theorem sum_mono {α : Type} {v w : α → Nat} : ∀ (l : List α), (∀ x ∈ l, v x ≤ w x) → sumN v l ≤ sumN w l
  | [], _ => Nat.le_refl _
  | x :: l, h => by
    have := sum_mono l fun y hy => h y (by simp [hy])
    have := h x (by simp)
    have e : ∀ u : α → Nat, sumN u (x :: l) = u x + sumN u l := fun u => by simp [sumN]
    rw [e, e]; omega
theorem sz_le (m : Img) : szI m ≤ wImg m := by
  have h1 : ∀ f : Fn, szF f ≤ wFn f := fun f => by
    have : szF f ≤ sumN wBlk f.blocks := sum_mono _ fun b _ => by unfold szB wBlk; omega
    unfold wFn; omega
  have : szI m ≤ sumN wFn m.fns := sum_mono _ fun f _ => h1 f
  unfold wImg; omega
/-- Counted up, so far. -/
def Up {α : Type} (h0 : H) (n0 : Nat) (w : α → Nat) (l : List α) (i : Nat) (a : AV) (h : H) : Prop := a = .int .i64 ((n0 + sumN w (l.take i) : Nat) : Int) ∧ Fr [] h0 h
section
variable {h : H}
/-- The instructions, counted. -/
theorem size_r {vf : AV} {m : Img} (r5 : RowOf h 4 (fnR h) vf m.fns) (ok : m.ok) (hw : szI m ≤ 40000) {J : AV → H → Prop} (hJ : ∀ h', Fr [] h h' → J (.int .i64 (szI m : Nat)) h') :
    valA (lenA false vf) h fun t10 h =>
    loopA (fun N l h => argA l 0 fun n3 => argA l 1 fun t11 =>
      valA (binOp .lss .num t11 t10) h fun t12 h =>
      condA t12
       (joinA (fun (n3'_0 : AV) (h : H) =>
       valA (binOp .add .num t11 (.int .i64 1)) h fun t28 h =>
       N [n3'_0, t28] h) fun J_18 =>
      valA (iaA 4 vf t11) h fun t13 h =>
      valA (ldA h (some 4) t13) h fun t14 h =>
      boxA h [.nilsl, (.int .i64 0), (.int .i64 0), .nilsl] 39 fun f5 h =>
      memA (stA h 4 f5 t14) .undef fun _ h =>
      valA (faA 3 f5) h fun t15 h =>
      valA (ldA h none t15) h fun t16 h =>
      valA (lenA false t16) h fun t17 h =>
      loopA (fun N_19 l h => argA l 0 fun n3_20 => argA l 1 fun t18 =>
       valA (binOp .lss .num t18 t17) h fun t19 h =>
       condA t19
        (valA (iaA 2 t16 t18) h fun t20 h =>
       valA (ldA h (some 2) t20) h fun t21 h =>
       boxA h [.nilsl, .nilsl] 42 fun b7 h =>
       memA (stA h 2 b7 t21) .undef fun _ h =>
       valA (faA 1 b7) h fun t23 h =>
       valA (ldA h none t23) h fun t24 h =>
       valA (lenA false t24) h fun t25 h =>
       valA (binOp .add .num n3_20 t25) h fun t26 h =>
       valA (binOp .add .num t18 (.int .i64 1)) h fun t27 h =>
       N_19 [t26, t27] h)
        (J_18 n3_20 h)) [n3, (.int .i64 0)] h)
       (J n3 h)) [(.int .i64 0), (.int .i64 0)] h := by
  obtain ⟨_, _, _, _, ⟨k5, k5'⟩, _, _⟩ := ok
  rw [r5.len, valA_some]
  refine accj_r (h0 := h) (esz := 4) (ty := 39) (zs := [.nilsl, .int .i64 0, .int .i64 0, .nilsl]) (Rel := fnR) (fun r => fnR.leaves r) rfl rfl r5 k5 (Inv := Up h 0 szF m.fns) ⟨by simp [sumN], Fr.refl _ _⟩ (fun i a h i1 => i1.2) (fun i a h h' i1 f => ⟨i1.1, i1.2.trans f⟩) (fun a h2 i1 => ?_) ?_
  · obtain ⟨rfl, f⟩ := i1
    rw [List.take_length, Nat.zero_add]; exact hJ h2 f
  · rintro N i x a hx en h5 d c ⟨rfl, f5⟩ gd re hc hN
    obtain ⟨vp, vb, rfl, q1, q2⟩ := re
    obtain ⟨o1, o2, o3, o4, o5⟩ := k5' x (List.mem_of_getElem? hx)
    have s1 := sum_succ szF hx
    have s2 := sum_take szF m.fns (i + 1)
    have hw' : sumN szF m.fns ≤ 40000 := hw
    refine fld_r (v := vb) (by rw [cell_of gd]; rfl) ?_
    rw [q2.len, valA_some]
    refine acc_r (h0 := h) (esz := 2) (ty := 42) (zs := [.nilsl, .nilsl]) (Rel := blkR) (fun r => blkR.leaves r) rfl rfl q2 o4 (Inv := Up h (0 + sumN szF (m.fns.take i)) szB x.blocks) ⟨by simp [sumN], f5⟩ (fun i a h i1 => i1.2) (fun i a h h' i1 f => ⟨i1.1, i1.2.trans f⟩) (fun a h2 i1 => ?_) ?_
    · obtain ⟨rfl, f⟩ := i1
      rw [List.take_length]
      exact hN _ h2 ⟨by rw [s1]; unfold szF; rw [Nat.add_assoc], f⟩
    · rintro N i' y a hy en h6 d c ⟨rfl, f6⟩ gd re hc hN
      obtain ⟨vi, vc, rfl, p1, p2⟩ := re
      have t1 := sum_succ szB hy
      have t2 := sum_take szB x.blocks (i' + 1)
      have e : szF x = sumN szB x.blocks := rfl
      refine fld_r (v := vc) (by rw [cell_of gd]; rfl) ?_
      have ea : IntKind.i64.wrap (((0 + sumN szF (m.fns.take i) + sumN szB (x.blocks.take i') : Nat) : Int) + y.code.length) = ((0 + sumN szF (m.fns.take i) + sumN szB (x.blocks.take (i' + 1)) : Nat) : Int) := by
        have : szB y = y.code.length := rfl
        rw [i64_id (by omega) (by omega)]; omega
      rw [p2.len, valA_some, b_add, ea, valA_some, b_add, en, valA_some]
      exact hN _ h6 ⟨rfl, f6⟩
theorem size_c {m : Img} {c : List AV} (r : imgR h m c) (ok : m.ok) (hw : szI m ≤ 40000) {K : AV → H → Prop} (hK : ∀ h', Fr [] h h' → K (.int .i64 (szI m : Nat)) h') : C 18 [.agg c] h K := by
  refine run18 ?_
  unfold sh18
  refine img_box r fun b h1 f1 hb gb r1 rd => ?_
  refine join_r (fun (J : AV → H → Prop) => ∀ h', Fr [] h1 h' → J (.int .i64 (szI m : Nat)) h') (fun h' f => hK h' (f1.trans f)) fun J hJ => ?_
  obtain ⟨vt, vs, vx, vn, vf, rfl, _, _, _, _, r5⟩ := r1
  refine fld_r (v := vf) (by rw [cell_of gb]; rfl) ?_
  exact size_r r5 ok hw hJ
theorem eqB_comm {α : Type} (a b : α) : eqB a b = eqB b a := eqB_of (by rw [eqB_iff]; exact eq_comm)
/-- Images that may be are the same where their bytes are. -/
theorem same_bytes {a b : Img} (oa : a.ok) (ob : b.ok) (ca : checkN a = 0) (cb : checkN b = 0) : eqB (bytesI a) (bytesI b) = eqB a b := by
  refine eqB_of ?_
  rw [eqB_iff]
  constructor
  · intro e
    have := decode_fw oa ca
    rw [e, decode_fw ob cb] at this
    exact (congrArg (fun p : Img × Int => p.1) this).symm
  · intro e; rw [e]
theorem law4 (h : H) (ls : List (List AV)) (hl : LiesA h [shM, shM] ls) (hs : Short lim ls) : C 4 (argsOf [shM, shM] ls) h yes := by
  obtain ⟨l0, ls, rfl, h0, hl⟩ := liesA_cons hl
  obtain ⟨l1, ls, rfl, h1, hl⟩ := liesA_cons hl
  obtain rfl := liesA_nil hl
  obtain ⟨a, ra, oa⟩ := lies_img h0
  obtain ⟨b, rb, ob⟩ := lies_img h1
  obtain ⟨a3, a4⟩ := short_img hs (by simp) ra
  obtain ⟨b3, b4⟩ := short_img hs (by simp) rb
  show C 4 [.agg l0, .agg l1] h yes
  refine run4 ?_
  unfold sh4
  refine img_box ra fun p h1 f1 hp gp ra rp => ?_
  refine img_box (rb.fr f1) fun q h2 f2 hq gq rb rq => ?_
  have ra := ra.fr f2
  have rp : ∀ {h'}, Fr [] h2 h' → h'.read p 0 7 = some l0 := fun f => rp _ (f2.trans f)
  have rq : ∀ {h'}, Fr [] h2 h' → h'.read q 0 7 = some l1 := fun f => rq _ f
  have gp2 := f2 p _ (by simp) gp
  rw [ldA_read (rp (Fr.refl _ _)), valA_some]
  refine light_c ra oa a3 a4 fun h3 lt f3 hlt => ?_
  rw [u_not, valA_some]
  cases lt with
  | false =>
    simp only [go_sem, reduceIte, Nat.reduceAdd, Nat.reduceSub, Nat.reduceMul, Nat.reducePow, Nat.reduceLT, Nat.reduceLeDiff, Nat.reduceEqDiff, Int.reduceAdd, Int.reduceSub, Int.reduceMul, Int.reduceNeg, Int.reducePow, Int.reduceLT, Int.reduceLE, Int.reduceEq, Int.reduceNe, Int.reduceToNat, Int.toNat_natCast, Nat.zero_add, Nat.add_zero, Nat.mul_one, Nat.one_mul, Bool.not_true, Bool.not_false, ne_eq, not_true_eq_false, not_false_eq_true, Bool.false_eq_true]
    exact lives_c fun _ _ => rfl
  | true =>
    simp only [go_sem, reduceIte, Nat.reduceAdd, Nat.reduceSub, Nat.reduceMul, Nat.reducePow, Nat.reduceLT, Nat.reduceLeDiff, Nat.reduceEqDiff, Int.reduceAdd, Int.reduceSub, Int.reduceMul, Int.reduceNeg, Int.reducePow, Int.reduceLT, Int.reduceLE, Int.reduceEq, Int.reduceNe, Int.reduceToNat, Int.toNat_natCast, Nat.zero_add, Nat.add_zero, Nat.mul_one, Nat.one_mul, Bool.not_true, Bool.not_false, ne_eq, not_true_eq_false, not_false_eq_true, Bool.false_eq_true, rq f3]
    refine light_c (rb.fr f3) ob b3 b4 fun h4 lt2 f4 hlt2 => ?_
    cases lt2 with
    | false =>
      simp only [go_sem, reduceIte, Nat.reduceAdd, Nat.reduceSub, Nat.reduceMul, Nat.reducePow, Nat.reduceLT, Nat.reduceLeDiff, Nat.reduceEqDiff, Int.reduceAdd, Int.reduceSub, Int.reduceMul, Int.reduceNeg, Int.reducePow, Int.reduceLT, Int.reduceLE, Int.reduceEq, Int.reduceNe, Int.reduceToNat, Int.toNat_natCast, Nat.zero_add, Nat.add_zero, Nat.mul_one, Nat.one_mul, Bool.not_true, Bool.not_false, ne_eq, not_true_eq_false, not_false_eq_true, Bool.false_eq_true]
      exact lives_c fun _ _ => rfl
    | true =>
      simp only [go_sem, reduceIte, Nat.reduceAdd, Nat.reduceSub, Nat.reduceMul, Nat.reducePow, Nat.reduceLT, Nat.reduceLeDiff, Nat.reduceEqDiff, Int.reduceAdd, Int.reduceSub, Int.reduceMul, Int.reduceNeg, Int.reducePow, Int.reduceLT, Int.reduceLE, Int.reduceEq, Int.reduceNe, Int.reduceToNat, Int.toNat_natCast, Nat.zero_add, Nat.add_zero, Nat.mul_one, Nat.one_mul, Bool.not_true, Bool.not_false, ne_eq, not_true_eq_false, not_false_eq_true, Bool.false_eq_true]
      have wa := light_le oa (hlt rfl)
      have wb := light_le ob (hlt2 rfl)
      have hsz : szI a ≤ 40000 := Nat.le_trans (sz_le a) (hlt rfl)
      have f4 := f3.trans f4
      refine join_r (fun (J : AV → H → Prop) => ∀ h', Fr [] h2 h' → J (.int .i64 (szI a : Nat)) h') (fun h5 f5 => ?_) fun J hJ => ?_
      · simp only [go_sem, reduceIte, Nat.reduceAdd, Nat.reduceSub, Nat.reduceMul, Nat.reducePow, Nat.reduceLT, Nat.reduceLeDiff, Nat.reduceEqDiff, Int.reduceAdd, Int.reduceSub, Int.reduceMul, Int.reduceNeg, Int.reducePow, Int.reduceLT, Int.reduceLE, Int.reduceEq, Int.reduceNe, Int.reduceToNat, Int.toNat_natCast, Nat.zero_add, Nat.add_zero, Nat.mul_one, Nat.one_mul, Bool.not_true, Bool.not_false, ne_eq, not_true_eq_false, not_false_eq_true, Bool.false_eq_true, rp f5]
        refine size_c (ra.fr f5) oa hsz fun h6 f6 => ?_
        have f6 := f5.trans f6
        simp only [go_sem, reduceIte, Nat.reduceAdd, Nat.reduceSub, Nat.reduceMul, Nat.reducePow, Nat.reduceLT, Nat.reduceLeDiff, Nat.reduceEqDiff, Int.reduceAdd, Int.reduceSub, Int.reduceMul, Int.reduceNeg, Int.reducePow, Int.reduceLT, Int.reduceLE, Int.reduceEq, Int.reduceNe, Int.reduceToNat, Int.toNat_natCast, Nat.zero_add, Nat.add_zero, Nat.mul_one, Nat.one_mul, Bool.not_true, Bool.not_false, ne_eq, not_true_eq_false, not_false_eq_true, Bool.false_eq_true, rp f6]
        refine same_c (ra.fr f6) (ra.fr f6) oa oa fun h7 f7 => ?_
        have f7 := f6.trans f7
        rw [eqB_self]
        simp only [go_sem, reduceIte, Nat.reduceAdd, Nat.reduceSub, Nat.reduceMul, Nat.reducePow, Nat.reduceLT, Nat.reduceLeDiff, Nat.reduceEqDiff, Int.reduceAdd, Int.reduceSub, Int.reduceMul, Int.reduceNeg, Int.reducePow, Int.reduceLT, Int.reduceLE, Int.reduceEq, Int.reduceNe, Int.reduceToNat, Int.toNat_natCast, Nat.zero_add, Nat.add_zero, Nat.mul_one, Nat.one_mul, Bool.not_true, Bool.not_false, ne_eq, not_true_eq_false, not_false_eq_true, Bool.false_eq_true, rp f7, rq f7]
        refine same_c (ra.fr f7) (rb.fr f7) oa ob fun h8 f8 => ?_
        have f8 := f7.trans f8
        simp only [go_sem, reduceIte, Nat.reduceAdd, Nat.reduceSub, Nat.reduceMul, Nat.reducePow, Nat.reduceLT, Nat.reduceLeDiff, Nat.reduceEqDiff, Int.reduceAdd, Int.reduceSub, Int.reduceMul, Int.reduceNeg, Int.reducePow, Int.reduceLT, Int.reduceLE, Int.reduceEq, Int.reduceNe, Int.reduceToNat, Int.toNat_natCast, Nat.zero_add, Nat.add_zero, Nat.mul_one, Nat.one_mul, Bool.not_true, Bool.not_false, ne_eq, not_true_eq_false, not_false_eq_true, Bool.false_eq_true, rp f8, rq f8]
        refine same_c (rb.fr f8) (ra.fr f8) ob oa fun h9 f9 => ?_
        have f9 := f8.trans f9
        rw [eqB_comm b a]
        simp only [go_sem, reduceIte, Nat.reduceAdd, Nat.reduceSub, Nat.reduceMul, Nat.reducePow, Nat.reduceLT, Nat.reduceLeDiff, Nat.reduceEqDiff, Int.reduceAdd, Int.reduceSub, Int.reduceMul, Int.reduceNeg, Int.reducePow, Int.reduceLT, Int.reduceLE, Int.reduceEq, Int.reduceNe, Int.reduceToNat, Int.toNat_natCast, Nat.zero_add, Nat.add_zero, Nat.mul_one, Nat.one_mul, Bool.not_true, Bool.not_false, ne_eq, not_true_eq_false, not_false_eq_true, Bool.false_eq_true, rp f9]
        refine rcheck_c (ra.fr f9) oa fun h10 f10 => ?_
        have f10 := f9.trans f10
        by_cases ca : checkN a = 0
        · rw [ca]
          simp only [go_sem, reduceIte, Nat.reduceAdd, Nat.reduceSub, Nat.reduceMul, Nat.reducePow, Nat.reduceLT, Nat.reduceLeDiff, Nat.reduceEqDiff, Int.reduceAdd, Int.reduceSub, Int.reduceMul, Int.reduceNeg, Int.reducePow, Int.reduceLT, Int.reduceLE, Int.reduceEq, Int.reduceNe, Int.reduceToNat, Int.toNat_natCast, Nat.zero_add, Nat.add_zero, Nat.mul_one, Nat.one_mul, Bool.not_true, Bool.not_false, ne_eq, not_true_eq_false, not_false_eq_true, Bool.false_eq_true, rq f10]
          refine rcheck_c (rb.fr f10) ob fun h11 f11 => ?_
          have f11 := f10.trans f11
          by_cases cb : checkN b = 0
          · rw [cb]
            simp only [go_sem, reduceIte, Nat.reduceAdd, Nat.reduceSub, Nat.reduceMul, Nat.reducePow, Nat.reduceLT, Nat.reduceLeDiff, Nat.reduceEqDiff, Int.reduceAdd, Int.reduceSub, Int.reduceMul, Int.reduceNeg, Int.reducePow, Int.reduceLT, Int.reduceLE, Int.reduceEq, Int.reduceNe, Int.reduceToNat, Int.toNat_natCast, Nat.zero_add, Nat.add_zero, Nat.mul_one, Nat.one_mul, Bool.not_true, Bool.not_false, ne_eq, not_true_eq_false, not_false_eq_true, Bool.false_eq_true, rp f11, rq f11]
            refine same_c (ra.fr f11) (rb.fr f11) oa ob fun h12 f12 => ?_
            have f12 := f11.trans f12
            simp only [go_sem, reduceIte, Nat.reduceAdd, Nat.reduceSub, Nat.reduceMul, Nat.reducePow, Nat.reduceLT, Nat.reduceLeDiff, Nat.reduceEqDiff, Int.reduceAdd, Int.reduceSub, Int.reduceMul, Int.reduceNeg, Int.reducePow, Int.reduceLT, Int.reduceLE, Int.reduceEq, Int.reduceNe, Int.reduceToNat, Int.toNat_natCast, Nat.zero_add, Nat.add_zero, Nat.mul_one, Nat.one_mul, Bool.not_true, Bool.not_false, ne_eq, not_true_eq_false, not_false_eq_true, Bool.false_eq_true, rp f12, rq f12]
            refine rsame_c (ra.fr f12) (rb.fr f12) oa ob wa.1 wb.1 fun h13 f13 => ?_
            rw [same_bytes oa ob ca cb]
            simp only [go_sem, reduceIte, Nat.reduceAdd, Nat.reduceSub, Nat.reduceMul, Nat.reducePow, Nat.reduceLT, Nat.reduceLeDiff, Nat.reduceEqDiff, Int.reduceAdd, Int.reduceSub, Int.reduceMul, Int.reduceNeg, Int.reducePow, Int.reduceLT, Int.reduceLE, Int.reduceEq, Int.reduceNe, Int.reduceToNat, Int.toNat_natCast, Nat.zero_add, Nat.add_zero, Nat.mul_one, Nat.one_mul, Bool.not_true, Bool.not_false, ne_eq, not_true_eq_false, not_false_eq_true, Bool.false_eq_true]
            exact lives_c fun _ _ => rfl
          · simp only [go_sem, reduceIte, Nat.reduceAdd, Nat.reduceSub, Nat.reduceMul, Nat.reducePow, Nat.reduceLT, Nat.reduceLeDiff, Nat.reduceEqDiff, Int.reduceAdd, Int.reduceSub, Int.reduceMul, Int.reduceNeg, Int.reducePow, Int.reduceLT, Int.reduceLE, Int.reduceEq, Int.reduceNe, Int.reduceToNat, Int.toNat_natCast, Nat.zero_add, Nat.add_zero, Nat.mul_one, Nat.one_mul, Bool.not_true, Bool.not_false, ne_eq, not_true_eq_false, not_false_eq_true, Bool.false_eq_true, cb]
            exact lives_c fun _ _ => rfl
        · simp only [go_sem, reduceIte, Nat.reduceAdd, Nat.reduceSub, Nat.reduceMul, Nat.reducePow, Nat.reduceLT, Nat.reduceLeDiff, Nat.reduceEqDiff, Int.reduceAdd, Int.reduceSub, Int.reduceMul, Int.reduceNeg, Int.reducePow, Int.reduceLT, Int.reduceLE, Int.reduceEq, Int.reduceNe, Int.reduceToNat, Int.toNat_natCast, Nat.zero_add, Nat.add_zero, Nat.mul_one, Nat.one_mul, Bool.not_true, Bool.not_false, ne_eq, not_true_eq_false, not_false_eq_true, Bool.false_eq_true, ca]
          exact lives_c fun _ _ => rfl
      · obtain ⟨vt, vs, vx, vn, vf, rfl, _, _, _, _, r5⟩ := ra.fr f4
        rw [show h4.cell p 4 = some vf by rw [cell_of (f4 p _ (by simp) gp2)]; rfl, valA_some]
        exact size_r r5 oa hsz fun h' f' => hJ h' (f4.trans f')
end
end Go.Proofs.YtdljelicbnjfjaaGreat.X
