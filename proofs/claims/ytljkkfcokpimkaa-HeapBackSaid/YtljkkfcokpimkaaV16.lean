/- A row of calls; a heap of both is made by calls. -/
import Derived.Test.YtljkkfcokpimkaaV15
set_option linter.unusedVariables false
set_option linter.unusedSimpArgs false
set_option maxRecDepth 20000
namespace Go.Proofs.Ytljkkfcokpimkaa.X
open Go Go.RowKit

def opsC (l : List OpI) : List AV := l.flatMap OpI.cells
theorem flat_take {α : Type} (f : α → List AV) (k : Nat) (hk : ∀ x, (f x).length = k) : ∀ (l : List α) (j : Nat), (l.flatMap f).take (j * k) = (l.take j).flatMap f
  | [], j => by simp
  | x :: l, 0 => by simp
  | x :: l, j + 1 => by
    rw [List.take_succ_cons, List.flatMap_cons, List.flatMap_cons, List.take_append, ← flat_take f k hk l j, hk x, List.take_of_length_le (by rw [hk x, Nat.add_mul]; omega)]
    congr 2; rw [Nat.add_mul]; omega
theorem flat_drop {α : Type} (f : α → List AV) (k : Nat) (hk : ∀ x, (f x).length = k) : ∀ (l : List α) (i : Nat) (x : α), l[i]? = some x → ((l.flatMap f).drop (i * k)).take k = f x
  | [], i, x, h => by simp at h
  | y :: l, 0, x, h => by
    simp at h; subst h
    rw [Nat.zero_mul, List.drop_zero, List.flatMap_cons, List.take_append, hk y, Nat.sub_self, List.take_zero, List.append_nil, List.take_of_length_le (by rw [hk y]; omega)]
  | y :: l, i + 1, x, h => by
    rw [List.flatMap_cons, List.drop_append, hk y, List.drop_eq_nil_of_le (by rw [hk y, Nat.add_mul]; omega), List.nil_append]
    have : (i + 1) * k - k = i * k := by rw [Nat.add_mul]; omega
    rw [this]
    exact flat_drop f k hk l i x (by simpa using h)
theorem lies_op {h : H} {l : List AV} (hl : Lies h (.st [.int .i64, .int .i64, .int .i64, .int .u64, .bool]) l) : ∃ o : OpI, l = o.cells ∧ o.ok := by
  simp only [Lies, LiesL] at hl
  obtain ⟨a1, t1, rfl, g1, a2, t2, rfl, g2, a3, t3, rfl, g3, a4, t4, rfl, g4, a5, t5, rfl, g5, rfl⟩ := hl
  obtain ⟨x1, rfl, u1, u1'⟩ := lies_i64 (h := h) (by simpa only [Lies] using g1)
  obtain ⟨x2, rfl, u2, u2'⟩ := lies_i64 (h := h) (by simpa only [Lies] using g2)
  obtain ⟨x3, rfl, u3, u3'⟩ := lies_i64 (h := h) (by simpa only [Lies] using g3)
  obtain ⟨x4, rfl, u4, u4'⟩ := lies_u64 (h := h) (by simpa only [Lies] using g4)
  obtain ⟨x5, rfl⟩ : ∃ x : Bool, a5 = [.bool x] := by simpa only [Lies] using g5
  exact ⟨⟨x1, x2, x3, x4, x5⟩, rfl, ⟨u2, by show x2 ≤ _; omega, u4, u4'⟩⟩
theorem lies_ops {h : H} {l : List AV} (hl : Lies h (.sl (.st [.int .i64, .int .i64, .int .i64, .int .u64, .bool])) l) : ∃ v L, l = [v] ∧ Row h v L.length 5 (opsC L) ∧ (∀ x ∈ L, x.ok) ∧ L.length ≤ reachBytes := by
  rw [Lies] at hl
  rcases hl with rfl | ⟨b, ei, css, rfl, hb, hm, hcs⟩
  · exact ⟨.nilsl, [], rfl, ⟨rfl, .inl ⟨rfl, rfl⟩⟩, by simp, by simp⟩
  · obtain ⟨L, hL, hfl, hlen⟩ : ∃ L : List OpI, (∀ x ∈ L, x.ok) ∧ css.flatten = opsC L ∧ css.length = L.length := by
      clear hb hm
      induction css with
      | nil => exact ⟨[], by simp, rfl, rfl⟩
      | cons c css ih =>
        obtain ⟨L, i1, i2, i3⟩ := ih fun c hc => hcs c (by simp [hc])
        obtain ⟨o, rfl, ho⟩ := lies_op (hcs c (by simp))
        refine ⟨o :: L, ?_, by simp only [List.flatten_cons, i2, opsC, List.flatMap_cons], by simp [i3]⟩
        intro d hd
        rcases List.mem_cons.1 hd with rfl | hd
        · exact ho
        · exact i1 d hd
    have ol : ∀ L : List OpI, (opsC L).length = L.length * 5 := fun L => by
      induction L with
      | nil => rfl
      | cons x l ih => simp only [opsC, List.flatMap_cons] at ih ⊢; simp [OpI.cells, ih]; omega
    refine ⟨_, L, rfl, ⟨ol L, .inr ⟨b, 0, .any, by rw [hlen], rfl, ?_⟩⟩, hL, by omega⟩
    refine H.read_eq hb (by rw [hfl, ol]; omega) ?_
    rw [hfl, List.drop_zero, List.take_of_length_le (by rw [ol]; omega)]
section
variable {h : H}
theorem few_c {v : AV} {ops : List OpI} (hr : Row h v ops.length 5 (opsC ops)) (hm : ops.length ≤ reachBytes) {K : AV → H → Prop}
    (hK : ∀ v' ops', (∀ h1, Row h1 v ops.length 5 (opsC ops) → Row h1 v' ops'.length 5 (opsC ops')) → ops'.length ≤ 200 → ops'.length ≤ ops.length → (∀ o ∈ ops', o ∈ ops) → K v' h) : C 73 [v] h K := by
  refine run73 ?_
  by_cases h1 : 200 < (ops.length : Int)
  · obtain ⟨v', w1, w2⟩ := sl_none hr (j := 200) (by omega) (by omega)
    have w1 : sliceOp (.row 5) v none (some (.int .i64 200)) none = some v' := w1
    simp only [sh73, go_sem, reduceIte, Nat.reduceAdd, Nat.reduceSub, Nat.reduceMul, Nat.reducePow, Nat.reduceLT, Nat.reduceLeDiff, Nat.reduceEqDiff, Int.reduceAdd, Int.reduceSub, Int.reduceMul, Int.reduceNeg, Int.reducePow, Int.reduceLT, Int.reduceLE, Int.reduceEq, Int.reduceNe, Int.reduceToNat, Int.toNat_natCast, Nat.zero_add, Nat.add_zero, Nat.mul_one, Nat.one_mul, Bool.not_true, Bool.not_false, ne_eq, not_true_eq_false, not_false_eq_true, Bool.false_eq_true, hr.len, h1, w1]
    refine hK v' (ops.take 200) (fun h1 r1 => ?_) (by simp; omega) (by simp; omega) fun o ho => List.mem_of_mem_take ho
    obtain ⟨v2, y1, y2⟩ := sl_none r1 (j := 200) (by omega) (by omega)
    have y1 : sliceOp (.row 5) v none (some (.int .i64 200)) none = some v2 := y1
    rw [w1] at y1
    injection y1 with y1
    subst y1
    unfold opsC at y2
    rw [flat_take OpI.cells 5 (fun _ => rfl)] at y2
    have : (ops.take 200).length = 200 := by simp; omega
    rw [this]; exact y2
  · simp only [sh73, go_sem, reduceIte, Nat.reduceAdd, Nat.reduceSub, Nat.reduceMul, Nat.reducePow, Nat.reduceLT, Nat.reduceLeDiff, Nat.reduceEqDiff, Int.reduceAdd, Int.reduceSub, Int.reduceMul, Int.reduceNeg, Int.reducePow, Int.reduceLT, Int.reduceLE, Int.reduceEq, Int.reduceNe, Int.reduceToNat, Int.toNat_natCast, Nat.zero_add, Nat.add_zero, Nat.mul_one, Nat.one_mul, Bool.not_true, Bool.not_false, ne_eq, not_true_eq_false, not_false_eq_true, Bool.false_eq_true, hr.len, h1]
    exact hK v ops (fun _ r => r) (by omega) (by omega) fun o ho => ho
theorem made_c {lv Lo : AV} {lays : List (Int × Int)} {ops : List OpI} (hl : Row h lv lays.length 2 (lc lays)) (hm : lays.length ≤ reachBytes) (ho : Row h Lo ops.length 5 (opsC ops)) (hm2 : ops.length ≤ reachBytes) (hok : ∀ o ∈ ops, o.ok) (words : Int) {K : AV → H → Prop}
    (hnil : ∀ h', Fr [] h h' → K (.tup [.nilp, .nilp]) h')
    (hK : ∀ h' b bx n lays' l, Two h h' b bx n lays' l → n ≤ 4000 → (words ≤ 4000 → (n : Int) = words) → l.length ≤ 150 → l.length ≤ ops.length → K (.tup [.ptr b 0, .ptr bx 0]) h') : C 60 [.int .i64 words, lv, Lo] h K := by
  refine run60 ?_
  unfold sh60
  refine join_r (fun (J : AV → H → Prop) => ∀ (v : AV) (L : List (Int × Int)), Row h v L.length 2 (lc L) → L.length ≤ reachBytes → J v h) ?_ fun J hJ => ?_
  · intro v L hr hrm
    obtain ⟨W, hW⟩ : ∃ W : Int, (if 4000 < words then (4000 : Int) else words) = W := ⟨_, rfl⟩
    simp only [go_sem, reduceIte, Nat.reduceAdd, Nat.reduceSub, Nat.reduceMul, Nat.reducePow, Nat.reduceLT, Nat.reduceLeDiff, Nat.reduceEqDiff, Int.reduceAdd, Int.reduceSub, Int.reduceMul, Int.reduceNeg, Int.reducePow, Int.reduceLT, Int.reduceLE, Int.reduceEq, Int.reduceNe, Int.reduceToNat, Int.toNat_natCast, Nat.zero_add, Nat.add_zero, Nat.mul_one, Nat.one_mul, Bool.not_true, Bool.not_false, ne_eq, not_true_eq_false, not_false_eq_true, Bool.false_eq_true, hW]
    refine new_c hr hrm (fun he h1 f1 => ?_) (fun he h1 b bw bd B f1 hfr hh => ?_)
    · simp only [go_sem, reduceIte, Nat.reduceAdd, Nat.reduceSub, Nat.reduceMul, Nat.reducePow, Nat.reduceLT, Nat.reduceLeDiff, Nat.reduceEqDiff, Int.reduceAdd, Int.reduceSub, Int.reduceMul, Int.reduceNeg, Int.reducePow, Int.reduceLT, Int.reduceLE, Int.reduceEq, Int.reduceNe, Int.reduceToNat, Int.toNat_natCast, Nat.zero_add, Nat.add_zero, Nat.mul_one, Nat.one_mul, Bool.not_true, Bool.not_false, ne_eq, not_true_eq_false, not_false_eq_true, Bool.false_eq_true, he]
      exact hnil h1 f1
    · obtain ⟨r1, r2, r3, r4⟩ := newErr_range he
      have hWn : ((W.toNat : Nat) : Int) = W := by omega
      simp only [go_sem, reduceIte, Nat.reduceAdd, Nat.reduceSub, Nat.reduceMul, Nat.reducePow, Nat.reduceLT, Nat.reduceLeDiff, Nat.reduceEqDiff, Int.reduceAdd, Int.reduceSub, Int.reduceMul, Int.reduceNeg, Int.reducePow, Int.reduceLT, Int.reduceLE, Int.reduceEq, Int.reduceNe, Int.reduceToNat, Int.toNat_natCast, Nat.zero_add, Nat.add_zero, Nat.mul_one, Nat.one_mul, Bool.not_true, Bool.not_false, ne_eq, not_true_eq_false, not_false_eq_true, Bool.false_eq_true, b_pn]
      refine check_c (hr.fr f1) hrm fun h2 f2 => ?_
      have ev : fillV [.int .i64 0, .nilsl, .nilsl] [(0, 1, .int .i64 W), (1, 1, v)] = some [.int .i64 W, v, .nilsl] := by
        rcases hr.2 with ⟨_, e⟩ | ⟨_, _, _, e, _⟩ <;> subst e <;> rfl
      have elv : leaves [.int .i64 W, v, .nilsl] = true := by simp only [leaves, hr.one.1]; rfl
      simp only [go_sem, reduceIte, Nat.reduceAdd, Nat.reduceSub, Nat.reduceMul, Nat.reducePow, Nat.reduceLT, Nat.reduceLeDiff, Nat.reduceEqDiff, Int.reduceAdd, Int.reduceSub, Int.reduceMul, Int.reduceNeg, Int.reducePow, Int.reduceLT, Int.reduceLE, Int.reduceEq, Int.reduceNe, Int.reduceToNat, Int.toNat_natCast, Nat.zero_add, Nat.add_zero, Nat.mul_one, Nat.one_mul, Bool.not_true, Bool.not_false, ne_eq, not_true_eq_false, not_false_eq_true, Bool.false_eq_true, he, ev, AV.cells]
      refine ⟨elv, fun bx hbx => ?_⟩
      have f12 := f1.trans f2
      have f3 : Fr [] h (h2.set bx (.live [.int .i64 W, v, .nilsl] 56 true)) := f12.set' (f12.free hbx)
      have hh2 := hh.fr0 f2
      have T : Two h (h2.set bx (.live [.int .i64 W, v, .nilsl] 56 true)) b bx W.toNat L [] := by
        refine ⟨bw, bd, B, newHs W.toNat L, [], [], ⟨hh2.fr0 (Fr.new hbx), abs_new _ (by omega) r3 r4, ⟨f3, ⟨v, .nilsl, ?_, hr, rfl, .inl ⟨rfl, rfl, rfl⟩⟩, by simp, by simp [blocksR], ?_⟩, trivial, ?_, ?_⟩, by simp [newHs], rfl⟩
        · have : ((newHs W.toNat L).words.length : Int) = W := by simp [newHs]; omega
          rw [this]; exact H.get_same ..
        · intro c hc
          simp [blocksR] at hc; subst hc
          exact f12.free hbx
        · intro c hc q
          simp [blocksR] at q; subst q
          exact hh2.alive c hc hbx
        · exact fun c hc => hfr c hc
      generalize h2.set bx (.live [.int .i64 W, v, .nilsl] 56 true) = h3 at *
      refine join_r (fun (J : H → Prop) => ∀ h' l, Two h h' b bx W.toNat L l → l.length ≤ 150 → l.length ≤ ops.length → J h') ?_ fun J hJ => ?_
      · intro h' l t q1 q2
        refine hK h' b bx W.toNat L l t (by split at hW <;> omega) (fun q => by rw [if_neg (by omega)] at hW; omega) q1 q2
      · have ho3 := ho.fr f3
        refine few_c ho3 hm2 fun v' ops' hrr hl1 hl2 hsub => ?_
        have hr0 := hrr h ho
        have hr' := hrr _ ho3
        simp only [go_sem, reduceIte, Nat.reduceAdd, Nat.reduceSub, Nat.reduceMul, Nat.reducePow, Nat.reduceLT, Nat.reduceLeDiff, Nat.reduceEqDiff, Int.reduceAdd, Int.reduceSub, Int.reduceMul, Int.reduceNeg, Int.reducePow, Int.reduceLT, Int.reduceLE, Int.reduceEq, Int.reduceNe, Int.reduceToNat, Int.toNat_natCast, Nat.zero_add, Nat.add_zero, Nat.mul_one, Nat.one_mul, Bool.not_true, Bool.not_false, ne_eq, not_true_eq_false, not_false_eq_true, Bool.false_eq_true, hr'.len]
        refine loop_r (ops'.length + 1) (fun c ls h' => ∃ (l : List RV) (i : Nat), ls = [.int .i64 i] ∧ i ≤ ops'.length ∧ Two h h' b bx W.toNat L l ∧ l.length ≤ 150 ∧ l.length ≤ i ∧ Row h' v' ops'.length 5 (opsC ops') ∧ c = ops'.length + 1 - i)
          ⟨[], 0, rfl, by omega, T, by simp, by simp, hr', by omega⟩ ?_
        rintro c ls h' ⟨l, i, rfl, hi, t, l1, l2, hro, rfl⟩
        by_cases q1 : (i : Int) < ops'.length
        · have hi' : i < ops'.length := by omega
          obtain ⟨o, hoi⟩ : ∃ o, ops'[i]? = some o := ⟨ops'[i], by simp [hi']⟩
          have hoo := hok o (hsub o (List.mem_of_getElem? hoi))
          obtain ⟨b', q, x1, x2, x3⟩ := hro.el (i := i) (by omega) q1
          have x3 : h'.read b' q 5 = some o.cells := by
            rw [x3, Int.toNat_natCast]
            exact congrArg some (flat_drop OpI.cells 5 (fun _ => rfl) ops' i o hoi)
          simp only [go_sem, reduceIte, Nat.reduceAdd, Nat.reduceSub, Nat.reduceMul, Nat.reducePow, Nat.reduceLT, Nat.reduceLeDiff, Nat.reduceEqDiff, Int.reduceAdd, Int.reduceSub, Int.reduceMul, Int.reduceNeg, Int.reducePow, Int.reduceLT, Int.reduceLE, Int.reduceEq, Int.reduceNe, Int.reduceToNat, Int.toNat_natCast, Nat.zero_add, Nat.add_zero, Nat.mul_one, Nat.one_mul, Bool.not_true, Bool.not_false, ne_eq, not_true_eq_false, not_false_eq_true, Bool.false_eq_true, q1, x1, x3]
          refine ⟨rfl, fun d hd => ?_⟩
          have hw : (h'.set d (.live [.int .i64 0, .int .i64 0, .int .i64 0, .int .u64 0, .bool false] 72 true)).write d 0 o.cells = some (h'.set d (.live o.cells 72 true)) := write_new rfl rfl
          have ec : (AV.agg o.cells).cells = o.cells := rfl
          have el : o.cells.length = 5 := rfl
          have f4 : Fr [] h' (h'.set d (.live o.cells 72 true)) := (Fr.refl _ _).set' hd
          have t4 := t.keep0 f4
          have hro4 := hro.fr f4
          have gd : (h'.set d (.live o.cells 72 true)).get d = some (.live o.cells 72 true) := H.get_same ..
          have rd : (h'.set d (.live o.cells 72 true)).read d 0 5 = some o.cells := H.read_eq gd (by rw [el]; omega) rfl
          have c0 : (h'.set d (.live o.cells 72 true)).cell d 0 = some (.int .i64 o.k) := cell_of gd 0
          have en : IntKind.i64.wrap ((i : Int) + 1) = ((i + 1 : Nat) : Int) := by rw [i64_id (by omega) (by omega)]; rfl
          generalize h'.set d (.live o.cells 72 true) = h4 at *
          have t5 := t4
          obtain ⟨bw5, bd5, B5, s5, os5, BL5, t5, e5, e5'⟩ := t5
          obtain ⟨lv5, Lv5, cx, _, ov⟩ := t5.R.cells
          have step : (l.length < 150 ∨ o.k ≠ 1) → ∀ K : AV → H → Prop, (∀ h5 l5, Two h h5 b bx W.toNat L l5 → l5.length ≤ 150 → l5.length ≤ i + 1 → Row h5 v' ops'.length 5 (opsC ops') → K (.bool true) h5) → C 74 [.ptr b 0, .ptr bx 0, .agg o.cells] h4 K := by
            intro hk N hN
            refine does_c t4 (by omega) hoo fun h5 l5 t5 g1 g2 => ?_
            have hro5 : Row h5 v' ops'.length 5 (opsC ops') := by
              obtain ⟨_, _, _, _, _, _, T5, _⟩ := t5
              exact hr0.fr T5.R.fr
            refine hN h5 l5 t5 ?_ (by omega) hro5
            rcases hk with hk | hk
            · omega
            · rw [g2 hk]; exact l1
          by_cases k1 : o.k = 1
          · by_cases k2 : (l.length : Int) < 150
            · simp only [go_sem, reduceIte, Nat.reduceAdd, Nat.reduceSub, Nat.reduceMul, Nat.reducePow, Nat.reduceLT, Nat.reduceLeDiff, Nat.reduceEqDiff, Int.reduceAdd, Int.reduceSub, Int.reduceMul, Int.reduceNeg, Int.reducePow, Int.reduceLT, Int.reduceLE, Int.reduceEq, Int.reduceNe, Int.reduceToNat, Int.toNat_natCast, Nat.zero_add, Nat.add_zero, Nat.mul_one, Nat.one_mul, Bool.not_true, Bool.not_false, ne_eq, not_true_eq_false, not_false_eq_true, Bool.false_eq_true, stA_p, ec, el, hw, c0, k1, cx, ov.row.len, k2, rd]
              exact step (.inl (by omega)) _ fun h5 l5 t5 g1 g2 g3 => ⟨ops'.length + 1 - (i + 1), by omega, l5, i + 1, by rw [en], by omega, t5, g1, g2, g3, rfl⟩
            · simp only [go_sem, reduceIte, Nat.reduceAdd, Nat.reduceSub, Nat.reduceMul, Nat.reducePow, Nat.reduceLT, Nat.reduceLeDiff, Nat.reduceEqDiff, Int.reduceAdd, Int.reduceSub, Int.reduceMul, Int.reduceNeg, Int.reducePow, Int.reduceLT, Int.reduceLE, Int.reduceEq, Int.reduceNe, Int.reduceToNat, Int.toNat_natCast, Nat.zero_add, Nat.add_zero, Nat.mul_one, Nat.one_mul, Bool.not_true, Bool.not_false, ne_eq, not_true_eq_false, not_false_eq_true, Bool.false_eq_true, stA_p, ec, el, hw, c0, k1, cx, ov.row.len, k2, en]
              exact ⟨_, by omega, l, i + 1, rfl, by omega, t4, l1, by omega, hro4, rfl⟩
          · simp only [go_sem, reduceIte, Nat.reduceAdd, Nat.reduceSub, Nat.reduceMul, Nat.reducePow, Nat.reduceLT, Nat.reduceLeDiff, Nat.reduceEqDiff, Int.reduceAdd, Int.reduceSub, Int.reduceMul, Int.reduceNeg, Int.reducePow, Int.reduceLT, Int.reduceLE, Int.reduceEq, Int.reduceNe, Int.reduceToNat, Int.toNat_natCast, Nat.zero_add, Nat.add_zero, Nat.mul_one, Nat.one_mul, Bool.not_true, Bool.not_false, ne_eq, not_true_eq_false, not_false_eq_true, Bool.false_eq_true, stA_p, ec, el, hw, c0, k1, rd]
            exact step (.inr k1) _ fun h5 l5 t5 g1 g2 g3 => ⟨ops'.length + 1 - (i + 1), by omega, l5, i + 1, by rw [en], by omega, t5, g1, g2, g3, rfl⟩
        · simp only [go_sem, reduceIte, Nat.reduceAdd, Nat.reduceSub, Nat.reduceMul, Nat.reducePow, Nat.reduceLT, Nat.reduceLeDiff, Nat.reduceEqDiff, Int.reduceAdd, Int.reduceSub, Int.reduceMul, Int.reduceNeg, Int.reducePow, Int.reduceLT, Int.reduceLE, Int.reduceEq, Int.reduceNe, Int.reduceToNat, Int.toNat_natCast, Nat.zero_add, Nat.add_zero, Nat.mul_one, Nat.one_mul, Bool.not_true, Bool.not_false, ne_eq, not_true_eq_false, not_false_eq_true, Bool.false_eq_true, q1]
          exact hJ h' l t l1 (by omega)
  · by_cases h1 : 600 < (lays.length : Int)
    · obtain ⟨v', w1, w2⟩ := sl_none hl (j := 600) (by omega) (by omega)
      have w1 : sliceOp (.row 2) lv none (some (.int .i64 600)) none = some v' := w1
      simp only [go_sem, reduceIte, Nat.reduceAdd, Nat.reduceSub, Nat.reduceMul, Nat.reducePow, Nat.reduceLT, Nat.reduceLeDiff, Nat.reduceEqDiff, Int.reduceAdd, Int.reduceSub, Int.reduceMul, Int.reduceNeg, Int.reducePow, Int.reduceLT, Int.reduceLE, Int.reduceEq, Int.reduceNe, Int.reduceToNat, Int.toNat_natCast, Nat.zero_add, Nat.add_zero, Nat.mul_one, Nat.one_mul, Bool.not_true, Bool.not_false, ne_eq, not_true_eq_false, not_false_eq_true, Bool.false_eq_true, hl.len, h1, w1]
      unfold lc at w2
      rw [flat_take _ 2 (fun _ => rfl)] at w2
      refine hJ v' (lays.take 600) ?_ (by simp; omega)
      have : (lays.take 600).length = 600 := by simp; omega
      rw [this]; exact w2
    · simp only [go_sem, reduceIte, Nat.reduceAdd, Nat.reduceSub, Nat.reduceMul, Nat.reducePow, Nat.reduceLT, Nat.reduceLeDiff, Nat.reduceEqDiff, Int.reduceAdd, Int.reduceSub, Int.reduceMul, Int.reduceNeg, Int.reducePow, Int.reduceLT, Int.reduceLE, Int.reduceEq, Int.reduceNe, Int.reduceToNat, Int.toNat_natCast, Nat.zero_add, Nat.add_zero, Nat.mul_one, Nat.one_mul, Bool.not_true, Bool.not_false, ne_eq, not_true_eq_false, not_false_eq_true, Bool.false_eq_true, hl.len, h1]
      exact hJ lv lays hl hm
end
end Go.Proofs.Ytljkkfcokpimkaa.X
