/- The reference's heap: its fields and bytes, read and set. -/
import Derived.Test.YtljkkfcokpimkaaV9
set_option linter.unusedVariables false
set_option linter.unusedSimpArgs false
set_option maxRecDepth 20000
namespace Go.Proofs.Ytljkkfcokpimkaa.X
open Go Go.RowKit

theorem nd_flat {α : Type} (f : α → List Nat) : ∀ (l : List α) (i j : Nat) (x y : α) (c : Nat), (l.flatMap f).Nodup → l[i]? = some x → l[j]? = some y → i ≠ j → c ∈ f x → c ∉ f y
  | [], i, j, x, y, c, _, hx, _, _, _ => by simp at hx
  | z :: l, i, j, x, y, c, hn, hx, hy, hij, hc => by
    rw [List.flatMap_cons, List.nodup_append] at hn
    intro hc'
    cases i with
    | zero =>
      cases j with
      | zero => exact hij rfl
      | succ j =>
        simp at hx hy; subst hx
        exact hn.2.2 c hc c (List.mem_flatMap.2 ⟨y, List.mem_of_getElem? hy, hc'⟩) rfl
    | succ i =>
      cases j with
      | zero =>
        simp at hx hy; subst hy
        exact hn.2.2 c hc' c (List.mem_flatMap.2 ⟨x, List.mem_of_getElem? hx, hc⟩) rfl
      | succ j => exact nd_flat f l i j x y c hn.2.1 (by simpa using hx) (by simpa using hy) (by omega) hc hc'
theorem flat_set {α β : Type} (f : α → List β) : ∀ (l : List α) (k : Nat) (x y : α), l[k]? = some x → f y = f x → (l.set k y).flatMap f = l.flatMap f
  | [], k, x, y, h, _ => by simp at h
  | z :: l, 0, x, y, h, e => by simp at h; subst h; simp [e]
  | z :: l, k + 1, x, y, h, e => by simp at h; simp [flat_set f l k x y h e]
theorem findR_spec : ∀ (l : List RV) (a : Int) (j : Nat), (findR l a j = -1 ∧ ∀ x ∈ l, x.r.a ≠ a) ∨ ∃ (i : Nat) (x : RV), findR l a j = ((j + i : Nat) : Int) ∧ l[i]? = some x ∧ x.r.a = a ∧ l.find? (fun x => decide (x.r.a = a)) = some x
  | [], a, j => .inl ⟨rfl, by simp⟩
  | x :: l, a, j => by
    rw [findR]
    by_cases h : x.r.a = a
    · rw [if_pos h]
      exact .inr ⟨0, x, rfl, rfl, h, by simp [h]⟩
    · rw [if_neg h]
      rcases findR_spec l a (j + 1) with ⟨h1, h2⟩ | ⟨i, y, h1, h2, h3, h4⟩
      · left
        refine ⟨h1, fun y hy => ?_⟩
        rcases List.mem_cons.1 hy with rfl | hy
        · exact h
        · exact h2 y hy
      · right
        exact ⟨i + 1, y, by rw [h1]; congr 1; omega, by simpa using h2, h3, by simp [h, h4]⟩
theorem find_none {l : List RV} {a : Int} (h : ∀ x ∈ l, x.r.a ≠ a) : l.find? (fun x => decide (x.r.a = a)) = none := by
  rw [List.find?_eq_none]; intro x hx; simpa using h x hx
def atR (l : List RV) (a : Int) : Option RV := l.find? fun x => decide (x.r.a = a)
def fitsR (l : List RV) (w : Int) : Bool := decide (w % 2 = 1) || (atR l (w / 2)).isSome
def hasF (l : List RV) (a i : Int) : Bool := match atR l a with | some x => decide (0 ≤ i) && decide (i < x.r.fs.length) | none => false
def hasB (l : List RV) (a i : Int) : Bool := match atR l a with | some x => decide (0 ≤ i) && decide (i < x.r.bs.length) | none => false
def getF (l : List RV) (a i : Int) : Int := match atR l a with | some x => x.r.fs.getD i.toNat 0 | none => 0
def RV.setF (x : RV) (i : Nat) (w : Int) : RV := { x with r := { x.r with fs := x.r.fs.set i w } }
def RV.setB (x : RV) (i : Nat) (c : Nat) : RV := { x with r := { x.r with bs := x.r.bs.set i c } }
/-- Changed at a place. -/
def modR (l : List RV) (a : Int) (f : RV → RV) : List RV := match l with
  | [] => []
  | x :: l => if x.r.a = a then f x :: l else x :: modR l a f
theorem modR_set : ∀ (l : List RV) (a : Int) (f : RV → RV) (i : Nat) (x : RV) (j : Nat), findR l a j = ((j + i : Nat) : Int) → l[i]? = some x → modR l a f = l.set i (f x)
  | [], a, f, i, x, j, _, h => by simp at h
  | y :: l, a, f, i, x, j, hf, h => by
    rw [findR] at hf
    rw [modR]
    by_cases hy : y.r.a = a
    · rw [if_pos hy] at hf ⊢
      have : i = 0 := by omega
      subst this
      simp at h; subst h; rfl
    · rw [if_neg hy] at hf ⊢
      cases i with
      | zero =>
        exfalso
        rcases findR_spec l a (j + 1) with ⟨h1, _⟩ | ⟨i, z, h1, _⟩
        · rw [h1] at hf; omega
        · rw [h1] at hf; omega
      | succ i =>
        rw [modR_set l a f i x (j + 1) (by rw [hf]; congr 1; omega) (by simpa using h)]
        rfl
section
variable {h0 h : H} {bx : Nat} {words : Int} {lays : List (Int × Int)} {BL : List Nat} {l : List RV}
theorem rfits_c (R : RefAt h0 h bx words lays BL l) (hl : l.length ≤ 1000) {w : Int} (w0 : 0 ≤ w) (w1 : w < 18446744073709551616) {K : AV → H → Prop} (hK : ∀ h', Fr [] h h' → K (.bool (fitsR l w)) h') : C 69 [.ptr bx 0, .int .u64 w] h K := by
  refine run69 ?_
  have e1 : w.tmod 2 = w % 2 := Int.tmod_eq_emod_of_nonneg w0
  have e2 : IntKind.u64.wrap (w.tdiv 2) = w / 2 := by rw [Int.tdiv_eq_ediv_of_nonneg w0, u64_id (by omega) (by omega)]
  have e3 : IntKind.i64.wrap (w / 2) = w / 2 := i64_id (by omega) (by omega)
  by_cases h1 : w % 2 = 1
  · have e : fitsR l w = true := by simp [fitsR, h1]
    rw [e] at hK
    simp only [sh69, go_sem, reduceIte, Nat.reduceAdd, Nat.reduceSub, Nat.reduceMul, Nat.reducePow, Nat.reduceLT, Nat.reduceLeDiff, Nat.reduceEqDiff, Int.reduceAdd, Int.reduceSub, Int.reduceMul, Int.reduceNeg, Int.reducePow, Int.reduceLT, Int.reduceLE, Int.reduceEq, Int.reduceNe, Int.reduceToNat, Int.toNat_natCast, Nat.zero_add, Nat.add_zero, Nat.mul_one, Nat.one_mul, Bool.not_true, Bool.not_false, ne_eq, not_true_eq_false, not_false_eq_true, Bool.false_eq_true, e1, h1]
    exact hK h (Fr.refl _ _)
  · have e : fitsR l w = (atR l (w / 2)).isSome := by simp [fitsR, h1]
    rw [e] at hK
    simp only [sh69, go_sem, reduceIte, Nat.reduceAdd, Nat.reduceSub, Nat.reduceMul, Nat.reducePow, Nat.reduceLT, Nat.reduceLeDiff, Nat.reduceEqDiff, Int.reduceAdd, Int.reduceSub, Int.reduceMul, Int.reduceNeg, Int.reducePow, Int.reduceLT, Int.reduceLE, Int.reduceEq, Int.reduceNe, Int.reduceToNat, Int.toNat_natCast, Nat.zero_add, Nat.add_zero, Nat.mul_one, Nat.one_mul, Bool.not_true, Bool.not_false, ne_eq, not_true_eq_false, not_false_eq_true, Bool.false_eq_true, e1, h1, e2, e3]
    refine rfind_c R hl _ fun h' f => ?_
    rcases findR_spec l (w / 2) 0 with ⟨g1, g2⟩ | ⟨i, x, g1, g2, g3, g4⟩
    · have q : atR l (w / 2) = none := find_none g2
      rw [q] at hK
      simp only [go_sem, reduceIte, Nat.reduceAdd, Nat.reduceSub, Nat.reduceMul, Nat.reducePow, Nat.reduceLT, Nat.reduceLeDiff, Nat.reduceEqDiff, Int.reduceAdd, Int.reduceSub, Int.reduceMul, Int.reduceNeg, Int.reducePow, Int.reduceLT, Int.reduceLE, Int.reduceEq, Int.reduceNe, Int.reduceToNat, Int.toNat_natCast, Nat.zero_add, Nat.add_zero, Nat.mul_one, Nat.one_mul, Bool.not_true, Bool.not_false, ne_eq, not_true_eq_false, not_false_eq_true, Bool.false_eq_true, g1]
      exact hK h' f
    · have q : atR l (w / 2) = some x := g4
      rw [q] at hK
      have p : (0 : Int) ≤ ((0 + i : Nat) : Int) := by omega
      simp only [Nat.zero_add] at g1 p
      simp only [go_sem, reduceIte, Nat.reduceAdd, Nat.reduceSub, Nat.reduceMul, Nat.reducePow, Nat.reduceLT, Nat.reduceLeDiff, Nat.reduceEqDiff, Int.reduceAdd, Int.reduceSub, Int.reduceMul, Int.reduceNeg, Int.reducePow, Int.reduceLT, Int.reduceLE, Int.reduceEq, Int.reduceNe, Int.reduceToNat, Int.toNat_natCast, Nat.zero_add, Nat.add_zero, Nat.mul_one, Nat.one_mul, Bool.not_true, Bool.not_false, ne_eq, not_true_eq_false, not_false_eq_true, Bool.false_eq_true, g1, p]
      exact hK h' f
theorem cells3 {b q : Nat} {x : RV} (hq : ∀ j, j < 5 → h.cell b (q + j) = x.cells[j]?) : h.cell b (q + 3) = some x.fv ∧ h.cell b (q + 4) = some x.bv ∧ h.cell b q = some (.int .i64 x.r.a) := ⟨hq 3 (by decide), hq 4 (by decide), hq 0 (by decide)⟩
theorem rhget_c (R : RefAt h0 h bx words lays BL l) (hl : l.length ≤ 1000) (a i : Int) {K : AV → H → Prop} (hK : ∀ h', Fr [] h h' → K (if hasF l a i then .tup [.int .u64 (getF l a i), .int .i64 0] else .tup [.int .u64 0, .int .i64 1]) h') : C 70 [.ptr bx 0, .int .i64 a, .int .i64 i] h K := by
  refine run70 ?_
  unfold sh70
  refine rfind_c R hl a fun h' f => ?_
  have hK := hK h' f
  have R' := R.keep0 f
  obtain ⟨lv, Lv, c, r, o⟩ := R'.cells
  rcases findR_spec l a 0 with ⟨g1, g2⟩ | ⟨k, x, g1, g2, g3, g4⟩
  · have q : hasF l a i = false := by unfold hasF atR; rw [find_none g2]
    rw [q] at hK
    simp only [go_sem, reduceIte, Nat.reduceAdd, Nat.reduceSub, Nat.reduceMul, Nat.reducePow, Nat.reduceLT, Nat.reduceLeDiff, Nat.reduceEqDiff, Int.reduceAdd, Int.reduceSub, Int.reduceMul, Int.reduceNeg, Int.reducePow, Int.reduceLT, Int.reduceLE, Int.reduceEq, Int.reduceNe, Int.reduceToNat, Int.toNat_natCast, Nat.zero_add, Nat.add_zero, Nat.mul_one, Nat.one_mul, Bool.not_true, Bool.not_false, ne_eq, not_true_eq_false, not_false_eq_true, Bool.false_eq_true, g1]
    exact hK
  · have q : hasF l a i = (decide (0 ≤ i) && decide (i < x.r.fs.length)) := by unfold hasF atR; rw [g4]
    have q' : getF l a i = x.r.fs.getD i.toNat 0 := by unfold getF atR; rw [g4]
    rw [q, q'] at hK
    obtain ⟨b, p, p1, p2, p3⟩ := o.obj g2
    obtain ⟨c3, c4, c0⟩ := cells3 p2
    have hok := R'.el x (List.mem_of_getElem? g2)
    simp only [Nat.zero_add] at g1
    have gn : ¬ ((k : Nat) : Int) < 0 := by omega
    by_cases i0 : i < 0
    · have i0' : ¬ 0 ≤ i := by omega
      simp only [go_sem, reduceIte, Nat.reduceAdd, Nat.reduceSub, Nat.reduceMul, Nat.reducePow, Nat.reduceLT, Nat.reduceLeDiff, Nat.reduceEqDiff, Int.reduceAdd, Int.reduceSub, Int.reduceMul, Int.reduceNeg, Int.reducePow, Int.reduceLT, Int.reduceLE, Int.reduceEq, Int.reduceNe, Int.reduceToNat, Int.toNat_natCast, Nat.zero_add, Nat.add_zero, Nat.mul_one, Nat.one_mul, Bool.not_true, Bool.not_false, ne_eq, not_true_eq_false, not_false_eq_true, Bool.false_eq_true, i0', Bool.false_and] at hK
      simp only [go_sem, reduceIte, Nat.reduceAdd, Nat.reduceSub, Nat.reduceMul, Nat.reducePow, Nat.reduceLT, Nat.reduceLeDiff, Nat.reduceEqDiff, Int.reduceAdd, Int.reduceSub, Int.reduceMul, Int.reduceNeg, Int.reducePow, Int.reduceLT, Int.reduceLE, Int.reduceEq, Int.reduceNe, Int.reduceToNat, Int.toNat_natCast, Nat.zero_add, Nat.add_zero, Nat.mul_one, Nat.one_mul, Bool.not_true, Bool.not_false, ne_eq, not_true_eq_false, not_false_eq_true, Bool.false_eq_true, g1, gn, i0]
      exact hK
    · have i0' : 0 ≤ i := by omega
      by_cases i1 : i < (x.r.fs.length : Int)
      · have i1' : ¬ (x.r.fs.length : Int) ≤ i := by omega
        obtain ⟨b2, o2, t1, t2⟩ := hok.1.row.at (i := i) (x := .int .u64 (x.r.fs.getD i.toNat 0)) i0' i1 (by
          rw [wc_get, List.getElem?_eq_getElem (by omega), List.getD_eq_getElem?_getD, List.getElem?_eq_getElem (by omega)]; rfl)
        simp only [go_sem, reduceIte, Nat.reduceAdd, Nat.reduceSub, Nat.reduceMul, Nat.reducePow, Nat.reduceLT, Nat.reduceLeDiff, Nat.reduceEqDiff, Int.reduceAdd, Int.reduceSub, Int.reduceMul, Int.reduceNeg, Int.reducePow, Int.reduceLT, Int.reduceLE, Int.reduceEq, Int.reduceNe, Int.reduceToNat, Int.toNat_natCast, Nat.zero_add, Nat.add_zero, Nat.mul_one, Nat.one_mul, Bool.not_true, Bool.not_false, ne_eq, not_true_eq_false, not_false_eq_true, Bool.false_eq_true, i0', i1, Bool.true_and] at hK
        simp only [go_sem, reduceIte, Nat.reduceAdd, Nat.reduceSub, Nat.reduceMul, Nat.reducePow, Nat.reduceLT, Nat.reduceLeDiff, Nat.reduceEqDiff, Int.reduceAdd, Int.reduceSub, Int.reduceMul, Int.reduceNeg, Int.reducePow, Int.reduceLT, Int.reduceLE, Int.reduceEq, Int.reduceNe, Int.reduceToNat, Int.toNat_natCast, Nat.zero_add, Nat.add_zero, Nat.mul_one, Nat.one_mul, Bool.not_true, Bool.not_false, ne_eq, not_true_eq_false, not_false_eq_true, Bool.false_eq_true, g1, gn, i0, c, p1, c3, hok.1.row.len, i1', t1, t2]
        exact hK
      · have i1' : (x.r.fs.length : Int) ≤ i := by omega
        simp only [go_sem, reduceIte, Nat.reduceAdd, Nat.reduceSub, Nat.reduceMul, Nat.reducePow, Nat.reduceLT, Nat.reduceLeDiff, Nat.reduceEqDiff, Int.reduceAdd, Int.reduceSub, Int.reduceMul, Int.reduceNeg, Int.reducePow, Int.reduceLT, Int.reduceLE, Int.reduceEq, Int.reduceNe, Int.reduceToNat, Int.toNat_natCast, Nat.zero_add, Nat.add_zero, Nat.mul_one, Nat.one_mul, Bool.not_true, Bool.not_false, ne_eq, not_true_eq_false, not_false_eq_true, Bool.false_eq_true, i0', i1, Bool.true_and] at hK
        simp only [go_sem, reduceIte, Nat.reduceAdd, Nat.reduceSub, Nat.reduceMul, Nat.reducePow, Nat.reduceLT, Nat.reduceLeDiff, Nat.reduceEqDiff, Int.reduceAdd, Int.reduceSub, Int.reduceMul, Int.reduceNeg, Int.reducePow, Int.reduceLT, Int.reduceLE, Int.reduceEq, Int.reduceNe, Int.reduceToNat, Int.toNat_natCast, Nat.zero_add, Nat.add_zero, Nat.mul_one, Nat.one_mul, Bool.not_true, Bool.not_false, ne_eq, not_true_eq_false, not_false_eq_true, Bool.false_eq_true, g1, gn, i0, c, p1, c3, hok.1.row.len, i1']
        exact hK
theorem RefAt.putF (R : RefAt h0 h bx words lays BL l) {k : Nat} {x : RV} (hx : l[k]? = some x) {bf i : Nat} {w : Int} (hb : x.Bf = [bf]) : RefAt h0 (h.set bf (.live (wc (x.r.fs.set i w)) 25 true)) bx words lays BL (l.set k (x.setF i w)) := by
  obtain ⟨lv, Lv, s1, s2, s3⟩ := R.st
  have hxm := List.mem_of_getElem? hx
  have hbf : bf ∈ l.flatMap RV.blocks := List.mem_flatMap.2 ⟨x, hxm, by simp [RV.blocks, hb]⟩
  have hnd := R.nd
  unfold blocksR at hnd
  rw [List.nodup_cons, List.nodup_append] at hnd
  have hne : bx ≠ bf := fun e => hnd.1 (by rw [e]; simp; exact .inr (by simpa using hbf))
  have hBL : ∀ c ∈ BL, c ≠ bf := fun c hc => hnd.2.2.2 c hc bf hbf
  have hblk : blocksR bx BL (l.set k (x.setF i w)) = blocksR bx BL l := by unfold blocksR; rw [flat_set RV.blocks l k x (x.setF i w) hx rfl]
  have hcl : cellsR (l.set k (x.setF i w)) = cellsR l := flat_set RV.cells l k x (x.setF i w) hx rfl
  have hkeep : ∀ {ty esz v B n cs}, SlV h ty esz v B n cs → bf ∉ B → SlV (h.set bf (.live (wc (x.r.fs.set i w)) 25 true)) ty esz v B n cs := fun o hB => o.fr (S := [bf]) (Fr.put (by simp)) fun c hc q => hB (by simp at q; rw [← q]; exact hc)
  refine ⟨R.fr.set' (R.new bf (by unfold blocksR; simp; exact .inr (.inr (by simpa using hbf)))), ⟨lv, Lv, by rw [H.get_other _ _ hne]; exact s1, s2, ?_⟩, ?_, by rw [hblk]; exact R.nd, by rw [hblk]; exact R.new⟩
  · rw [hcl, List.length_set]
    exact hkeep s3 fun q => hBL bf q rfl
  · intro y hy
    obtain ⟨m, hm⟩ := List.getElem?_of_mem hy
    rw [List.getElem?_set] at hm
    by_cases hkm : k = m
    · subst hkm
      have hkl : k < l.length := (List.getElem?_eq_some_iff.1 hx).1
      rw [if_pos rfl, if_pos hkl] at hm
      injection hm with hm
      subst hm
      have hok := R.el x hxm
      have hnb : bf ∉ x.Bb := by
        have h1 : x.blocks.Nodup := by
          have := hnd.2.2.1
          obtain ⟨s, t, e⟩ := List.append_of_mem hxm
          rw [e, List.flatMap_append, List.flatMap_cons, List.nodup_append, List.nodup_append] at this
          exact this.2.1.1
        unfold RV.blocks at h1
        rw [hb, List.nodup_append] at h1
        exact fun q => h1.2.2 bf (by simp) bf q rfl
      refine ⟨⟨by simp [RV.setF, wc], ?_⟩, by simpa [RV.setF] using hkeep hok.2 hnb⟩
      rcases hok.1.2 with ⟨_, _, e⟩ | ⟨b', e1, e2, _⟩
      · rw [hb] at e; cases e
      · rw [hb] at e2
        injection e2 with e2 _
        subst e2
        exact .inr ⟨bf, by simp [RV.setF, e1], by simp [RV.setF, hb], by rw [H.get_same]; rfl⟩
    · rw [if_neg hkm] at hm
      have hok := R.el y (List.mem_of_getElem? hm)
      have hno : bf ∉ y.blocks := nd_flat RV.blocks l k m x y bf hnd.2.2.1 hx hm hkm (by simp [RV.blocks, hb])
      exact ⟨hkeep hok.1 fun q => hno (by simp [RV.blocks, q]), hkeep hok.2 fun q => hno (by simp [RV.blocks, q])⟩
theorem RefAt.putB (R : RefAt h0 h bx words lays BL l) {k : Nat} {x : RV} (hx : l[k]? = some x) {bb i : Nat} {w : Nat} (hb : x.Bb = [bb]) : RefAt h0 (h.set bb (.live (bc (x.r.bs.set i w)) 5 true)) bx words lays BL (l.set k (x.setB i w)) := by
  obtain ⟨lv, Lv, s1, s2, s3⟩ := R.st
  have hxm := List.mem_of_getElem? hx
  have hbf : bb ∈ l.flatMap RV.blocks := List.mem_flatMap.2 ⟨x, hxm, by simp [RV.blocks, hb]⟩
  have hnd := R.nd
  unfold blocksR at hnd
  rw [List.nodup_cons, List.nodup_append] at hnd
  have hne : bx ≠ bb := fun e => hnd.1 (by rw [e]; simp; exact .inr (by simpa using hbf))
  have hBL : ∀ c ∈ BL, c ≠ bb := fun c hc => hnd.2.2.2 c hc bb hbf
  have hblk : blocksR bx BL (l.set k (x.setB i w)) = blocksR bx BL l := by unfold blocksR; rw [flat_set RV.blocks l k x (x.setB i w) hx rfl]
  have hcl : cellsR (l.set k (x.setB i w)) = cellsR l := flat_set RV.cells l k x (x.setB i w) hx rfl
  have hkeep : ∀ {ty esz v B n cs}, SlV h ty esz v B n cs → bb ∉ B → SlV (h.set bb (.live (bc (x.r.bs.set i w)) 5 true)) ty esz v B n cs := fun o hB => o.fr (S := [bb]) (Fr.put (by simp)) fun c hc q => hB (by simp at q; rw [← q]; exact hc)
  refine ⟨R.fr.set' (R.new bb (by unfold blocksR; simp; exact .inr (.inr (by simpa using hbf)))), ⟨lv, Lv, by rw [H.get_other _ _ hne]; exact s1, s2, ?_⟩, ?_, by rw [hblk]; exact R.nd, by rw [hblk]; exact R.new⟩
  · rw [hcl, List.length_set]
    exact hkeep s3 fun q => hBL bb q rfl
  · intro y hy
    obtain ⟨m, hm⟩ := List.getElem?_of_mem hy
    rw [List.getElem?_set] at hm
    by_cases hkm : k = m
    · subst hkm
      have hkl : k < l.length := (List.getElem?_eq_some_iff.1 hx).1
      rw [if_pos rfl, if_pos hkl] at hm
      injection hm with hm
      subst hm
      have hok := R.el x hxm
      have hnb : bb ∉ x.Bf := by
        have h1 : x.blocks.Nodup := by
          have := hnd.2.2.1
          obtain ⟨s, t, e⟩ := List.append_of_mem hxm
          rw [e, List.flatMap_append, List.flatMap_cons, List.nodup_append, List.nodup_append] at this
          exact this.2.1.1
        unfold RV.blocks at h1
        rw [hb, List.nodup_append] at h1
        exact fun q => h1.2.2 bb q bb (by simp) rfl
      refine ⟨by simpa [RV.setB] using hkeep hok.1 hnb, ⟨by simp [RV.setB, bc], ?_⟩⟩
      rcases hok.2.2 with ⟨_, _, e⟩ | ⟨b', e1, e2, _⟩
      · rw [hb] at e; cases e
      · rw [hb] at e2
        injection e2 with e2 _
        subst e2
        exact .inr ⟨bb, by simp [RV.setB, e1], by simp [RV.setB, hb], by rw [H.get_same]; rfl⟩
    · rw [if_neg hkm] at hm
      have hok := R.el y (List.mem_of_getElem? hm)
      have hno : bb ∉ y.blocks := nd_flat RV.blocks l k m x y bb hnd.2.2.1 hx hm hkm (by simp [RV.blocks, hb])
      exact ⟨hkeep hok.1 fun q => hno (by simp [RV.blocks, q]), hkeep hok.2 fun q => hno (by simp [RV.blocks, q])⟩
end
end Go.Proofs.Ytljkkfcokpimkaa.X
