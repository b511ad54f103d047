/- The reference's heap: a field or a byte set, an object more. -/
import Derived.Test.YtljkkfcokpimkaaV10
set_option linter.unusedVariables false
set_option linter.unusedSimpArgs false
set_option maxRecDepth 20000
namespace Go.Proofs.Ytljkkfcokpimkaa.X
open Go Go.RowKit

theorem st_val {h : H} {b e off : Nat} {cs : List AV} {v : AV} (hb : h.get b = some (.live cs e true)) (ho : off < cs.length) (hv : v.leaf = true) (hc : v.cells = [v]) : stA h 1 (.ptr b off) v = some (h.set b (.live (cs.set off v) e true)) := by
  simp only [stA, hc, List.length_singleton, if_true]
  exact write_one hb ho hv
theorem bc_set (l : List Nat) (i c : Nat) : (bc l).set i (.int .u8 c) = bc (l.set i c) := by simp [bc, List.map_set]
theorem mem_blocks {bx : Nat} {BL : List Nat} {l : List RV} {k : Nat} {x : RV} (hx : l[k]? = some x) {c : Nat} (hc : c ∈ x.blocks) : c ∈ blocksR bx BL l := by
  unfold blocksR
  simp only [List.mem_cons, List.mem_append, List.mem_flatMap]
  exact .inr (.inr ⟨x, List.mem_of_getElem? hx, hc⟩)
section
variable {h0 h : H} {bx : Nat} {words : Int} {lays : List (Int × Int)} {BL : List Nat} {l : List RV}
theorem rset_c (R : RefAt h0 h bx words lays BL l) (hl : l.length ≤ 1000) (a i : Int) {w : Int} (w0 : 0 ≤ w) (w1 : w < 18446744073709551616) {K : AV → H → Prop}
    (hno : (hasF l a i && fitsR l w) = false → ∀ h', Fr [] h h' → K (.int .i64 1) h')
    (hyes : (hasF l a i && fitsR l w) = true → ∀ h', Fr (blocksR bx BL l) h h' → RefAt h0 h' bx words lays BL (modR l a (·.setF i.toNat w)) → K (.int .i64 0) h') : C 103 [.ptr bx 0, .int .i64 a, .int .i64 i, .int .u64 w] h K := by
  refine run103 ?_
  unfold sh103
  refine rfind_c R hl a fun h1 f1 => ?_
  have R1 := R.keep0 f1
  obtain ⟨lv, Lv, c, r, o⟩ := R1.cells
  rcases findR_spec l a 0 with ⟨g1, g2⟩ | ⟨k, x, g1, g2, g3, g4⟩
  · have q : hasF l a i = false := by unfold hasF atR; rw [find_none g2]
    rw [q] at hno
    simp only [go_sem, reduceIte, Nat.reduceAdd, Nat.reduceSub, Nat.reduceMul, Nat.reducePow, Nat.reduceLT, Nat.reduceLeDiff, Nat.reduceEqDiff, Int.reduceAdd, Int.reduceSub, Int.reduceMul, Int.reduceNeg, Int.reducePow, Int.reduceLT, Int.reduceLE, Int.reduceEq, Int.reduceNe, Int.reduceToNat, Int.toNat_natCast, Nat.zero_add, Nat.add_zero, Nat.mul_one, Nat.one_mul, Bool.not_true, Bool.not_false, ne_eq, not_true_eq_false, not_false_eq_true, Bool.false_eq_true, g1]
    exact hno rfl h1 f1
  · have q : hasF l a i = (decide (0 ≤ i) && decide (i < x.r.fs.length)) := by unfold hasF atR; rw [g4]
    have gm := modR_set l a (·.setF i.toNat w) k x 0 g1 g2
    obtain ⟨b, p, p1, p2, p3⟩ := o.obj g2
    obtain ⟨c3, c4, c0⟩ := cells3 p2
    have hok := R1.el x (List.mem_of_getElem? g2)
    simp only [Nat.zero_add] at g1
    have gn : ¬ ((k : Nat) : Int) < 0 := by omega
    by_cases i0 : i < 0
    · have i0' : ¬ 0 ≤ i := by omega
      rw [q] at hno
      simp only [go_sem, reduceIte, Nat.reduceAdd, Nat.reduceSub, Nat.reduceMul, Nat.reducePow, Nat.reduceLT, Nat.reduceLeDiff, Nat.reduceEqDiff, Int.reduceAdd, Int.reduceSub, Int.reduceMul, Int.reduceNeg, Int.reducePow, Int.reduceLT, Int.reduceLE, Int.reduceEq, Int.reduceNe, Int.reduceToNat, Int.toNat_natCast, Nat.zero_add, Nat.add_zero, Nat.mul_one, Nat.one_mul, Bool.not_true, Bool.not_false, ne_eq, not_true_eq_false, not_false_eq_true, Bool.false_eq_true, g1, gn, i0]
      exact hno (by simp [i0']) h1 f1
    · have i0' : 0 ≤ i := by omega
      by_cases i1 : i < (x.r.fs.length : Int)
      · have i1' : ¬ (x.r.fs.length : Int) ≤ i := by omega
        have q' : hasF l a i = true := by rw [q]; simp [i0', i1]
        rw [q', Bool.true_and] at hno hyes
        simp only [go_sem, reduceIte, Nat.reduceAdd, Nat.reduceSub, Nat.reduceMul, Nat.reducePow, Nat.reduceLT, Nat.reduceLeDiff, Nat.reduceEqDiff, Int.reduceAdd, Int.reduceSub, Int.reduceMul, Int.reduceNeg, Int.reducePow, Int.reduceLT, Int.reduceLE, Int.reduceEq, Int.reduceNe, Int.reduceToNat, Int.toNat_natCast, Nat.zero_add, Nat.add_zero, Nat.mul_one, Nat.one_mul, Bool.not_true, Bool.not_false, ne_eq, not_true_eq_false, not_false_eq_true, Bool.false_eq_true, g1, gn, i0, c, p1, c3, hok.1.row.len, i1']
        refine rfits_c R1 hl w0 w1 fun h2 f2 => ?_
        have R2 := R1.keep0 f2
        obtain ⟨lv2, Lv2, cc, r2, o2⟩ := R2.cells
        obtain ⟨b2, p', p1', p2', _⟩ := o2.obj g2
        obtain ⟨c3', _, _⟩ := cells3 p2'
        have hok2 := R2.el x (List.mem_of_getElem? g2)
        cases hf : fitsR l w
        · simp only [go_sem, reduceIte, Nat.reduceAdd, Nat.reduceSub, Nat.reduceMul, Nat.reducePow, Nat.reduceLT, Nat.reduceLeDiff, Nat.reduceEqDiff, Int.reduceAdd, Int.reduceSub, Int.reduceMul, Int.reduceNeg, Int.reducePow, Int.reduceLT, Int.reduceLE, Int.reduceEq, Int.reduceNe, Int.reduceToNat, Int.toNat_natCast, Nat.zero_add, Nat.add_zero, Nat.mul_one, Nat.one_mul, Bool.not_true, Bool.not_false, ne_eq, not_true_eq_false, not_false_eq_true, Bool.false_eq_true]
          exact hno hf h2 (f1.trans f2)
        · rcases hok2.1.2 with ⟨z, _, _⟩ | ⟨bf, e1, e2, e3⟩
          · omega
          · have st := st_one (k := .u64) (n := w) e3 (off := i.toNat) (by rw [wc_length]; omega)
            rw [wc_set] at st
            rw [e1] at c3'
            simp only [go_sem, reduceIte, Nat.reduceAdd, Nat.reduceSub, Nat.reduceMul, Nat.reducePow, Nat.reduceLT, Nat.reduceLeDiff, Nat.reduceEqDiff, Int.reduceAdd, Int.reduceSub, Int.reduceMul, Int.reduceNeg, Int.reducePow, Int.reduceLT, Int.reduceLE, Int.reduceEq, Int.reduceNe, Int.reduceToNat, Int.toNat_natCast, Nat.zero_add, Nat.add_zero, Nat.mul_one, Nat.one_mul, Bool.not_true, Bool.not_false, ne_eq, not_true_eq_false, not_false_eq_true, Bool.false_eq_true, cc, p1', c3', i0', i1, st]
            refine hyes hf _ ((f1.trans f2).more.trans (Fr.put (mem_blocks g2 (by simp [RV.blocks, e2])))) ?_
            rw [gm]
            exact R2.putF g2 e2
      · have i1' : (x.r.fs.length : Int) ≤ i := by omega
        rw [q] at hno
        simp only [go_sem, reduceIte, Nat.reduceAdd, Nat.reduceSub, Nat.reduceMul, Nat.reducePow, Nat.reduceLT, Nat.reduceLeDiff, Nat.reduceEqDiff, Int.reduceAdd, Int.reduceSub, Int.reduceMul, Int.reduceNeg, Int.reducePow, Int.reduceLT, Int.reduceLE, Int.reduceEq, Int.reduceNe, Int.reduceToNat, Int.toNat_natCast, Nat.zero_add, Nat.add_zero, Nat.mul_one, Nat.one_mul, Bool.not_true, Bool.not_false, ne_eq, not_true_eq_false, not_false_eq_true, Bool.false_eq_true, g1, gn, i0, c, p1, c3, hok.1.row.len, i1']
        exact hno (by simp [i1]) h1 f1
theorem rsetByte_c (R : RefAt h0 h bx words lays BL l) (hl : l.length ≤ 1000) (a i : Int) (w : Nat) {K : AV → H → Prop}
    (hno : hasB l a i = false → ∀ h', Fr [] h h' → K (.int .i64 1) h')
    (hyes : hasB l a i = true → ∀ h', Fr (blocksR bx BL l) h h' → RefAt h0 h' bx words lays BL (modR l a (·.setB i.toNat w)) → K (.int .i64 0) h') : C 104 [.ptr bx 0, .int .i64 a, .int .i64 i, .int .u8 (w : Nat)] h K := by
  refine run104 ?_
  unfold sh104
  refine rfind_c R hl a fun h1 f1 => ?_
  have R1 := R.keep0 f1
  obtain ⟨lv, Lv, c, r, o⟩ := R1.cells
  rcases findR_spec l a 0 with ⟨g1, g2⟩ | ⟨k, x, g1, g2, g3, g4⟩
  · have q : hasB l a i = false := by unfold hasB atR; rw [find_none g2]
    simp only [go_sem, reduceIte, Nat.reduceAdd, Nat.reduceSub, Nat.reduceMul, Nat.reducePow, Nat.reduceLT, Nat.reduceLeDiff, Nat.reduceEqDiff, Int.reduceAdd, Int.reduceSub, Int.reduceMul, Int.reduceNeg, Int.reducePow, Int.reduceLT, Int.reduceLE, Int.reduceEq, Int.reduceNe, Int.reduceToNat, Int.toNat_natCast, Nat.zero_add, Nat.add_zero, Nat.mul_one, Nat.one_mul, Bool.not_true, Bool.not_false, ne_eq, not_true_eq_false, not_false_eq_true, Bool.false_eq_true, g1]
    exact hno q h1 f1
  · have q : hasB l a i = (decide (0 ≤ i) && decide (i < x.r.bs.length)) := by unfold hasB atR; rw [g4]
    have gm := modR_set l a (·.setB i.toNat w) k x 0 g1 g2
    obtain ⟨b, p, p1, p2, p3⟩ := o.obj g2
    obtain ⟨c3, c4, c0⟩ := cells3 p2
    have hok := R1.el x (List.mem_of_getElem? g2)
    simp only [Nat.zero_add] at g1
    have gn : ¬ ((k : Nat) : Int) < 0 := by omega
    by_cases i0 : i < 0
    · have i0' : ¬ 0 ≤ i := by omega
      simp only [go_sem, reduceIte, Nat.reduceAdd, Nat.reduceSub, Nat.reduceMul, Nat.reducePow, Nat.reduceLT, Nat.reduceLeDiff, Nat.reduceEqDiff, Int.reduceAdd, Int.reduceSub, Int.reduceMul, Int.reduceNeg, Int.reducePow, Int.reduceLT, Int.reduceLE, Int.reduceEq, Int.reduceNe, Int.reduceToNat, Int.toNat_natCast, Nat.zero_add, Nat.add_zero, Nat.mul_one, Nat.one_mul, Bool.not_true, Bool.not_false, ne_eq, not_true_eq_false, not_false_eq_true, Bool.false_eq_true, g1, gn, i0]
      exact hno (by rw [q]; simp [i0']) h1 f1
    · have i0' : 0 ≤ i := by omega
      by_cases i1 : i < (x.r.bs.length : Int)
      · have i1' : ¬ (x.r.bs.length : Int) ≤ i := by omega
        rcases hok.2.2 with ⟨z, _, _⟩ | ⟨bb, e1, e2, e3⟩
        · omega
        · have st := st_one (k := .u8) (n := (w : Nat)) e3 (off := i.toNat) (by rw [bc_length]; omega)
          rw [bc_set] at st
          have c4' := c4
          rw [e1] at c4'
          simp only [go_sem, reduceIte, Nat.reduceAdd, Nat.reduceSub, Nat.reduceMul, Nat.reducePow, Nat.reduceLT, Nat.reduceLeDiff, Nat.reduceEqDiff, Int.reduceAdd, Int.reduceSub, Int.reduceMul, Int.reduceNeg, Int.reducePow, Int.reduceLT, Int.reduceLE, Int.reduceEq, Int.reduceNe, Int.reduceToNat, Int.toNat_natCast, Nat.zero_add, Nat.add_zero, Nat.mul_one, Nat.one_mul, Bool.not_true, Bool.not_false, ne_eq, not_true_eq_false, not_false_eq_true, Bool.false_eq_true, g1, gn, i0, c, p1, c4', i1', i0', i1, st]
          refine hyes (by rw [q]; simp [i0', i1]) _ (f1.more.trans (Fr.put (mem_blocks g2 (by simp [RV.blocks, e2])))) ?_
          rw [gm]
          exact R1.putB g2 e2
      · have i1' : (x.r.bs.length : Int) ≤ i := by omega
        simp only [go_sem, reduceIte, Nat.reduceAdd, Nat.reduceSub, Nat.reduceMul, Nat.reducePow, Nat.reduceLT, Nat.reduceLeDiff, Nat.reduceEqDiff, Int.reduceAdd, Int.reduceSub, Int.reduceMul, Int.reduceNeg, Int.reducePow, Int.reduceLT, Int.reduceLE, Int.reduceEq, Int.reduceNe, Int.reduceToNat, Int.toNat_natCast, Nat.zero_add, Nat.add_zero, Nat.mul_one, Nat.one_mul, Bool.not_true, Bool.not_false, ne_eq, not_true_eq_false, not_false_eq_true, Bool.false_eq_true, g1, gn, i0, c, p1, c4, hok.2.row.len, i1']
        exact hno (by rw [q]; simp [i1]) h1 f1
theorem Own.ne {h1 h' : H} {ty esz : Nat} {v : AV} {n : Nat} {cs : List AV} (o : Own h1 h' ty esz v n cs) {d ty' : Nat} {cs' : List AV} {w : Bool} (hd : h'.get d = some (.live cs' ty' w)) (ht : ty ≠ ty') : ∀ n' p, v ≠ .sl d 0 n' p := by
  rintro n' p rfl
  rcases o.2 with ⟨_, q⟩ | ⟨b, q, _, q3⟩
  · cases q
  · injection q with q _
    rw [← q, hd] at q3
    injection q3 with q3; injection q3 with _ q3 _
    exact ht q3.symm
theorem Own.keep {h1 h' h'' : H} {ty esz : Nat} {v : AV} {n : Nat} {cs : List AV} (o : Own h1 h' ty esz v n cs) (k : ∀ c n' p, v = .sl c 0 n' p → ∀ ob, h'.get c = some ob → h''.get c = some ob) : Own h1 h'' ty esz v n cs := by
  refine ⟨o.1, ?_⟩
  rcases o.2 with q | ⟨b, q1, q2, q3⟩
  · exact .inl q
  · exact .inr ⟨b, q1, q2, k b _ _ q1 _ q3⟩
theorem Own.slv {h1 h' : H} {ty esz : Nat} {v : AV} {n : Nat} {cs : List AV} (o : Own h1 h' ty esz v n cs) : ∃ B, SlV h' ty esz v B n cs ∧ (∀ c ∈ B, h1.get c = none ∧ h'.get c = some (.live cs ty true)) ∧ B.Nodup := by
  rcases o.2 with ⟨q1, q2⟩ | ⟨b, q1, q2, q3⟩
  · exact ⟨[], ⟨o.1, .inl ⟨q1, q2, rfl⟩⟩, by simp, by simp⟩
  · exact ⟨[b], ⟨o.1, .inr ⟨b, q1, rfl, q3⟩⟩, by simp [q2, q3], by simp⟩
theorem RefAt.alive (R : RefAt h0 h bx words lays BL l) : ∀ c ∈ blocksR bx BL l, h.get c ≠ none := by
  intro c hc
  obtain ⟨lv, Lv, g1, g2, g3⟩ := R.st
  have sl : ∀ {ty esz v B n cs}, SlV h ty esz v B n cs → c ∈ B → h.get c ≠ none := fun o hB => by
    rcases o.2 with ⟨_, _, e⟩ | ⟨b, _, e, g⟩
    · rw [e] at hB; cases hB
    · rw [e] at hB; simp at hB; subst hB; rw [g]; simp
  simp only [blocksR, List.mem_cons, List.mem_append, List.mem_flatMap] at hc
  rcases hc with rfl | hc | ⟨x, hx, hc⟩
  · rw [g1]; simp
  · exact sl g3 hc
  · simp only [RV.blocks, List.mem_append] at hc
    rcases hc with hc | hc
    · exact sl (R.el x hx).1 hc
    · exact sl (R.el x hx).2 hc
/-- An object of the reference as it is made. -/
def newRO (lays : List (Int × Int)) (a i n : Int) : RO := ⟨a, i, n, if kindAt lays i = 3 then [] else List.replicate n.toNat 1, if kindAt lays i = 3 then List.replicate n.toNat 0 else []⟩
theorem ralloc_c (R : RefAt h0 h bx words lays BL l) (hl : l.length ≤ 1000) (hw0 : 0 ≤ words) (hw1 : words ≤ 65536) (i n : Int) {K : AV → H → Prop}
    (hE : (needN lays i n).2 ≠ 0 → ∀ h', Fr [] h h' → K (.tup [.int .i64 0, .int .i64 (needN lays i n).2]) h')
    (hF : (needN lays i n).2 = 0 → words - topR lays l < (needN lays i n).1 → ∀ h', Fr [] h h' → K (.tup [.int .i64 0, .int .i64 3]) h')
    (hG : (needN lays i n).2 = 0 → (needN lays i n).1 ≤ words - topR lays l → ∀ h' BL' x, Fr (blocksR bx BL l) h h' → RefAt h0 h' bx words lays BL' (l ++ [x]) → x.r = newRO lays (topR lays l) i n →
      (∀ c ∈ blocksR bx BL' (l ++ [x]), c ∈ blocksR bx BL l ∨ h.get c = none) → K (.tup [.int .i64 (topR lays l), .int .i64 0]) h') : C 102 [.ptr bx 0, .int .i64 i, .int .i64 n] h K := by
  refine run102 ?_
  obtain ⟨lv, Lv, c, r, o⟩ := R.cells
  have n53 := fun K => rneed_c (h := h) (bx := bx) (by rw [c]; rfl) r i n K
  by_cases he : (needN lays i n).2 = 0
  · obtain ⟨p1, p2, p3, p4, p5, p6⟩ := need_pos he
    simp only [sh102, n53, extA_t, List.getElem?_cons_zero, List.getElem?_cons_succ, valA_some, he, b_neq, ne_eq, not_true_eq_false, decide_false, condA_f]
    refine rtop_c R hl fun h1 f1 => ?_
    have R1 := R.keep0 f1
    have ht := topR_range lays l
    obtain ⟨lv1, Lv1, c1, r1, o1⟩ := R1.cells
    have e1 : IntKind.i64.wrap (words - topR lays l) = words - topR lays l := i64_id (by omega) (by omega)
    by_cases hk : words - topR lays l < (needN lays i n).1
    · simp only [go_sem, reduceIte, Nat.reduceAdd, Nat.reduceSub, Nat.reduceMul, Nat.reducePow, Nat.reduceLT, Nat.reduceLeDiff, Nat.reduceEqDiff, Int.reduceAdd, Int.reduceSub, Int.reduceMul, Int.reduceNeg, Int.reducePow, Int.reduceLT, Int.reduceLE, Int.reduceEq, Int.reduceNe, Int.reduceToNat, Int.toNat_natCast, Nat.zero_add, Nat.add_zero, Nat.mul_one, Nat.one_mul, Bool.not_true, Bool.not_false, ne_eq, not_true_eq_false, not_false_eq_true, Bool.false_eq_true, c1, e1, hk]
      exact hF he hk h1 f1
    · have ef : fillV [.int .i64 0, .int .i64 0, .int .i64 0, .nilsl, .nilsl] [(0, 1, .int .i64 (topR lays l)), (1, 1, .int .i64 i), (2, 1, .int .i64 n)] = some [.int .i64 (topR lays l), .int .i64 i, .int .i64 n, .nilsl, .nilsl] := rfl
      simp only [go_sem, reduceIte, Nat.reduceAdd, Nat.reduceSub, Nat.reduceMul, Nat.reducePow, Nat.reduceLT, Nat.reduceLeDiff, Nat.reduceEqDiff, Int.reduceAdd, Int.reduceSub, Int.reduceMul, Int.reduceNeg, Int.reducePow, Int.reduceLT, Int.reduceLE, Int.reduceEq, Int.reduceNe, Int.reduceToNat, Int.toNat_natCast, Nat.zero_add, Nat.add_zero, Nat.mul_one, Nat.one_mul, Bool.not_true, Bool.not_false, ne_eq, not_true_eq_false, not_false_eq_true, Bool.false_eq_true, c1, e1, hk, ef]
      refine ⟨rfl, fun d hd => ?_⟩
      have hd0 : h0.get d = none := R1.fr.free hd
      have hst : stA (h1.set d (.live [.int .i64 0, .int .i64 0, .int .i64 0, .nilsl, .nilsl] 89 true)) 5 (.ptr d 0) (.agg [.int .i64 (topR lays l), .int .i64 i, .int .i64 n, .nilsl, .nilsl]) = some (h1.set d (.live [.int .i64 (topR lays l), .int .i64 i, .int .i64 n, .nilsl, .nilsl] 89 true)) := by
        simp only [stA_p, AV.cells, List.length_cons, List.length_nil, Nat.reduceAdd, if_true]
        exact write_new rfl rfl
      simp only [hst, memA_some]
      have hi : ((i.toNat : Nat) : Int) = i := by omega
      have hdx : d ≠ bx := fun e => by
        obtain ⟨_, _, s1, _⟩ := R1.st
        rw [← e, hd] at s1; cases s1
      -- what is laid at d, round by round
      let St : H → Nat → Prop := fun h' j => ∃ fv bv, h'.get d = some (.live [.int .i64 (topR lays l), .int .i64 i, .int .i64 n, fv, bv] 89 true) ∧ Fr [] h1 h' ∧
        Own h1 h' 25 1 fv (if kindAt lays i = 3 then [] else List.replicate j (1 : Int)).length (wc (if kindAt lays i = 3 then [] else List.replicate j 1)) ∧
        Own h1 h' 5 1 bv (if kindAt lays i = 3 then List.replicate j 0 else []).length (bc (if kindAt lays i = 3 then List.replicate j 0 else []))
      refine join_r (fun (J : H → Prop) => ∀ h', St h' n.toNat → J h') ?_ fun J hJ => ?_
      · rintro h' ⟨fv, bv, gd, f', of, ob⟩
        have R2 := R1.keep0 f'
        obtain ⟨lv2, Lv2, s1, s2, s3⟩ := R2.st
        have cx : ∀ off, h'.cell bx off = [AV.int .i64 words, lv2, Lv2][off]? := fun off => cell_of s1 off
        have hleaf : fv.leaf = true ∧ fv.cells = [fv] := of.row.one
        have bleaf : bv.leaf = true ∧ bv.cells = [bv] := ob.row.one
        have rd : h'.read d 0 5 = some [.int .i64 (topR lays l), .int .i64 i, .int .i64 n, fv, bv] := H.read_eq gd (by simp) (by simp)
        have elv : leaves [AV.int .i64 (topR lays l), .int .i64 i, .int .i64 n, fv, bv] = true := by simp only [leaves, hleaf.1, bleaf.1]; rfl
        have ef5 : fillV [.int .i64 0, .int .i64 0, .int .i64 0, .nilsl, .nilsl] [(0, 5, .agg [.int .i64 (topR lays l), .int .i64 i, .int .i64 n, fv, bv])] = some [.int .i64 (topR lays l), .int .i64 i, .int .i64 n, fv, bv] := by
          simp only [fillV, AV.cells, elv]; rfl
        simp only [go_sem, reduceIte, Nat.reduceAdd, Nat.reduceSub, Nat.reduceMul, Nat.reducePow, Nat.reduceLT, Nat.reduceLeDiff, Nat.reduceEqDiff, Int.reduceAdd, Int.reduceSub, Int.reduceMul, Int.reduceNeg, Int.reducePow, Int.reduceLT, Int.reduceLE, Int.reduceEq, Int.reduceNe, Int.reduceToNat, Int.toNat_natCast, Nat.zero_add, Nat.add_zero, Nat.mul_one, Nat.one_mul, Bool.not_true, Bool.not_false, ne_eq, not_true_eq_false, not_false_eq_true, Bool.false_eq_true, cx, rd, ef5]
        have hown : Own h0 h' 89 5 Lv2 l.length (cellsR l) := by
          refine ⟨s3.1, ?_⟩
          rcases s3.2 with ⟨z1, z2, _⟩ | ⟨bL, z1, z2, z3⟩
          · exact .inl ⟨z1, z2⟩
          · exact .inr ⟨bL, z1, R.new bL (by simp [blocksR, z2]), z3⟩
        refine append_one' (h0 := h0) hown rfl (by decide) ?_ elv R2.fr ?_ fun v3 h3 o3 f3 k3 w3 => ?_
        · have : ∀ l : List RV, (∀ x ∈ l, x.ok h') → leaves (cellsR l) = true := by
            intro l
            induction l with
            | nil => intro _; rfl
            | cons x l ih =>
              intro hx
              have e : cellsR (x :: l) = x.cells ++ cellsR l := by simp [cellsR]
              rw [e, leaves_append, RV.leaves (hx x (by simp)), ih fun y hy => hx y (by simp [hy])]; rfl
          exact this l R2.el
        · unfold most; omega
        · have hLne : ∀ c, (∀ n' p, Lv2 ≠ .sl c 0 n' p) ↔ c ∉ BL := fun c => by
            rcases s3.2 with ⟨_, z2, z3⟩ | ⟨bL, z1, z2, _⟩
            · rw [z2, z3]; simp
            · rw [z1, z2]
              constructor
              · intro q hc; simp at hc; subst hc; exact q _ _ rfl
              · intro hc n' p q; injection q with q _; exact hc (by simp [q])
          have hnd := R.nd
          unfold blocksR at hnd
          rw [List.nodup_cons, List.nodup_append] at hnd
          have gx3 := k3 bx _ s1 ((hLne bx).2 fun q => hnd.1 (by simp [q]))
          have v3l := o3.row.one
          have st3 := st_val gx3 (off := 2) (by simp) v3l.1 v3l.2
          have cx3 : ∀ off, h3.cell bx off = [AV.int .i64 words, lv2, Lv2][off]? := fun off => cell_of gx3 off
          simp only [go_sem, reduceIte, Nat.reduceAdd, Nat.reduceSub, Nat.reduceMul, Nat.reducePow, Nat.reduceLT, Nat.reduceLeDiff, Nat.reduceEqDiff, Int.reduceAdd, Int.reduceSub, Int.reduceMul, Int.reduceNeg, Int.reducePow, Int.reduceLT, Int.reduceLE, Int.reduceEq, Int.reduceNe, Int.reduceToNat, Int.toNat_natCast, Nat.zero_add, Nat.add_zero, Nat.mul_one, Nat.one_mul, Bool.not_true, Bool.not_false, ne_eq, not_true_eq_false, not_false_eq_true, Bool.false_eq_true, st3]
          obtain ⟨b3, y1, y2⟩ := w3
          subst y1
          have y3 : h3.get b3 = some (.live (cellsR l ++ [AV.int .i64 (topR lays l), .int .i64 i, .int .i64 n, fv, bv]) 89 true) := by
            rcases o3.2 with ⟨z, _⟩ | ⟨b', z1, _, z3⟩
            · omega
            · injection z1 with z1 _; rw [z1]; exact z3
          obtain ⟨Bf, sf, hBf, ndf⟩ := of.slv
          obtain ⟨Bb, sb, hBb, ndb⟩ := ob.slv
          have al1 := R1.alive
          have al2 := R2.alive
          have nf : ∀ c ∈ Bf, c ∉ blocksR bx BL l := fun c hc q => al1 c q (hBf c hc).1
          have nb : ∀ c ∈ Bb, c ∉ blocksR bx BL l := fun c hc q => al1 c q (hBb c hc).1
          have nfb : ∀ c ∈ Bf, c ∉ Bb := fun c hc q => by
            have e1 := (hBf c hc).2; have e2 := (hBb c q).2
            rw [e1] at e2; injection e2 with e2; injection e2 with _ e2 _; cases e2
          have n3 : ∀ c o, h'.get c = some o → c ≠ b3 := fun c o hc e => by rw [e, y2] at hc; cases hc
          -- memory at the end
          have hget : ∀ c o, c ≠ bx → c ∉ BL → h'.get c = some o → (h3.set bx (.live ([AV.int .i64 words, lv2, Lv2].set 2 (.sl b3 0 (l.length + 1) (.more 5))) 56 true)).get c = some o := fun c o h1' h2' hc => by
            rw [H.get_other _ _ h1']
            exact k3 c o hc ((hLne c).2 h2')
          have inL : ∀ x ∈ l, ∀ c ∈ x.blocks, c ≠ bx ∧ c ∉ BL ∧ c ∈ blocksR bx BL l := fun x hx c hc => by
            have hm : c ∈ l.flatMap RV.blocks := List.mem_flatMap.2 ⟨x, hx, hc⟩
            refine ⟨fun e => hnd.1 (by rw [← e]; exact List.mem_append_right _ hm), fun q => hnd.2.2.2 c q c hm rfl, ?_⟩
            simp only [blocksR, List.mem_cons, List.mem_append]
            exact .inr (.inr hm)
          have sl' : ∀ {ty esz v B n cs}, SlV h' ty esz v B n cs → (∀ c ∈ B, c ≠ bx ∧ c ∉ BL) → SlV (h3.set bx (.live ([AV.int .i64 words, lv2, Lv2].set 2 (.sl b3 0 (l.length + 1) (.more 5))) 56 true)) ty esz v B n cs := fun o hB => by
            refine ⟨o.1, ?_⟩
            rcases o.2 with q | ⟨b', q1, q2, q3⟩
            · exact .inl q
            · exact .inr ⟨b', q1, q2, hget b' _ (hB b' (by simp [q2])).1 (hB b' (by simp [q2])).2 q3⟩
          have out : ∀ {B : List Nat}, (∀ c ∈ B, c ∉ blocksR bx BL l) → ∀ c ∈ B, c ≠ bx ∧ c ∉ BL := fun hB c hc => ⟨fun e => hB c hc (by simp [blocksR, e]), fun q => hB c hc (by simp [blocksR, q])⟩
          refine hG he (by omega) _ [b3] ⟨newRO lays (topR lays l) i n, fv, bv, Bf, Bb⟩ ?_ ⟨f3.set' (R.new bx (by simp [blocksR])), ⟨lv2, .sl b3 0 (l.length + 1) (.more 5), by rw [H.get_same]; rfl, s2, ?_⟩, ?_, ?_, ?_⟩ rfl ?_
          · refine (f1.more.trans ?_).trans (Fr.put (by simp [blocksR]))
            intro c o hc hg
            exact k3 c o (f' c o (by simp) hg) ((hLne c).2 fun q => hc (by simp [blocksR, q]))
          · have ec : cellsR (l ++ [⟨newRO lays (topR lays l) i n, fv, bv, Bf, Bb⟩]) = cellsR l ++ [AV.int .i64 (topR lays l), .int .i64 i, .int .i64 n, fv, bv] := by simp [cellsR, RV.cells, newRO]
            refine ⟨by rw [cellsR_length], .inr ⟨b3, by simp, rfl, ?_⟩⟩
            rw [H.get_other _ _ (fun e => n3 bx _ s1 e.symm), ec]
            exact y3
          · intro x hx
            rcases List.mem_append.1 hx with hx | hx
            · have hok := R2.el x hx
              exact ⟨sl' hok.1 fun c hc => by have := inL x hx c (by simp [RV.blocks, hc]); exact ⟨this.1, this.2.1⟩, sl' hok.2 fun c hc => by have := inL x hx c (by simp [RV.blocks, hc]); exact ⟨this.1, this.2.1⟩⟩
            · simp only [List.mem_singleton] at hx
              subst hx
              refine ⟨?_, ?_⟩
              · have := sl' sf (out nf)
                simpa [newRO] using this
              · have := sl' sb (out nb)
                simpa [newRO] using this
          · have hb3 : ∀ c ∈ blocksR bx BL l, c ≠ b3 := fun c hc => by
              obtain ⟨o, ho⟩ := Option.ne_none_iff_exists'.1 (al2 c hc)
              exact n3 c o ho
            have hb3f : b3 ∉ Bf := fun q => n3 b3 _ (hBf b3 q).2 rfl
            have hb3b : b3 ∉ Bb := fun q => n3 b3 _ (hBb b3 q).2 rfl
            have hflat : (l ++ [(⟨newRO lays (topR lays l) i n, fv, bv, Bf, Bb⟩ : RV)]).flatMap RV.blocks = l.flatMap RV.blocks ++ (Bf ++ Bb) := by simp [RV.blocks]
            unfold blocksR
            rw [hflat, List.nodup_cons, List.nodup_append, List.nodup_append, List.nodup_append]
            have inF : ∀ c ∈ l.flatMap RV.blocks, c ∈ blocksR bx BL l := fun c hc => by simp only [blocksR, List.mem_cons, List.mem_append]; exact .inr (.inr hc)
            refine ⟨?_, by simp, ⟨hnd.2.2.1, ⟨ndf, ndb, fun x hx y hy e => nfb x hx (by rw [e]; exact hy)⟩, ?_⟩, ?_⟩
            · intro q
              simp only [List.mem_append, List.mem_singleton] at q
              rcases q with q | q | q | q
              · exact n3 bx _ s1 q
              · exact hnd.1 (List.mem_append_right _ q)
              · exact nf bx q (by simp [blocksR])
              · exact nb bx q (by simp [blocksR])
            · intro x hx y hy e
              subst e
              rcases List.mem_append.1 hy with hy | hy
              · exact nf x hy (inF x hx)
              · exact nb x hy (inF x hx)
            · intro x hx y hy e
              simp only [List.mem_singleton] at hx
              subst hx; subst e
              rcases List.mem_append.1 hy with hy | hy
              · exact hb3 x (inF x hy) rfl
              · rcases List.mem_append.1 hy with hy | hy
                · exact hb3f hy
                · exact hb3b hy
          · intro c hc
            simp only [blocksR, List.mem_cons, List.mem_append, List.flatMap_append, List.flatMap_cons, List.flatMap_nil, List.append_nil, List.not_mem_nil, or_false, RV.blocks] at hc
            rcases hc with rfl | rfl | hc | hc | hc
            · exact R.new _ (by simp [blocksR])
            · exact R2.fr.free y2
            · exact R.new c (by simp only [blocksR, List.mem_cons, List.mem_append]; exact .inr (.inr hc))
            · exact R1.fr.free (hBf c hc).1
            · exact R1.fr.free (hBb c hc).1
          · intro c hc
            simp only [blocksR, List.mem_cons, List.mem_append, List.flatMap_append, List.flatMap_cons, List.flatMap_nil, List.append_nil, List.not_mem_nil, or_false, RV.blocks] at hc
            rcases hc with rfl | rfl | hc | hc | hc
            · exact .inl (by simp [blocksR])
            · exact .inr ((f1.trans f').free y2)
            · exact .inl (by simp only [blocksR, List.mem_cons, List.mem_append]; exact .inr (.inr hc))
            · exact .inr (f1.free (hBf c hc).1)
            · exact .inr (f1.free (hBb c hc).1)
      · refine loop_r n.toNat (fun k ls h' => ∃ j : Nat, ls = [.int .i64 j] ∧ (j : Int) ≤ n ∧ St h' j ∧ k = n.toNat - j) ⟨0, rfl, by omega, ⟨.nilsl, .nilsl, H.get_same .., Fr.new hd, by simpa [wc] using Own.nil h1 _ 25 1, by simpa [bc] using Own.nil h1 _ 5 1⟩, rfl⟩ ?_
        rintro k ls h' ⟨j, rfl, hj, ⟨fv, bv, gd, f', of, ob⟩, rfl⟩
        by_cases hlt : (j : Int) < n
        · have R2 := R1.keep0 f'
          obtain ⟨lv2, Lv2, c2, r2, o2⟩ := R2.cells
          obtain ⟨b2, q, q1, q2, q3, q4⟩ := r2.lay (lay_get (L := lays) (i := i) p2 p3)
          rw [hi] at q1
          have cd : ∀ off, h'.cell d off = [AV.int .i64 (topR lays l), .int .i64 i, .int .i64 n, fv, bv][off]? := fun off => cell_of gd off
          have e4 : IntKind.i64.wrap ((j : Int) + 1) = ((j + 1 : Nat) : Int) := by rw [i64_id (by omega) (by omega)]; rfl
          have hleaf : fv.leaf = true ∧ fv.cells = [fv] := of.row.one
          have bleaf : bv.leaf = true ∧ bv.cells = [bv] := ob.row.one
          by_cases k3 : kindAt lays i = 3
          · simp only [k3, if_true] at of ob
            simp only [go_sem, reduceIte, Nat.reduceAdd, Nat.reduceSub, Nat.reduceMul, Nat.reducePow, Nat.reduceLT, Nat.reduceLeDiff, Nat.reduceEqDiff, Int.reduceAdd, Int.reduceSub, Int.reduceMul, Int.reduceNeg, Int.reducePow, Int.reduceLT, Int.reduceLE, Int.reduceEq, Int.reduceNe, Int.reduceToNat, Int.toNat_natCast, Nat.zero_add, Nat.add_zero, Nat.mul_one, Nat.one_mul, Bool.not_true, Bool.not_false, ne_eq, not_true_eq_false, not_false_eq_true, Bool.false_eq_true, joinA, hlt, c2, q1, q2, k3, cd]
            refine append_one' ob rfl (by decide) (bc_leaves _) rfl f' (by simp; unfold most; omega) fun v' h3 o3 f3 m3 w3 => ?_
            have gd3 := m3 d _ gd (ob.ne gd (by decide))
            have v3l := o3.row.one
            have st3 := st_val gd3 (off := 4) (by simp) v3l.1 v3l.2
            simp only [go_sem, reduceIte, Nat.reduceAdd, Nat.reduceSub, Nat.reduceMul, Nat.reducePow, Nat.reduceLT, Nat.reduceLeDiff, Nat.reduceEqDiff, Int.reduceAdd, Int.reduceSub, Int.reduceMul, Int.reduceNeg, Int.reducePow, Int.reduceLT, Int.reduceLE, Int.reduceEq, Int.reduceNe, Int.reduceToNat, Int.toNat_natCast, Nat.zero_add, Nat.add_zero, Nat.mul_one, Nat.one_mul, Bool.not_true, Bool.not_false, ne_eq, not_true_eq_false, not_false_eq_true, Bool.false_eq_true, st3, e4]
            refine ⟨n.toNat - (j + 1), by omega, j + 1, rfl, by omega, ⟨fv, v', by rw [H.get_same]; rfl, f3.set' hd, ?_, ?_⟩, rfl⟩
            · simp only [k3, if_true]
              refine of.keep fun c n' p e ob' hc => ?_
              have ne1 : c ≠ d := fun q => of.ne gd (by decide) n' p (by rw [e, q])
              rw [H.get_other _ _ ne1]
              refine m3 c _ hc fun n2 p2 e2 => ?_
              rcases of.2 with ⟨_, z⟩ | ⟨b', z1, _, z3⟩
              · rw [e] at z; cases z
              · rw [e] at z1; injection z1 with z1 _
                exact ob.ne (z1 ▸ z3) (by decide) n2 p2 e2
            · simp only [k3, if_true]
              have : Own h1 (h3.set d (.live ([AV.int .i64 (topR lays l), .int .i64 i, .int .i64 n, fv, bv].set 4 v') 89 true)) 5 1 v' (j + 1) (bc (List.replicate j 0) ++ [.int .u8 0]) := by
                have o3' : Own h1 h3 5 1 v' (j + 1) (bc (List.replicate j 0) ++ [.int .u8 0]) := by simpa using o3
                refine o3'.keep fun c n' p e ob' hc => ?_
                rw [H.get_other _ _ (fun q => o3'.ne gd3 (by decide) n' p (by rw [e, q]))]
                exact hc
              rw [List.replicate_succ', bc_append, List.length_append, List.length_replicate]
              exact this
          · simp only [k3, if_false] at of ob
            simp only [go_sem, reduceIte, Nat.reduceAdd, Nat.reduceSub, Nat.reduceMul, Nat.reducePow, Nat.reduceLT, Nat.reduceLeDiff, Nat.reduceEqDiff, Int.reduceAdd, Int.reduceSub, Int.reduceMul, Int.reduceNeg, Int.reducePow, Int.reduceLT, Int.reduceLE, Int.reduceEq, Int.reduceNe, Int.reduceToNat, Int.toNat_natCast, Nat.zero_add, Nat.add_zero, Nat.mul_one, Nat.one_mul, Bool.not_true, Bool.not_false, ne_eq, not_true_eq_false, not_false_eq_true, Bool.false_eq_true, joinA, hlt, c2, q1, q2, k3, cd]
            refine append_one' of rfl (by decide) (wc_leaves _) rfl f' (by simp; unfold most; omega) fun v' h3 o3 f3 m3 w3 => ?_
            have gd3 := m3 d _ gd (of.ne gd (by decide))
            have v3l := o3.row.one
            have st3 := st_val gd3 (off := 3) (by simp) v3l.1 v3l.2
            simp only [go_sem, reduceIte, Nat.reduceAdd, Nat.reduceSub, Nat.reduceMul, Nat.reducePow, Nat.reduceLT, Nat.reduceLeDiff, Nat.reduceEqDiff, Int.reduceAdd, Int.reduceSub, Int.reduceMul, Int.reduceNeg, Int.reducePow, Int.reduceLT, Int.reduceLE, Int.reduceEq, Int.reduceNe, Int.reduceToNat, Int.toNat_natCast, Nat.zero_add, Nat.add_zero, Nat.mul_one, Nat.one_mul, Bool.not_true, Bool.not_false, ne_eq, not_true_eq_false, not_false_eq_true, Bool.false_eq_true, st3, e4]
            refine ⟨n.toNat - (j + 1), by omega, j + 1, rfl, by omega, ⟨v', bv, by rw [H.get_same]; rfl, f3.set' hd, ?_, ?_⟩, rfl⟩
            · simp only [k3, if_false]
              have : Own h1 (h3.set d (.live ([AV.int .i64 (topR lays l), .int .i64 i, .int .i64 n, fv, bv].set 3 v') 89 true)) 25 1 v' (j + 1) (wc (List.replicate j 1) ++ [.int .u64 1]) := by
                have o3' : Own h1 h3 25 1 v' (j + 1) (wc (List.replicate j 1) ++ [.int .u64 1]) := by simpa using o3
                refine o3'.keep fun c n' p e ob' hc => ?_
                rw [H.get_other _ _ (fun q => o3'.ne gd3 (by decide) n' p (by rw [e, q]))]
                exact hc
              rw [List.replicate_succ', List.length_append, List.length_replicate]
              simpa [wc] using this
            · simp only [k3, if_false]
              refine ob.keep fun c n' p e ob' hc => ?_
              have ne1 : c ≠ d := fun q => ob.ne gd (by decide) n' p (by rw [e, q])
              rw [H.get_other _ _ ne1]
              refine m3 c _ hc fun n2 p2 e2 => ?_
              rcases ob.2 with ⟨_, z⟩ | ⟨b', z1, _, z3⟩
              · rw [e] at z; cases z
              · rw [e] at z1; injection z1 with z1 _
                exact of.ne (z1 ▸ z3) (by decide) n2 p2 e2
        · have : j = n.toNat := by omega
          subst this
          simp only [go_sem, reduceIte, Nat.reduceAdd, Nat.reduceSub, Nat.reduceMul, Nat.reducePow, Nat.reduceLT, Nat.reduceLeDiff, Nat.reduceEqDiff, Int.reduceAdd, Int.reduceSub, Int.reduceMul, Int.reduceNeg, Int.reducePow, Int.reduceLT, Int.reduceLE, Int.reduceEq, Int.reduceNe, Int.reduceToNat, Int.toNat_natCast, Nat.zero_add, Nat.add_zero, Nat.mul_one, Nat.one_mul, Bool.not_true, Bool.not_false, ne_eq, not_true_eq_false, not_false_eq_true, Bool.false_eq_true, hlt]
          exact hJ h' ⟨fv, bv, gd, f', of, ob⟩
  · simp only [sh102, go_sem, reduceIte, Nat.reduceAdd, Nat.reduceSub, Nat.reduceMul, Nat.reducePow, Nat.reduceLT, Nat.reduceLeDiff, Nat.reduceEqDiff, Int.reduceAdd, Int.reduceSub, Int.reduceMul, Int.reduceNeg, Int.reducePow, Int.reduceLT, Int.reduceLE, Int.reduceEq, Int.reduceNe, Int.reduceToNat, Int.toNat_natCast, Nat.zero_add, Nat.add_zero, Nat.mul_one, Nat.one_mul, Bool.not_true, Bool.not_false, ne_eq, not_true_eq_false, not_false_eq_true, Bool.false_eq_true, n53, he]
    exact hE he h (Fr.refl _ _)
end
end Go.Proofs.Ytljkkfcokpimkaa.X
