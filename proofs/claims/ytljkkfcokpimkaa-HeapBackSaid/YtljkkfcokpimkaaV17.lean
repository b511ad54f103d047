/- What is set is got, and nothing else changes. -/
import Derived.Test.YtljkkfcokpimkaaV16
set_option linter.unusedVariables false
set_option linter.unusedSimpArgs false
set_option maxRecDepth 20000
namespace Go.Proofs.Ytljkkfcokpimkaa.X
open Go Go.RowKit

theorem hasO_set (lays : List (Int × Int)) (os : List Ob) (a : Int) (i : Nat) (w : Int) (a' i' : Int) (c : Bool) : hasO lays (setO os a i w) a' i' c = hasO lays os a' i' c := by
  unfold hasO
  rw [setO_find]
  cases findO os a' with
  | none => rfl
  | some o => simp only [Option.map_some]; split <;> rfl
theorem mks_zero {h : H} {n : Nat} (hn : n ≤ 65536) {K : AV → H → Prop} (hK : ∀ m, h.get m = none → K (.sl m 0 n (.exact n)) (h.set m (.live (wc (List.replicate n 0)) 25 true))) : mksA h 25 [.int .u64 0] 8 (.int .i64 n) (.int .i64 n) K := by
  have n1 : natOf (.int .i64 (n : Int)) = some n := by simp [natOf]
  unfold mksA
  rw [n1]
  simp only
  refine ⟨⟨Nat.le_refl _, by unfold most; omega, by omega⟩, by rw [repCells_int]; exact leaves_replicate .., fun m hm => ?_⟩
  have := hK m hm
  rw [repCells_int]
  simpa [wc] using this
theorem Hs.wd_put (s : Hs) {a : Int} (h0 : 0 ≤ a) (h1 : a < s.words.length) (w : Int) {k : Int} (hk : 0 ≤ k) : (s.put a w).wd k = if k = a then w else s.wd k := by
  unfold Hs.wd Hs.put
  rw [List.getD_eq_getElem?_getD, List.getElem?_set]
  by_cases e : k = a
  · subst e; rw [if_pos rfl, if_pos (by omega), if_pos rfl]; rfl
  · rw [if_neg (by omega), if_neg e, List.getD_eq_getElem?_getD]
section
variable {h : H}
theorem get_b {b bw bd : Nat} {B : List Nat} {s : Hs} {os : List Ob} (hh : HeapAt h b bw bd B s) (A : Abs s os) {a i : Int} (K : AV → H → Prop) : C 64 [.ptr b 0, .int .i64 a, .int .i64 i] h K =
    K (if hasO s.lays os a i false then .tup [.int .u64 (s.wd (a + 1 + i)), .int .i64 0] else .tup [.int .u64 0, .int .i64 1]) h := by
  cases hq : hasO s.lays os a i false with
  | true =>
    obtain ⟨o, hf, k1, k2, k3⟩ := hasO_some hq
    have hlt := findO_lt os a o hf
    have htp := A.top; have htp2 := A.good.top; have g1 := A.good.wlen
    rw [get_a hh A (by omega), hq]
  | false =>
    refine callA_eq (run64 ?_) K
    simp only [sh64, go_sem, reduceIte, Nat.reduceAdd, Nat.reduceSub, Nat.reduceMul, Nat.reducePow, Nat.reduceLT, Nat.reduceLeDiff, Nat.reduceEqDiff, Int.reduceAdd, Int.reduceSub, Int.reduceMul, Int.reduceNeg, Int.reducePow, Int.reduceLT, Int.reduceLE, Int.reduceEq, Int.reduceNe, Int.reduceToNat, Int.toNat_natCast, Nat.zero_add, Nat.add_zero, Nat.mul_one, Nat.one_mul, Bool.not_true, Bool.not_false, ne_eq, not_true_eq_false, not_false_eq_true, Bool.false_eq_true, has_a hh A, hq]
theorem law13 (h : H) (ls : List (List AV)) (hl : LiesA h [.sl (.st [.int .i64, .int .i64]), .sl (.st [.int .i64, .int .i64, .int .i64, .int .u64, .bool]), .st [.int .i64, .int .i64, .int .i64, .int .u64, .bool]] ls) : C 13 (argsOf [.sl (.st [.int .i64, .int .i64]), .sl (.st [.int .i64, .int .i64, .int .i64, .int .u64, .bool]), .st [.int .i64, .int .i64, .int .i64, .int .u64, .bool]] ls) h yes := by
  obtain ⟨l0, ls, rfl, g0, hl⟩ := liesA_cons hl
  obtain ⟨l1, ls, rfl, g1, hl⟩ := liesA_cons hl
  obtain ⟨l2, ls, rfl, g2, hl⟩ := liesA_cons hl
  obtain rfl := liesA_nil hl
  obtain ⟨v, L, rfl, hr, hL, hm⟩ := lies_lays g0
  obtain ⟨vo, ops, rfl, hro, hops, hmo⟩ := lies_ops g1
  obtain ⟨o, rfl, ho⟩ := lies_op g2
  show C 13 [v, vo, .agg o.cells] h yes
  refine run13 ?_
  have ec : (AV.agg o.cells).cells = o.cells := rfl
  have w0 := ho.w0; have w1 := ho.w1
  simp only [sh13, go_sem, reduceIte, Nat.reduceAdd, Nat.reduceSub, Nat.reduceMul, Nat.reducePow, Nat.reduceLT, Nat.reduceLeDiff, Nat.reduceEqDiff, Int.reduceAdd, Int.reduceSub, Int.reduceMul, Int.reduceNeg, Int.reducePow, Int.reduceLT, Int.reduceLE, Int.reduceEq, Int.reduceNe, Int.reduceToNat, Int.toNat_natCast, Nat.zero_add, Nat.add_zero, Nat.mul_one, Nat.one_mul, Bool.not_true, Bool.not_false, ne_eq, not_true_eq_false, not_false_eq_true, Bool.false_eq_true, ec]
  refine ⟨rfl, fun d hd => ?_⟩
  have gd : (h.set d (.live o.cells 72 true)).get d = some (.live o.cells 72 true) := H.get_same ..
  have f1 : Fr [] h (h.set d (.live o.cells 72 true)) := (Fr.refl _ _).set' hd
  generalize h.set d (.live o.cells 72 true) = h1 at *
  refine made_c (hr.fr f1) hm (hro.fr f1) hmo hops 1000 (fun h' f => ?_) fun h' b bx n lays l t n1 n2 l1 l2 => ?_
  · simp only [go_sem, reduceIte, Nat.reduceAdd, Nat.reduceSub, Nat.reduceMul, Nat.reducePow, Nat.reduceLT, Nat.reduceLeDiff, Nat.reduceEqDiff, Int.reduceAdd, Int.reduceSub, Int.reduceMul, Int.reduceNeg, Int.reducePow, Int.reduceLT, Int.reduceLE, Int.reduceEq, Int.reduceNe, Int.reduceToNat, Int.toNat_natCast, Nat.zero_add, Nat.add_zero, Nat.mul_one, Nat.one_mul, Bool.not_true, Bool.not_false, ne_eq, not_true_eq_false, not_false_eq_true, Bool.false_eq_true]
    exact exLives_c fun h' _ => rfl
  · have n2 := n2 (by decide)
    have hn : n = 1000 := by omega
    subst hn
    obtain ⟨bw, bd, B, s, os, BL, t, e1, e2⟩ := t
    have gd' := t.R.fr d _ (by simp) gd
    have hdn : ∀ c ∈ b :: bw :: bd :: B, c ≠ d := fun c hc q => by have := t.new c hc; rw [q, gd] at this; cases this
    have cd : ∀ off, h'.cell d off = [AV.int .i64 o.k, .int .i64 o.a, .int .i64 o.b, .int .u64 o.w, .bool o.near][off]? := fun off => cell_of gd' off
    obtain ⟨lv, Lv, cx, _, ov⟩ := t.R.cells
    simp only [go_sem, reduceIte, Nat.reduceAdd, Nat.reduceSub, Nat.reduceMul, Nat.reducePow, Nat.reduceLT, Nat.reduceLeDiff, Nat.reduceEqDiff, Int.reduceAdd, Int.reduceSub, Int.reduceMul, Int.reduceNeg, Int.reducePow, Int.reduceLT, Int.reduceLE, Int.reduceEq, Int.reduceNe, Int.reduceToNat, Int.toNat_natCast, Nat.zero_add, Nat.add_zero, Nat.mul_one, Nat.one_mul, Bool.not_true, Bool.not_false, ne_eq, not_true_eq_false, not_false_eq_true, Bool.false_eq_true, b_pn, cx, cd]
    refine place_c ov t.range (by omega) ho.a0 ho.a1 fun p p0 p1 => ?_
    refine mks_zero (n := 1000) (by decide) fun m hmn => ?_
    have hmb : ∀ c ∈ b :: bw :: bd :: B, c ≠ m := fun c hc q => by have := t.hh.alive c hc; rw [q] at this; exact this hmn
    have hmd : d ≠ m := fun q => by rw [q, hmn] at gd'; cases gd'
    have hh := t.hh; have A := t.A
    clear t ov
    refine join_r (fun (J : H → Prop) => ∀ h', HeapAt h' b bw bd B s → h'.get d = some (.live o.cells 72 true) → h'.get m = some (.live (wc s.words) 25 true) → J h') ?_ fun J hJ => ?_
    · clear hmn cx cd gd' hh
      intro h' hh gd' gm
      -- set, got; a byte set, got
      have gh := hh.cells
      have hlay : ∀ a w, (s.put a w).lays = s.lays := fun _ _ => rfl
      have hlw : ∀ a w, (s.put a w).words.length = s.words.length := fun _ _ => by simp [Hs.put]
      have bwd : bw ≠ d := hdn bw (by simp)
      have bwm : bw ≠ m := hmb bw (by simp)
      obtain ⟨cc, hcc, hc8⟩ := u8_nat o.w
      have cd : ∀ off, h'.cell d off = [AV.int .i64 o.k, .int .i64 o.a, .int .i64 o.b, .int .u64 o.w, .bool o.near][off]? := fun off => cell_of gd' off
      have put2 : ∀ a w : Int, ((h'.set bw (.live (wc (s.put a w).words) 25 true)).get m = some (.live (wc s.words) 25 true)) ∧ (∀ off, (h'.set bw (.live (wc (s.put a w).words) 25 true)).cell d off = [AV.int .i64 o.k, .int .i64 o.a, .int .i64 o.b, .int .u64 o.w, .bool o.near][off]?) := fun a w =>
        ⟨by rw [H.get_other _ _ (fun e => bwm e.symm)]; exact gm, fun off => cell_of (by rw [H.get_other _ _ (fun e => bwd e.symm)]; exact gd') off⟩
      by_cases qA : (hasO s.lays os p o.b false && fitsO os o.w) = true
      · have qh : hasO s.lays os p o.b false = true ∧ fitsO os o.w = true := by simpa using qA
        obtain ⟨ob, hf, k1, k2, k3⟩ := hasO_some qh.1
        have k1 : kindAt s.lays ob.sh ≠ 3 := by simpa using k1
        have hbl := A.body hf
        rw [if_neg k1] at hbl
        have hi : ((o.b.toNat : Nat) : Int) = o.b := by omega
        have hlt := findO_lt os p ob hf
        have hrl : ob.row.length = ob.body.length + 1 := by simp [Ob.row]
        have htp := A.top; have htp2 := A.good.top
        have A1 := abs_set A hf (i := o.b.toNat) (w := o.w) (by omega) w0 w1
        rw [hi] at A1
        have hh1 := hh.put (p + 1 + o.b) o.w
        have hq1 : hasO (s.put (p + 1 + o.b) o.w).lays (setO os p o.b.toNat o.w) p o.b false = true := by rw [hlay, hasO_set]; exact qh.1
        have hqb : hasO (s.put (p + 1 + o.b) o.w).lays (setO os p o.b.toNat o.w) p o.b true = false := by rw [hlay, hasO_set]; unfold hasO; rw [hf]; simp [k1]
        obtain ⟨gm1, cd1⟩ := put2 (p + 1 + o.b) o.w
        have hwp := fun k hk => Hs.wd_put s (a := p + 1 + o.b) (by omega) (by omega) o.w (k := k) hk
        have hwd : (s.put (p + 1 + o.b) o.w).wd (p + 1 + o.b) = o.w := by rw [hwp _ (by omega), if_pos rfl]
        have hl1 := hlw (p + 1 + o.b) o.w
        simp only [go_sem, reduceIte, Nat.reduceAdd, Nat.reduceSub, Nat.reduceMul, Nat.reducePow, Nat.reduceLT, Nat.reduceLeDiff, Nat.reduceEqDiff, Int.reduceAdd, Int.reduceSub, Int.reduceMul, Int.reduceNeg, Int.reducePow, Int.reduceLT, Int.reduceLE, Int.reduceEq, Int.reduceNe, Int.reduceToNat, Int.toNat_natCast, Nat.zero_add, Nat.add_zero, Nat.mul_one, Nat.one_mul, Bool.not_true, Bool.not_false, ne_eq, not_true_eq_false, not_false_eq_true, Bool.false_eq_true, cd, set_a hh A w0 w1, qA, cd1, get_b hh1 A1, hq1, hwd, hcc, setByte_a hh1 A1 hc8, hqb, byte_a hh1 A1]
        generalize hg : s.put (p + 1 + o.b) o.w = s1 at *
        obtain ⟨Q, hQ⟩ : ∃ Q : Prop, Q := ⟨_, trivial⟩
        refine join_r (fun (J : AV → H → Prop) => ∀ n : Int, (n = 0 ∨ (n = 1 ∧ Q)) → J (.int .i64 n) (h'.set bw (.live (wc s1.words) 25 true))) ?_ fun J hJ => ?_
        · intro n hn
          rcases hn with rfl | ⟨rfl, hq⟩
          · simp only [go_sem, reduceIte, Nat.reduceAdd, Nat.reduceSub, Nat.reduceMul, Nat.reducePow, Nat.reduceLT, Nat.reduceLeDiff, Nat.reduceEqDiff, Int.reduceAdd, Int.reduceSub, Int.reduceMul, Int.reduceNeg, Int.reducePow, Int.reduceLT, Int.reduceLE, Int.reduceEq, Int.reduceNe, Int.reduceToNat, Int.toNat_natCast, Nat.zero_add, Nat.add_zero, Nat.mul_one, Nat.one_mul, Bool.not_true, Bool.not_false, ne_eq, not_true_eq_false, not_false_eq_true, Bool.false_eq_true]
            exact exLives_c fun h' _ => rfl
          · first
            | exact (hQ hq).elim
            | (simp only [go_sem, reduceIte, Nat.reduceAdd, Nat.reduceSub, Nat.reduceMul, Nat.reducePow, Nat.reduceLT, Nat.reduceLeDiff, Nat.reduceEqDiff, Int.reduceAdd, Int.reduceSub, Int.reduceMul, Int.reduceNeg, Int.reducePow, Int.reduceLT, Int.reduceLE, Int.reduceEq, Int.reduceNe, Int.reduceToNat, Int.toNat_natCast, Nat.zero_add, Nat.add_zero, Nat.mul_one, Nat.one_mul, Bool.not_true, Bool.not_false, ne_eq, not_true_eq_false, not_false_eq_true, Bool.false_eq_true]
               exact exLives_c fun h' _ => rfl)
        · refine loop_r 1001 (fun c ls h2 => ∃ (i : Nat) (n : Int), ls = [.int .i64 n, .int .i64 i] ∧ i ≤ 1000 ∧ (n = 0 ∨ (n = 1 ∧ Q ∧ (p + 1 + o.b) < i)) ∧ h2 = (h'.set bw (.live (wc s1.words) 25 true)) ∧ c = 1001 - i) ⟨0, 0, rfl, by omega, .inl rfl, rfl, rfl⟩ ?_
          rintro c ls h2 ⟨i, n, rfl, hi, hn, he, rfl⟩
          rw [he]
          by_cases q1 : (i : Int) < ((1000 : Nat) : Int)
          · have i0 : (0 : Int) ≤ i := by omega
            have en : IntKind.i64.wrap ((i : Int) + 1) = ((i + 1 : Nat) : Int) := by rw [i64_id (by omega) (by omega)]; rfl
            have en1 : IntKind.i64.wrap ((0 : Int) + 1) = 1 := rfl
            have en2 : IntKind.i64.wrap 1 = 1 := rfl
            have cm : (h'.set bw (.live (wc s1.words) 25 true)).cell m i = some (.int .u64 (s.wd i)) := by
              rw [cell_of gm1 i, wc_get]
              unfold Hs.wd
              rw [Int.toNat_natCast, List.getD_eq_getElem?_getD, List.getElem?_eq_getElem (by omega)]
              rfl
            have c1 : ¬ ((i : Int) < 0 ∨ (s1.words.length : Int) ≤ i) := by omega
            by_cases hdf : s1.wd i = s.wd i
            · simp only [go_sem, reduceIte, Nat.reduceAdd, Nat.reduceSub, Nat.reduceMul, Nat.reducePow, Nat.reduceLT, Nat.reduceLeDiff, Nat.reduceEqDiff, Int.reduceAdd, Int.reduceSub, Int.reduceMul, Int.reduceNeg, Int.reducePow, Int.reduceLT, Int.reduceLE, Int.reduceEq, Int.reduceNe, Int.reduceToNat, Int.toNat_natCast, Nat.zero_add, Nat.add_zero, Nat.mul_one, Nat.one_mul, Bool.not_true, Bool.not_false, ne_eq, not_true_eq_false, not_false_eq_true, Bool.false_eq_true, q1, i0, cm, load_c hh1, c1, hdf, en, Int.toNat_natCast]
              exact ⟨1001 - (i + 1), by omega, i + 1, n, rfl, by omega, hn.imp id fun ⟨a, b, c⟩ => ⟨a, b, by omega⟩, rfl, rfl⟩
            · have hx : Q ∧ (i : Int) = (p + 1 + o.b) := ⟨hQ, by rw [hwp i i0] at hdf; split at hdf <;> first | assumption | exact absurd rfl hdf⟩
              have hn0 : n = 0 := by
                rcases hn with q | ⟨_, _, q⟩
                · exact q
                · omega
              subst hn0
              simp only [go_sem, reduceIte, Nat.reduceAdd, Nat.reduceSub, Nat.reduceMul, Nat.reducePow, Nat.reduceLT, Nat.reduceLeDiff, Nat.reduceEqDiff, Int.reduceAdd, Int.reduceSub, Int.reduceMul, Int.reduceNeg, Int.reducePow, Int.reduceLT, Int.reduceLE, Int.reduceEq, Int.reduceNe, Int.reduceToNat, Int.toNat_natCast, Nat.zero_add, Nat.add_zero, Nat.mul_one, Nat.one_mul, Bool.not_true, Bool.not_false, ne_eq, not_true_eq_false, not_false_eq_true, Bool.false_eq_true, q1, i0, cm, load_c hh1, c1, hdf, en, en1, en2, Int.toNat_natCast]
              exact ⟨1001 - (i + 1), by omega, i + 1, 1, rfl, by omega, .inr ⟨rfl, hx.1, by omega⟩, rfl, rfl⟩
          · simp only [go_sem, reduceIte, Nat.reduceAdd, Nat.reduceSub, Nat.reduceMul, Nat.reducePow, Nat.reduceLT, Nat.reduceLeDiff, Nat.reduceEqDiff, Int.reduceAdd, Int.reduceSub, Int.reduceMul, Int.reduceNeg, Int.reducePow, Int.reduceLT, Int.reduceLE, Int.reduceEq, Int.reduceNe, Int.reduceToNat, Int.toNat_natCast, Nat.zero_add, Nat.add_zero, Nat.mul_one, Nat.one_mul, Bool.not_true, Bool.not_false, ne_eq, not_true_eq_false, not_false_eq_true, Bool.false_eq_true, q1]
            exact hJ n (hn.imp id fun ⟨a, b, _⟩ => ⟨a, b⟩)
      · have qA : (hasO s.lays os p o.b false && fitsO os o.w) = false := by simpa using qA
        have hget : ∀ K, C 64 [.ptr b 0, .int .i64 p, .int .i64 o.b] h' K = (if hasO s.lays os p o.b false then K (.tup [.int .u64 (s.wd (p + 1 + o.b)), .int .i64 0]) h' else K (.tup [.int .u64 0, .int .i64 1]) h') := fun K => by
          rw [get_b hh A]; split <;> rfl
        obtain ⟨x, f, hxf⟩ : ∃ x f : Int, ∀ K, C 64 [.ptr b 0, .int .i64 p, .int .i64 o.b] h' K = K (.tup [.int .u64 x, .int .i64 f]) h' := by
          cases hq : hasO s.lays os p o.b false
          · exact ⟨0, 1, fun K => by rw [hget, hq]; rfl⟩
          · exact ⟨_, 0, fun K => by rw [hget, hq]; rfl⟩
        cases qB : hasO s.lays os p o.b true with
        | true =>
          obtain ⟨ob, hf, k1, k2, k3⟩ := hasO_some qB
          have k1 : kindAt s.lays ob.sh = 3 := by simpa using k1
          have hbl := A.body hf
          rw [if_pos k1] at hbl
          have hi : ((o.b.toNat / 8 : Nat) : Int) = o.b / 8 := by omega
          have hlt := findO_lt os p ob hf
          have hrl : ob.row.length = ob.body.length + 1 := by simp [Ob.row]
          have htp := A.top; have htp2 := A.good.top
          have wr := A.good.wdr (p + 1 + o.b / 8)
          have pr := putW_range (k := (o.b % 8).toNat) (c := cc) wr.1 wr.2 (by omega) hc8
          have A1 := abs_set A hf (i := o.b.toNat / 8) (by omega) pr.1 pr.2
          rw [hi] at A1
          have hby : byteW (putW (s.wd (p + 1 + o.b / 8)) (o.b % 8).toNat cc) (o.b % 8).toNat = cc := by rw [byteW_put _ _ (by omega) (by omega) hc8, if_pos rfl]
          have hsb := fun K => setByte_a hh A (a := p) (i := o.b) hc8 K
          generalize putW (s.wd (p + 1 + o.b / 8)) (o.b % 8).toNat cc = pv at *
          have hh1 := hh.put (p + 1 + o.b / 8) pv
          have hqb : hasO (s.put (p + 1 + o.b / 8) pv).lays (setO os p (o.b.toNat / 8) pv) p o.b true = true := by rw [hlay, hasO_set]; exact qB
          obtain ⟨gm1, cd1⟩ := put2 (p + 1 + o.b / 8) pv
          have hwp := fun k hk => Hs.wd_put s (a := p + 1 + o.b / 8) (by omega) (by omega) pv (k := k) hk
          have hwd : (s.put (p + 1 + o.b / 8) pv).wd (p + 1 + o.b / 8) = pv := by rw [hwp _ (by omega), if_pos rfl]
          have hl1 := hlw (p + 1 + o.b / 8) pv
          simp only [go_sem, reduceIte, Nat.reduceAdd, Nat.reduceSub, Nat.reduceMul, Nat.reducePow, Nat.reduceLT, Nat.reduceLeDiff, Nat.reduceEqDiff, Int.reduceAdd, Int.reduceSub, Int.reduceMul, Int.reduceNeg, Int.reducePow, Int.reduceLT, Int.reduceLE, Int.reduceEq, Int.reduceNe, Int.reduceToNat, Int.toNat_natCast, Nat.zero_add, Nat.add_zero, Nat.mul_one, Nat.one_mul, Bool.not_true, Bool.not_false, ne_eq, not_true_eq_false, not_false_eq_true, Bool.false_eq_true, cd, set_a hh A w0 w1, qA, cd1, hxf, hcc, hsb, qB, hqb, byte_a hh1 A1, hwd, hby]
          generalize hg : s.put (p + 1 + o.b / 8) pv = s1 at *
          obtain ⟨Q, hQ⟩ : ∃ Q : Prop, Q := ⟨_, trivial⟩
          refine join_r (fun (J : AV → H → Prop) => ∀ n : Int, (n = 0 ∨ (n = 1 ∧ Q)) → J (.int .i64 n) (h'.set bw (.live (wc s1.words) 25 true))) ?_ fun J hJ => ?_
          · intro n hn
            rcases hn with rfl | ⟨rfl, hq⟩
            · simp only [go_sem, reduceIte, Nat.reduceAdd, Nat.reduceSub, Nat.reduceMul, Nat.reducePow, Nat.reduceLT, Nat.reduceLeDiff, Nat.reduceEqDiff, Int.reduceAdd, Int.reduceSub, Int.reduceMul, Int.reduceNeg, Int.reducePow, Int.reduceLT, Int.reduceLE, Int.reduceEq, Int.reduceNe, Int.reduceToNat, Int.toNat_natCast, Nat.zero_add, Nat.add_zero, Nat.mul_one, Nat.one_mul, Bool.not_true, Bool.not_false, ne_eq, not_true_eq_false, not_false_eq_true, Bool.false_eq_true]
              exact exLives_c fun h' _ => rfl
            · first
              | exact (hQ hq).elim
              | (simp only [go_sem, reduceIte, Nat.reduceAdd, Nat.reduceSub, Nat.reduceMul, Nat.reducePow, Nat.reduceLT, Nat.reduceLeDiff, Nat.reduceEqDiff, Int.reduceAdd, Int.reduceSub, Int.reduceMul, Int.reduceNeg, Int.reducePow, Int.reduceLT, Int.reduceLE, Int.reduceEq, Int.reduceNe, Int.reduceToNat, Int.toNat_natCast, Nat.zero_add, Nat.add_zero, Nat.mul_one, Nat.one_mul, Bool.not_true, Bool.not_false, ne_eq, not_true_eq_false, not_false_eq_true, Bool.false_eq_true]
                 exact exLives_c fun h' _ => rfl)
          · refine loop_r 1001 (fun c ls h2 => ∃ (i : Nat) (n : Int), ls = [.int .i64 n, .int .i64 i] ∧ i ≤ 1000 ∧ (n = 0 ∨ (n = 1 ∧ Q ∧ (p + 1 + o.b / 8) < i)) ∧ h2 = (h'.set bw (.live (wc s1.words) 25 true)) ∧ c = 1001 - i) ⟨0, 0, rfl, by omega, .inl rfl, rfl, rfl⟩ ?_
            rintro c ls h2 ⟨i, n, rfl, hi, hn, he, rfl⟩
            rw [he]
            by_cases q1 : (i : Int) < ((1000 : Nat) : Int)
            · have i0 : (0 : Int) ≤ i := by omega
              have en : IntKind.i64.wrap ((i : Int) + 1) = ((i + 1 : Nat) : Int) := by rw [i64_id (by omega) (by omega)]; rfl
              have en1 : IntKind.i64.wrap ((0 : Int) + 1) = 1 := rfl
              have en2 : IntKind.i64.wrap 1 = 1 := rfl
              have cm : (h'.set bw (.live (wc s1.words) 25 true)).cell m i = some (.int .u64 (s.wd i)) := by
                rw [cell_of gm1 i, wc_get]
                unfold Hs.wd
                rw [Int.toNat_natCast, List.getD_eq_getElem?_getD, List.getElem?_eq_getElem (by omega)]
                rfl
              have c1 : ¬ ((i : Int) < 0 ∨ (s1.words.length : Int) ≤ i) := by omega
              by_cases hdf : s1.wd i = s.wd i
              · simp only [go_sem, reduceIte, Nat.reduceAdd, Nat.reduceSub, Nat.reduceMul, Nat.reducePow, Nat.reduceLT, Nat.reduceLeDiff, Nat.reduceEqDiff, Int.reduceAdd, Int.reduceSub, Int.reduceMul, Int.reduceNeg, Int.reducePow, Int.reduceLT, Int.reduceLE, Int.reduceEq, Int.reduceNe, Int.reduceToNat, Int.toNat_natCast, Nat.zero_add, Nat.add_zero, Nat.mul_one, Nat.one_mul, Bool.not_true, Bool.not_false, ne_eq, not_true_eq_false, not_false_eq_true, Bool.false_eq_true, q1, i0, cm, load_c hh1, c1, hdf, en, Int.toNat_natCast]
                exact ⟨1001 - (i + 1), by omega, i + 1, n, rfl, by omega, hn.imp id fun ⟨a, b, c⟩ => ⟨a, b, by omega⟩, rfl, rfl⟩
              · have hx : Q ∧ (i : Int) = (p + 1 + o.b / 8) := ⟨hQ, by rw [hwp i i0] at hdf; split at hdf <;> first | assumption | exact absurd rfl hdf⟩
                have hn0 : n = 0 := by
                  rcases hn with q | ⟨_, _, q⟩
                  · exact q
                  · omega
                subst hn0
                simp only [go_sem, reduceIte, Nat.reduceAdd, Nat.reduceSub, Nat.reduceMul, Nat.reducePow, Nat.reduceLT, Nat.reduceLeDiff, Nat.reduceEqDiff, Int.reduceAdd, Int.reduceSub, Int.reduceMul, Int.reduceNeg, Int.reducePow, Int.reduceLT, Int.reduceLE, Int.reduceEq, Int.reduceNe, Int.reduceToNat, Int.toNat_natCast, Nat.zero_add, Nat.add_zero, Nat.mul_one, Nat.one_mul, Bool.not_true, Bool.not_false, ne_eq, not_true_eq_false, not_false_eq_true, Bool.false_eq_true, q1, i0, cm, load_c hh1, c1, hdf, en, en1, en2, Int.toNat_natCast]
                exact ⟨1001 - (i + 1), by omega, i + 1, 1, rfl, by omega, .inr ⟨rfl, hx.1, by omega⟩, rfl, rfl⟩
            · simp only [go_sem, reduceIte, Nat.reduceAdd, Nat.reduceSub, Nat.reduceMul, Nat.reducePow, Nat.reduceLT, Nat.reduceLeDiff, Nat.reduceEqDiff, Int.reduceAdd, Int.reduceSub, Int.reduceMul, Int.reduceNeg, Int.reducePow, Int.reduceLT, Int.reduceLE, Int.reduceEq, Int.reduceNe, Int.reduceToNat, Int.toNat_natCast, Nat.zero_add, Nat.add_zero, Nat.mul_one, Nat.one_mul, Bool.not_true, Bool.not_false, ne_eq, not_true_eq_false, not_false_eq_true, Bool.false_eq_true, q1]
              exact hJ n (hn.imp id fun ⟨a, b, _⟩ => ⟨a, b⟩)
        | false =>
          simp only [go_sem, reduceIte, Nat.reduceAdd, Nat.reduceSub, Nat.reduceMul, Nat.reducePow, Nat.reduceLT, Nat.reduceLeDiff, Nat.reduceEqDiff, Int.reduceAdd, Int.reduceSub, Int.reduceMul, Int.reduceNeg, Int.reducePow, Int.reduceLT, Int.reduceLE, Int.reduceEq, Int.reduceNe, Int.reduceToNat, Int.toNat_natCast, Nat.zero_add, Nat.add_zero, Nat.mul_one, Nat.one_mul, Bool.not_true, Bool.not_false, ne_eq, not_true_eq_false, not_false_eq_true, Bool.false_eq_true, cd, set_a hh A w0 w1, qA, hxf, hcc, setByte_a hh A hc8, qB, byte_a hh A]
          obtain ⟨Q, hQ⟩ : ∃ Q : Prop, ¬ Q := ⟨_, not_false⟩
          refine join_r (fun (J : AV → H → Prop) => ∀ n : Int, (n = 0 ∨ (n = 1 ∧ Q)) → J (.int .i64 n) h') ?_ fun J hJ => ?_
          · intro n hn
            rcases hn with rfl | ⟨rfl, hq⟩
            · simp only [go_sem, reduceIte, Nat.reduceAdd, Nat.reduceSub, Nat.reduceMul, Nat.reducePow, Nat.reduceLT, Nat.reduceLeDiff, Nat.reduceEqDiff, Int.reduceAdd, Int.reduceSub, Int.reduceMul, Int.reduceNeg, Int.reducePow, Int.reduceLT, Int.reduceLE, Int.reduceEq, Int.reduceNe, Int.reduceToNat, Int.toNat_natCast, Nat.zero_add, Nat.add_zero, Nat.mul_one, Nat.one_mul, Bool.not_true, Bool.not_false, ne_eq, not_true_eq_false, not_false_eq_true, Bool.false_eq_true]
              exact exLives_c fun h' _ => rfl
            · first
              | exact (hQ hq).elim
              | (simp only [go_sem, reduceIte, Nat.reduceAdd, Nat.reduceSub, Nat.reduceMul, Nat.reducePow, Nat.reduceLT, Nat.reduceLeDiff, Nat.reduceEqDiff, Int.reduceAdd, Int.reduceSub, Int.reduceMul, Int.reduceNeg, Int.reducePow, Int.reduceLT, Int.reduceLE, Int.reduceEq, Int.reduceNe, Int.reduceToNat, Int.toNat_natCast, Nat.zero_add, Nat.add_zero, Nat.mul_one, Nat.one_mul, Bool.not_true, Bool.not_false, ne_eq, not_true_eq_false, not_false_eq_true, Bool.false_eq_true]
                 exact exLives_c fun h' _ => rfl)
          · refine loop_r 1001 (fun c ls h2 => ∃ (i : Nat) (n : Int), ls = [.int .i64 n, .int .i64 i] ∧ i ≤ 1000 ∧ (n = 0 ∨ (n = 1 ∧ Q ∧ (0 : Int) < i)) ∧ h2 = h' ∧ c = 1001 - i) ⟨0, 0, rfl, by omega, .inl rfl, rfl, rfl⟩ ?_
            rintro c ls h2 ⟨i, n, rfl, hi, hn, he, rfl⟩
            rw [he]
            by_cases q1 : (i : Int) < ((1000 : Nat) : Int)
            · have i0 : (0 : Int) ≤ i := by omega
              have en : IntKind.i64.wrap ((i : Int) + 1) = ((i + 1 : Nat) : Int) := by rw [i64_id (by omega) (by omega)]; rfl
              have en1 : IntKind.i64.wrap ((0 : Int) + 1) = 1 := rfl
              have en2 : IntKind.i64.wrap 1 = 1 := rfl
              have cm : h'.cell m i = some (.int .u64 (s.wd i)) := by
                rw [cell_of gm i, wc_get]
                unfold Hs.wd
                rw [Int.toNat_natCast, List.getD_eq_getElem?_getD, List.getElem?_eq_getElem (by omega)]
                rfl
              have c1 : ¬ ((i : Int) < 0 ∨ (s.words.length : Int) ≤ i) := by omega
              by_cases hdf : s.wd i = s.wd i
              · simp only [go_sem, reduceIte, Nat.reduceAdd, Nat.reduceSub, Nat.reduceMul, Nat.reducePow, Nat.reduceLT, Nat.reduceLeDiff, Nat.reduceEqDiff, Int.reduceAdd, Int.reduceSub, Int.reduceMul, Int.reduceNeg, Int.reducePow, Int.reduceLT, Int.reduceLE, Int.reduceEq, Int.reduceNe, Int.reduceToNat, Int.toNat_natCast, Nat.zero_add, Nat.add_zero, Nat.mul_one, Nat.one_mul, Bool.not_true, Bool.not_false, ne_eq, not_true_eq_false, not_false_eq_true, Bool.false_eq_true, q1, i0, cm, load_c hh, c1, hdf, en, Int.toNat_natCast]
                exact ⟨1001 - (i + 1), by omega, i + 1, n, rfl, by omega, hn.imp id fun ⟨a, b, c⟩ => ⟨a, b, by omega⟩, rfl, rfl⟩
              · exact absurd rfl hdf
            · simp only [go_sem, reduceIte, Nat.reduceAdd, Nat.reduceSub, Nat.reduceMul, Nat.reducePow, Nat.reduceLT, Nat.reduceLeDiff, Nat.reduceEqDiff, Int.reduceAdd, Int.reduceSub, Int.reduceMul, Int.reduceNeg, Int.reducePow, Int.reduceLT, Int.reduceLE, Int.reduceEq, Int.reduceNe, Int.reduceToNat, Int.toNat_natCast, Nat.zero_add, Nat.add_zero, Nat.mul_one, Nat.one_mul, Bool.not_true, Bool.not_false, ne_eq, not_true_eq_false, not_false_eq_true, Bool.false_eq_true, q1]
              exact hJ n (hn.imp id fun ⟨a, b, _⟩ => ⟨a, b⟩)
    · simp only [go_sem, reduceIte, Nat.reduceAdd, Nat.reduceSub, Nat.reduceMul, Nat.reducePow, Nat.reduceLT, Nat.reduceLeDiff, Nat.reduceEqDiff, Int.reduceAdd, Int.reduceSub, Int.reduceMul, Int.reduceNeg, Int.reducePow, Int.reduceLT, Int.reduceLE, Int.reduceEq, Int.reduceNe, Int.reduceToNat, Int.toNat_natCast, Nat.zero_add, Nat.add_zero, Nat.mul_one, Nat.one_mul, Bool.not_true, Bool.not_false, ne_eq, not_true_eq_false, not_false_eq_true, Bool.false_eq_true, lenA_s]
      refine loop_r 1001 (fun c ls h2 => ∃ (i : Nat) (M : List Int), ls = [.int .i64 i] ∧ i ≤ 1000 ∧ h2.get m = some (.live (wc M) 25 true) ∧ M.length = 1000 ∧ (∀ k, k < i → M[k]? = s.words[k]?) ∧ HeapAt h2 b bw bd B s ∧ h2.get d = some (.live o.cells 72 true) ∧ c = 1001 - i)
        ⟨0, _, rfl, by omega, H.get_same .., by simp, by simp, hh.fr (S := [m]) (Fr.put (by simp)) (fun c hc => by simpa using hmb c hc), by rw [H.get_other _ _ hmd]; exact gd', rfl⟩ ?_
      rintro c ls h2 ⟨i, M, rfl, hi, gm, hM, hMk, hh2, gd2, rfl⟩
      by_cases q1 : (i : Int) < ((1000 : Nat) : Int)
      · have c1 : ¬ ((i : Int) < 0 ∨ (s.words.length : Int) ≤ i) := by omega
        have st := st_one (k := .u64) (n := s.wd i) gm (off := i) (by rw [wc_length]; omega)
        rw [wc_set] at st
        have i0 : (0 : Int) ≤ i := by omega
        have en : IntKind.i64.wrap ((i : Int) + 1) = ((i + 1 : Nat) : Int) := by rw [i64_id (by omega) (by omega)]; rfl
        simp only [go_sem, reduceIte, Nat.reduceAdd, Nat.reduceSub, Nat.reduceMul, Nat.reducePow, Nat.reduceLT, Nat.reduceLeDiff, Nat.reduceEqDiff, Int.reduceAdd, Int.reduceSub, Int.reduceMul, Int.reduceNeg, Int.reducePow, Int.reduceLT, Int.reduceLE, Int.reduceEq, Int.reduceNe, Int.reduceToNat, Int.toNat_natCast, Nat.zero_add, Nat.add_zero, Nat.mul_one, Nat.one_mul, Bool.not_true, Bool.not_false, ne_eq, not_true_eq_false, not_false_eq_true, Bool.false_eq_true, q1, load_c hh2, c1, i0, st, en, Int.toNat_natCast]
        refine ⟨_, by omega, i + 1, _, rfl, by omega, H.get_same .., by simpa using hM, fun k hk => ?_, hh2.fr (S := [m]) (Fr.put (by simp)) (fun c hc => by simpa using hmb c hc), by rw [H.get_other _ _ hmd]; exact gd2, rfl⟩
        rw [List.getElem?_set]
        by_cases e : i = k
        · subst e
          rw [if_pos rfl, if_pos (by omega)]
          unfold Hs.wd
          rw [Int.toNat_natCast, List.getD_eq_getElem?_getD, List.getElem?_eq_getElem (by omega)]
          rfl
        · rw [if_neg e]; exact hMk k (by omega)
      · have hi : i = 1000 := by omega
        have : M = s.words := by
          apply List.ext_getElem?
          intro k
          by_cases hk : k < 1000
          · exact hMk k (by omega)
          · rw [List.getElem?_eq_none (by omega), List.getElem?_eq_none (by omega)]
        subst this
        simp only [go_sem, reduceIte, Nat.reduceAdd, Nat.reduceSub, Nat.reduceMul, Nat.reducePow, Nat.reduceLT, Nat.reduceLeDiff, Nat.reduceEqDiff, Int.reduceAdd, Int.reduceSub, Int.reduceMul, Int.reduceNeg, Int.reducePow, Int.reduceLT, Int.reduceLE, Int.reduceEq, Int.reduceNe, Int.reduceToNat, Int.toNat_natCast, Nat.zero_add, Nat.add_zero, Nat.mul_one, Nat.one_mul, Bool.not_true, Bool.not_false, ne_eq, not_true_eq_false, not_false_eq_true, Bool.false_eq_true, q1]
        exact hJ h2 hh2 gd2 gm
end
end Go.Proofs.Ytljkkfcokpimkaa.X
