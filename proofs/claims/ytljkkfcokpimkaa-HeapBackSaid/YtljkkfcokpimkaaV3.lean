/- The heap's functions that turn it: an object more, a field set. -/
import Derived.Test.YtljkkfcokpimkaaV2
set_option linter.unusedVariables false
set_option linter.unusedSimpArgs false
set_option maxRecDepth 20000
namespace Go.Proofs.Ytljkkfcokpimkaa.X
open Go Go.RowKit

/-- Ones, from a place on. -/
def fillW (l : List Int) (a : Nat) : Nat → List Int
  | 0 => l
  | n + 1 => (fillW l a n).set (a + n) 1
theorem fillW_length (l : List Int) (a : Nat) : ∀ n, (fillW l a n).length = l.length
  | 0 => rfl
  | n + 1 => by rw [fillW, List.length_set, fillW_length l a n]
theorem fillW_range {l : List Int} (hl : ∀ w ∈ l, 0 ≤ w ∧ w < 18446744073709551616) (a : Nat) : ∀ n, ∀ w ∈ fillW l a n, 0 ≤ w ∧ w < 18446744073709551616
  | 0 => hl
  | n + 1 => fun w hw => by
    rcases List.mem_or_eq_of_mem_set hw with hw | rfl
    · exact fillW_range hl a n w hw
    · decide
/-- A bit is set. -/
def orBit (w : Int) (k : Nat) : Int := if w / 2 ^ k % 2 = 1 then w else w + 2 ^ k
def Hs.mark (s : Hs) (a : Nat) : Hs := { s with heads := s.heads.set (a / 64) (orBit (s.heads.getD (a / 64) 0) (a % 64)) }
def Hs.alloc (s : Hs) (shape n : Int) (k : Int) : Hs :=
  { ({ s with words := (if kindAt s.lays shape = 3 then s.words.set s.top (headN shape n) else fillW (s.words.set s.top (headN shape n)) (s.top + 1) n.toNat) } : Hs).mark s.top with top := s.top + k.toNat }
theorem or_bit {w : Int} {k : Nat} (h0 : 0 ≤ w) (h1 : w < 18446744073709551616) (hk : k < 64) : bits .or .u64 w (2 ^ k) = orBit w k := by
  unfold orBit
  obtain ⟨n, rfl⟩ := Int.eq_ofNat_of_zero_le h0
  split
  · rename_i hb
    have e1 : (n / 2 ^ k) % 2 = 1 := by exact_mod_cast hb
    have ht : n.testBit k = true := by rw [Nat.testBit_eq_decide_div_mod_eq]; simp [e1]
    have hp : (2 : Nat) ^ k < 2 ^ 64 := Nat.pow_lt_pow_right (by decide) hk
    have := (bits_nat .u64 64 (by decide) wraps_u64 n (2 ^ k) (by omega) hp).2
    have e2 : ((2 ^ k : Nat) : Int) = 2 ^ k := by push_cast; rfl
    rw [e2] at this
    rw [this]
    congr 1
    apply Nat.eq_of_testBit_eq
    intro i
    rw [Nat.testBit_or, Nat.testBit_two_pow]
    by_cases hi : k = i
    · subst hi; simp [ht]
    · simp [hi]
  · rename_i hb
    have := lay k 1 (by omega) (n : Int) 1 (by omega) (by omega) (by decide) (by decide) (by
      have : (n : Int) / 2 ^ k % 2 = 0 := by omega
      simpa using this)
    simpa using this
theorem orBit_range {w : Int} {k : Nat} (h0 : 0 ≤ w) (h1 : w < 18446744073709551616) (hk : k < 64) : 0 ≤ orBit w k ∧ orBit w k < 18446744073709551616 := by
  have e := or_bit h0 h1 hk
  rw [← e]
  show 0 ≤ IntKind.u64.wrap _ ∧ IntKind.u64.wrap _ < _
  rw [u64_wrap]
  omega
theorem pow_wrap {k : Nat} (hk : k < 64) : IntKind.u64.wrap (1 * 2 ^ k) = 2 ^ k := by
  have h1 : (2 : Int) ^ k < 2 ^ 64 := by exact_mod_cast Nat.pow_lt_pow_right (by decide) hk
  have h2 : (0 : Int) ≤ 2 ^ k := Int.pow_nonneg (by decide)
  rw [Int.one_mul, u64_id h2 (by simp only [Int.reducePow] at h1; exact h1)]
section
variable {h : H} {b bw bd : Nat} {B : List Nat} {s : Hs}
theorem HeapAt.mark (hh : HeapAt h b bw bd B s) (a : Nat) : HeapAt (h.set bd (.live (wc (s.mark a).heads) 25 true)) b bw bd B (s.mark a) := by
  obtain ⟨⟨lv, h1, h2⟩, h3, h4, h5⟩ := hh
  refine ⟨⟨lv, ?_, ?_⟩, ?_, H.get_same .., h5⟩
  · rw [H.get_other _ _ h5.2.1, h1]; simp [Hs.mark]
  · rcases h2 with q | ⟨bl, q1, q2, q3⟩
    · exact .inl q
    · exact .inr ⟨bl, q1, q2, by rw [H.get_other _ _ (fun e => h5.2.2.2.2.2 (by rw [q2, e]; simp))]; exact q3⟩
  · rw [H.get_other _ _ h5.2.2.1, h3]; rfl
theorem HeapAt.up (hh : HeapAt h b bw bd B s) (t : Nat) : ∃ cs, h.get b = some (.live cs 130 true) ∧ 3 < cs.length ∧ HeapAt (h.set b (.live (cs.set 3 (.int .i64 t)) 130 true)) b bw bd B { s with top := t } := by
  obtain ⟨⟨lv, h1, h2⟩, h3, h4, h5⟩ := hh
  refine ⟨_, h1, by simp, ⟨lv, ?_, ?_⟩, ?_, ?_, h5⟩
  · rw [H.get_same]; rfl
  · rcases h2 with q | ⟨bl, q1, q2, q3⟩
    · exact .inl q
    · exact .inr ⟨bl, q1, q2, by rw [H.get_other _ _ (fun e => h5.2.2.2.1 (by rw [q2, ← e]; simp))]; exact q3⟩
  · rw [H.get_other _ _ (fun e => h5.1 e.symm), h3]
  · rw [H.get_other _ _ (fun e => h5.2.1 e.symm), h4]
theorem need_pos {lays : List (Int × Int)} {i n : Int} (he : (needN lays i n).2 = 0) : 1 ≤ (needN lays i n).1 ∧ 0 ≤ i ∧ i < lays.length ∧ 0 ≤ n ∧ n ≤ 65536 ∧ (needN lays i n).1 = (if kindAt lays i = 3 then 1 + (n + 7) / 8 else 1 + n) := by
  unfold needN at he ⊢
  by_cases h1 : i < 0 ∨ (lays.length : Int) ≤ i ∨ n < 0
  · rw [if_pos h1] at he; cases he
  · rw [if_neg h1] at he ⊢
    by_cases h2 : kindAt lays i = 1 ∧ n ≠ nAt lays i
    · rw [if_pos h2] at he; cases he
    · rw [if_neg h2] at he ⊢
      by_cases h3 : 65536 < n
      · rw [if_pos h3] at he; cases he
      · rw [if_neg h3] at he ⊢
        by_cases h4 : kindAt lays i = 3
        · rw [if_pos h4]
          refine ⟨by show (1 : Int) ≤ 1 + (n + 7) / 8; omega, by omega, by omega, by omega, by omega, by rw [if_pos h4]⟩
        · rw [if_neg h4]
          refine ⟨by show (1 : Int) ≤ 1 + n; omega, by omega, by omega, by omega, by omega, by rw [if_neg h4]⟩
theorem alloc_nil (a b : AV) (K : AV → H → Prop) : C 55 [.nilp, a, b] h K = K (.tup [.int .i64 0, .int .i64 1]) h := by
  refine callA_eq (run55 ?_) K
  simp only [sh55, go_sem, reduceIte, Nat.reduceAdd, Nat.reduceSub, Nat.reduceMul, Nat.reducePow, Nat.reduceLT, Nat.reduceLeDiff, Nat.reduceEqDiff, Int.reduceAdd, Int.reduceSub, Int.reduceMul, Int.reduceNeg, Int.reducePow, Int.reduceLT, Int.reduceLE, Int.reduceEq, Int.reduceNe, Int.reduceToNat, Int.toNat_natCast, Nat.zero_add, Nat.add_zero, Nat.mul_one, Nat.one_mul, Bool.not_true, Bool.not_false, ne_eq, not_true_eq_false, not_false_eq_true, Bool.false_eq_true, need_nil]
theorem alloc_c (hh : HeapAt h b bw bd B s) (g : s.good) (i n : Int) {K : AV → H → Prop}
    (hE : (needN s.lays i n).2 ≠ 0 → ∀ h', Fr [] h h' → K (.tup [.int .i64 0, .int .i64 (needN s.lays i n).2]) h')
    (hF : (needN s.lays i n).2 = 0 → (s.words.length : Int) - s.top < (needN s.lays i n).1 → ∀ h', Fr [] h h' → K (.tup [.int .i64 0, .int .i64 3]) h')
    (hG : (needN s.lays i n).2 = 0 → (needN s.lays i n).1 ≤ (s.words.length : Int) - s.top → ∀ h', Fr [b, bw, bd] h h' → HeapAt h' b bw bd B (s.alloc i n (needN s.lays i n).1) → K (.tup [.int .i64 s.top, .int .i64 0]) h') :
    C 55 [.ptr b 0, .int .i64 i, .int .i64 n] h K := by
  refine run55 ?_
  unfold sh55
  refine need_c hh g i n fun h1 f1 => ?_
  have hh1 := hh.fr0 f1
  clear hh
  by_cases he : (needN s.lays i n).2 = 0
  · obtain ⟨p1, p2, p3, p4, p5, p6⟩ := need_pos he
    have g1 := g.wlen; have g2 := g.hlen; have g3 := g.top
    obtain ⟨lv, c, r, _⟩ := hh1.cells
    have e1 : IntKind.i64.wrap ((s.words.length : Int) - s.top) = s.words.length - s.top := i64_id (by omega) (by omega)
    by_cases hk : (s.words.length : Int) - s.top < (needN s.lays i n).1
    · simp only [go_sem, reduceIte, Nat.reduceAdd, Nat.reduceSub, Nat.reduceMul, Nat.reducePow, Nat.reduceLT, Nat.reduceLeDiff, Nat.reduceEqDiff, Int.reduceAdd, Int.reduceSub, Int.reduceMul, Int.reduceNeg, Int.reducePow, Int.reduceLT, Int.reduceLE, Int.reduceEq, Int.reduceNe, Int.reduceToNat, Int.toNat_natCast, Nat.zero_add, Nat.add_zero, Nat.mul_one, Nat.one_mul, Bool.not_true, Bool.not_false, ne_eq, not_true_eq_false, not_false_eq_true, Bool.false_eq_true, he, c, e1, hk]
      exact hF he hk h1 f1
    · have t0 : (0 : Int) ≤ (s.top : Nat) := by omega
      have t1 : ((s.top : Nat) : Int) < s.words.length := by omega
      have st1 := hh1.st_word (w := headN i n) t0 t1
      rw [Int.toNat_natCast] at st1
      have hh2 := hh1.put s.top (headN i n)
      have f2 : Fr [b, bw, bd] h1 (h1.set bw (.live (wc (s.put s.top (headN i n)).words) 25 true)) := Fr.put (by simp)
      simp only [go_sem, reduceIte, Nat.reduceAdd, Nat.reduceSub, Nat.reduceMul, Nat.reducePow, Nat.reduceLT, Nat.reduceLeDiff, Nat.reduceEqDiff, Int.reduceAdd, Int.reduceSub, Int.reduceMul, Int.reduceNeg, Int.reducePow, Int.reduceLT, Int.reduceLE, Int.reduceEq, Int.reduceNe, Int.reduceToNat, Int.toNat_natCast, Nat.zero_add, Nat.add_zero, Nat.mul_one, Nat.one_mul, Bool.not_true, Bool.not_false, ne_eq, not_true_eq_false, not_false_eq_true, Bool.false_eq_true, he, c, e1, hk, head_c, t0, t1, st1]
      generalize h1.set bw (.live (wc (s.put s.top (headN i n)).words) 25 true) = h2 at *
      obtain ⟨lv2, c2, r2, _⟩ := hh2.cells
      have hs2 : (s.put s.top (headN i n)).words = s.words.set s.top (headN i n) := by simp [Hs.put]
      have fin : ∀ h3 ws, ws.length = s.words.length → Fr [b, bw, bd] h1 h3 → HeapAt h3 b bw bd B { s with words := ws } →
          (ws = (if kindAt s.lays i = 3 then s.words.set s.top (headN i n) else fillW (s.words.set s.top (headN i n)) (s.top + 1) n.toNat)) →
          valA (nilcA (.ptr b 0)) h3 (fun t72 h => valA (faA 1 t72) h fun t73 h => valA (ldA h none t73) h fun t74 h => valA (binOp .quo .num (.int .i64 s.top) (.int .i64 64)) h fun t76 h => valA (iaA 1 t74 t76) h fun t77 h => valA (ldA h none t77) h fun t78 h =>
            valA (binOp .rem .num (.int .i64 s.top) (.int .i64 64)) h fun t80 h => valA (binOp .shl .num (.int .u64 1) t80) h fun t81 h => valA (binOp .or .num t78 t81) h fun t82 h => valA (iaA 1 t74 t76) h fun t83 h => memA (stA h 1 t83 t82) .undef fun _ h =>
            valA (nilcA (.ptr b 0)) h fun t85 h => valA (faA 3 t85) h fun t86 h => valA (ldA h none t86) h fun t87 h => valA (binOp .add .num t87 (.int .i64 (needN s.lays i n).1)) h fun t89 h => valA (nilcA (.ptr b 0)) h fun t90 h => valA (faA 3 t90) h fun t91 h =>
            memA (stA h 1 t91 t89) .undef fun _ h => K (.tup [.int .i64 s.top, .int .i64 0]) h) := by
        intro h3 ws hlw f3 hh3 hws
        obtain ⟨lv3, c3, r3, gb3⟩ := hh3.cells
        have u1 : IntKind.i64.wrap ((s.top : Int).tdiv 64) = (s.top : Int) / 64 := by rw [Int.tdiv_eq_ediv_of_nonneg t0, i64_id (by omega) (by omega)]
        have u2 : (s.top : Int).tmod 64 = (s.top : Int) % 64 := Int.tmod_eq_emod_of_nonneg t0
        have v0 : (0 : Int) ≤ (s.top : Int) / 64 := by omega
        have v1 : (s.top : Int) / 64 < (s.heads.length : Nat) := by omega
        have m0 : (0 : Int) ≤ (s.top : Int) % 64 := by omega
        have m1 : (s.top : Int) % 64 ≤ 64 := by omega
        have mk : ((s.top : Int) % 64).toNat = s.top % 64 := by omega
        have mk2 : ((s.top : Int) / 64).toNat = s.top / 64 := by omega
        have hhead := hh3.head (a := s.top) (by show ((s.top : Int) / 64).toNat < s.heads.length; omega)
        have hbr : 0 ≤ s.heads.getD (s.top / 64) 0 ∧ s.heads.getD (s.top / 64) 0 < 18446744073709551616 := getD_range g.hrange _
        have hhb : Hs.hb { s with words := ws } s.top = s.heads.getD (s.top / 64) 0 := by unfold Hs.hb; rw [mk2]
        rw [hhb] at hhead
        have w1 : IntKind.u64.wrap (1 * 2 ^ ((s.top : Int) % 64).toNat) = 2 ^ (s.top % 64) := by rw [mk]; exact pow_wrap (by omega)
        have w2 := or_bit (k := s.top % 64) hbr.1 hbr.2 (by omega)
        have st2 : stA h3 1 (.ptr bd (s.top / 64)) (.int .u64 (orBit (s.heads.getD (s.top / 64) 0) (s.top % 64))) = some (h3.set bd (.live (wc (Hs.mark { s with words := ws } s.top).heads) 25 true)) := by
          rw [st_one hh3.hd (by rw [wc_length]; show s.top / 64 < s.heads.length; omega), wc_set]; rfl
        have hh4 := hh3.mark s.top
        obtain ⟨lv4, c4, r4, _⟩ := hh4.cells
        obtain ⟨cs, gb4, l4, hh5⟩ := hh4.up (s.top + (needN s.lays i n).1.toNat)
        have w3 : IntKind.i64.wrap ((s.top : Int) + (needN s.lays i n).1) = ((s.top + (needN s.lays i n).1.toNat : Nat) : Int) := by rw [i64_id (by omega) (by omega)]; omega
        have st3 := st_one (k := .i64) (n := ((s.top + (needN s.lays i n).1.toNat : Nat) : Int)) gb4 l4
        have htop : ((Hs.mark { s with words := ws } s.top).top : Int) = s.top := rfl
        rw [htop] at c4
        simp only [mk2] at hhead
        simp only [go_sem, reduceIte, Nat.reduceAdd, Nat.reduceSub, Nat.reduceMul, Nat.reducePow, Nat.reduceLT, Nat.reduceLeDiff, Nat.reduceEqDiff, Int.reduceAdd, Int.reduceSub, Int.reduceMul, Int.reduceNeg, Int.reducePow, Int.reduceLT, Int.reduceLE, Int.reduceEq, Int.reduceNe, Int.reduceToNat, Int.toNat_natCast, Nat.zero_add, Nat.add_zero, Nat.mul_one, Nat.one_mul, Bool.not_true, Bool.not_false, ne_eq, not_true_eq_false, not_false_eq_true, Bool.false_eq_true, c3, u1, u2, v0, v1, mk2, hhead, b_shl_u64 m0 m1, w1, w2, st2, c4, w3, st3]
        refine hG he (by omega) _ ?_ ?_
        · exact (((f1.weaken (by simp)).trans f3).trans (Fr.put (by simp))).trans (Fr.put (by simp))
        · have : s.alloc i n (needN s.lays i n).1 = { Hs.mark { s with words := ws } s.top with top := s.top + (needN s.lays i n).1.toNat } := by unfold Hs.alloc; rw [← hws]
          rw [this]; exact hh5
      have hi : ((i.toNat : Nat) : Int) = i := by omega
      obtain ⟨bl, o, q1, q2, q3, q4⟩ := r2.lay (lay_get (L := s.lays) (i := i) p2 p3)
      rw [hi] at q1
      refine join_r (fun (J : H → Prop) => ∀ h3 ws, ws.length = s.words.length → Fr [b, bw, bd] h1 h3 → HeapAt h3 b bw bd B { s with words := ws } →
          (ws = (if kindAt s.lays i = 3 then s.words.set s.top (headN i n) else fillW (s.words.set s.top (headN i n)) (s.top + 1) n.toNat)) → J h3) fin fun J hJ => ?_
      by_cases h3 : kindAt s.lays i = 3
      · have h3' : ¬ (kindAt s.lays i ≠ 3) := fun q => q h3
        simp only [go_sem, reduceIte, Nat.reduceAdd, Nat.reduceSub, Nat.reduceMul, Nat.reducePow, Nat.reduceLT, Nat.reduceLeDiff, Nat.reduceEqDiff, Int.reduceAdd, Int.reduceSub, Int.reduceMul, Int.reduceNeg, Int.reducePow, Int.reduceLT, Int.reduceLE, Int.reduceEq, Int.reduceNe, Int.reduceToNat, Int.toNat_natCast, Nat.zero_add, Nat.add_zero, Nat.mul_one, Nat.one_mul, Bool.not_true, Bool.not_false, ne_eq, not_true_eq_false, not_false_eq_true, Bool.false_eq_true, c2, q1, q2, h3]
        refine hJ h2 _ (by rw [List.length_set]) f2 hh2 ?_
        rw [if_pos h3, Int.toNat_natCast]
      · simp only [go_sem, reduceIte, Nat.reduceAdd, Nat.reduceSub, Nat.reduceMul, Nat.reducePow, Nat.reduceLT, Nat.reduceLeDiff, Nat.reduceEqDiff, Int.reduceAdd, Int.reduceSub, Int.reduceMul, Int.reduceNeg, Int.reducePow, Int.reduceLT, Int.reduceLE, Int.reduceEq, Int.reduceNe, Int.reduceToNat, Int.toNat_natCast, Nat.zero_add, Nat.add_zero, Nat.mul_one, Nat.one_mul, Bool.not_true, Bool.not_false, ne_eq, not_true_eq_false, not_false_eq_true, Bool.false_eq_true, c2, q1, q2, h3]
        refine loop_r n.toNat (fun k l h' => ∃ j : Nat, l = [.int .i64 j] ∧ (j : Int) ≤ n ∧ Fr [b, bw, bd] h1 h' ∧ HeapAt h' b bw bd B { s with words := fillW (s.words.set s.top (headN i n)) (s.top + 1) j } ∧ k = n.toNat - j) ⟨0, rfl, by omega, f2, by simpa [fillW, hs2, Hs.put] using hh2, rfl⟩ ?_
        rintro k l h' ⟨j, rfl, hj, f', hh', rfl⟩
        rw [if_neg h3] at p6
        by_cases hlt : (j : Int) < n
        · obtain ⟨lv', c', r', _⟩ := hh'.cells
          have hfl : (fillW (s.words.set s.top (headN i n)) (s.top + 1) j).length = s.words.length := by rw [fillW_length, List.length_set]
          have x1 : IntKind.i64.wrap (IntKind.i64.wrap ((s.top : Int) + 1) + j) = ((s.top + 1 + j : Nat) : Int) := by rw [i64_id (n := (s.top : Int) + 1) (by omega) (by omega), i64_id (by omega) (by omega)]; omega
          have x2 : (0 : Int) ≤ ((s.top + 1 + j : Nat) : Int) := by omega
          have x3 : ((s.top + 1 + j : Nat) : Int) < (s.words.length : Nat) := by omega
          have x4 : IntKind.i64.wrap ((j : Int) + 1) = ((j + 1 : Nat) : Int) := by rw [i64_id (by omega) (by omega)]; rfl
          have x5 : (0 * 2 % 18446744073709551616 + 1 : Int) = 1 := by decide
          have imm0 : ∀ (h : H) K, C 83 [.int .i64 0] h K = K (.int .u64 1) h := fun h K => by rw [imm_c]; rfl
          have st4 := hh'.st_word (w := 1) x2 (by show _ < ((fillW (s.words.set s.top (headN i n)) (s.top + 1) j).length : Int); rw [hfl]; exact x3)
          rw [Int.toNat_natCast] at st4
          simp only [hfl] at c'
          simp only [go_sem, reduceIte, Nat.reduceAdd, Nat.reduceSub, Nat.reduceMul, Nat.reducePow, Nat.reduceLT, Nat.reduceLeDiff, Nat.reduceEqDiff, Int.reduceAdd, Int.reduceSub, Int.reduceMul, Int.reduceNeg, Int.reducePow, Int.reduceLT, Int.reduceLE, Int.reduceEq, Int.reduceNe, Int.reduceToNat, Int.toNat_natCast, Nat.zero_add, Nat.add_zero, Nat.mul_one, Nat.one_mul, Bool.not_true, Bool.not_false, ne_eq, not_true_eq_false, not_false_eq_true, Bool.false_eq_true, hlt, c', x1, x2, x3, x4, imm0, st4]
          refine ⟨n.toNat - (j + 1), by omega, j + 1, rfl, by omega, f'.trans (Fr.put (by simp)), ?_, rfl⟩
          have e : ({ s with words := fillW (s.words.set s.top (headN i n)) (s.top + 1) (j + 1) } : Hs) = Hs.put { s with words := fillW (s.words.set s.top (headN i n)) (s.top + 1) j } ((s.top + 1 + j : Nat) : Int) 1 := by
            unfold Hs.put; rw [Int.toNat_natCast]; rfl
          rw [e]
          exact hh'.put ((s.top + 1 + j : Nat) : Int) 1
        · have : j = n.toNat := by omega
          subst this
          simp only [go_sem, reduceIte, Nat.reduceAdd, Nat.reduceSub, Nat.reduceMul, Nat.reducePow, Nat.reduceLT, Nat.reduceLeDiff, Nat.reduceEqDiff, Int.reduceAdd, Int.reduceSub, Int.reduceMul, Int.reduceNeg, Int.reducePow, Int.reduceLT, Int.reduceLE, Int.reduceEq, Int.reduceNe, Int.reduceToNat, Int.toNat_natCast, Nat.zero_add, Nat.add_zero, Nat.mul_one, Nat.one_mul, Bool.not_true, Bool.not_false, ne_eq, not_true_eq_false, not_false_eq_true, Bool.false_eq_true, hlt]
          exact hJ h' _ (by rw [fillW_length, List.length_set]) f' hh' (by rw [if_neg h3])
  · simp only [go_sem, reduceIte, Nat.reduceAdd, Nat.reduceSub, Nat.reduceMul, Nat.reducePow, Nat.reduceLT, Nat.reduceLeDiff, Nat.reduceEqDiff, Int.reduceAdd, Int.reduceSub, Int.reduceMul, Int.reduceNeg, Int.reducePow, Int.reduceLT, Int.reduceLE, Int.reduceEq, Int.reduceNe, Int.reduceToNat, Int.toNat_natCast, Nat.zero_add, Nat.add_zero, Nat.mul_one, Nat.one_mul, Bool.not_true, Bool.not_false, ne_eq, not_true_eq_false, not_false_eq_true, Bool.false_eq_true, he]
    exact hE he h1 f1
end
end Go.Proofs.Ytljkkfcokpimkaa.X
