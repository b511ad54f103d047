/- The heap as a list of objects: plain facts. -/
import Derived.Test.YtljkkfcokpimkaaV3
set_option linter.unusedVariables false
set_option linter.unusedSimpArgs false
set_option maxRecDepth 20000
namespace Go.Proofs.Ytljkkfcokpimkaa.X
open Go Go.RowKit

/-- An object: its shape, its length, the words behind its head. -/
structure Ob where
  sh : Int
  n : Int
  body : List Int
def Ob.row (o : Ob) : List Int := headN o.sh o.n :: o.body
def rowOf (os : List Ob) : List Int := os.flatMap Ob.row
def findO : List Ob → Int → Option Ob
  | [], _ => none
  | o :: os, a => if a = 0 then some o else findO os (a - o.row.length)
theorem rowOf_append (a b : List Ob) : rowOf (a ++ b) = rowOf a ++ rowOf b := by simp [rowOf]
theorem rowOf_cons (o : Ob) (os : List Ob) : rowOf (o :: os) = o.row ++ rowOf os := by simp [rowOf]
theorem row_pos (o : Ob) : 0 < o.row.length := by simp [Ob.row]
theorem findO_neg : ∀ (os : List Ob) (a : Int), a < 0 → findO os a = none
  | [], _, _ => rfl
  | o :: os, a, h => by
    rw [findO, if_neg (by omega)]
    exact findO_neg os _ (by have := row_pos o; omega)
theorem findO_split : ∀ (os : List Ob) (a : Int) (o : Ob), findO os a = some o → ∃ pre post, os = pre ++ o :: post ∧ a = (rowOf pre).length
  | [], _, _, h => by cases h
  | x :: os, a, o, h => by
    rw [findO] at h
    split at h
    · rename_i h0
      injection h with h
      subst h
      exact ⟨[], os, rfl, by simp [rowOf, h0]⟩
    · obtain ⟨pre, post, rfl, ha⟩ := findO_split os _ o h
      exact ⟨x :: pre, post, rfl, by rw [rowOf_cons, List.length_append]; omega⟩
theorem findO_at : ∀ (pre post : List Ob) (o : Ob), findO (pre ++ o :: post) (rowOf pre).length = some o
  | [], post, o => by simp [rowOf, findO]
  | x :: pre, post, o => by
    have hp := row_pos x
    rw [List.cons_append, findO, rowOf_cons, List.length_append, if_neg (by omega)]
    have : (((x.row.length + (rowOf pre).length : Nat) : Int) - (x.row.length : Int)) = (rowOf pre).length := by omega
    rw [this]
    exact findO_at pre post o
theorem findO_lt (os : List Ob) (a : Int) (o : Ob) (h : findO os a = some o) : 0 ≤ a ∧ a + o.row.length ≤ (rowOf os).length := by
  obtain ⟨pre, post, rfl, rfl⟩ := findO_split os a o h
  rw [rowOf_append, rowOf_cons]
  simp only [List.length_append]
  omega
theorem findO_append (os : List Ob) (o : Ob) (a : Int) : findO (os ++ [o]) a = if a = (rowOf os).length then some o else findO os a := by
  induction os generalizing a with
  | nil => simp [findO, rowOf]
  | cons x os ih =>
    have hp := row_pos x
    rw [List.cons_append, findO, rowOf_cons, List.length_append, ih]
    by_cases h0 : a = 0
    · rw [if_pos h0, if_neg (by omega), findO, if_pos h0]
    · rw [if_neg h0, findO, if_neg h0]
      by_cases h1 : a = ((x.row.length + (rowOf os).length : Nat) : Int)
      · rw [if_pos (by omega), if_pos h1]
      · rw [if_neg (by omega), if_neg h1]
theorem findO_head {os : List Ob} {a : Int} {o : Ob} {r : List Int} (h : findO os a = some o) (j : Nat) (hj : j < o.row.length) : (rowOf os ++ r).getD (a.toNat + j) 0 = o.row.getD j 0 := by
  obtain ⟨pre, post, rfl, rfl⟩ := findO_split os a o h
  rw [rowOf_append, rowOf_cons, Int.toNat_natCast, List.getD_eq_getElem?_getD, List.getD_eq_getElem?_getD, List.append_assoc, List.getElem?_append_right (by omega), List.append_assoc, List.getElem?_append_left (by omega)]
  congr 2; omega

theorem orBit_nat {n k : Nat} (hn : n < 2 ^ 64) (hk : k < 64) : orBit n k = ((n ||| 2 ^ k : Nat) : Int) := by
  have hp : (2 : Nat) ^ k < 2 ^ 64 := Nat.pow_lt_pow_right (by decide) hk
  rw [← or_bit (by omega) (by omega) hk]
  have := (bits_nat .u64 64 (by decide) wraps_u64 n (2 ^ k) hn hp).2
  have e2 : ((2 ^ k : Nat) : Int) = 2 ^ k := by push_cast; rfl
  rw [e2] at this
  exact this
theorem bit_iff (n j : Nat) : ((n : Int) / 2 ^ j % 2 = 1) ↔ n.testBit j = true := by
  rw [Nat.testBit_eq_decide_div_mod_eq, decide_eq_true_eq]
  constructor
  · intro h; exact_mod_cast h
  · intro h; exact_mod_cast h
theorem orBit_bit {w : Int} {k j : Nat} (h0 : 0 ≤ w) (h1 : w < 18446744073709551616) (hk : k < 64) : (orBit w k / 2 ^ j % 2 = 1) ↔ (j = k ∨ w / 2 ^ j % 2 = 1) := by
  obtain ⟨n, rfl⟩ := Int.eq_ofNat_of_zero_le h0
  rw [orBit_nat (by omega) hk, bit_iff, bit_iff, Nat.testBit_or, Nat.testBit_two_pow]
  simp only [Bool.or_eq_true, decide_eq_true_eq]
  constructor
  · rintro (h | h)
    · exact .inr h
    · exact .inl h.symm
  · rintro (h | h)
    · exact .inr h.symm
    · exact .inl h

/-- Is a bit set at this place? -/
def Hs.bit (s : Hs) (a : Nat) : Prop := s.heads.getD (a / 64) 0 / 2 ^ (a % 64) % 2 = 1
/-- The state is these objects. -/
structure Abs (s : Hs) (os : List Ob) : Prop where
  good : s.good
  words : s.words = rowOf os ++ List.replicate (s.words.length - (rowOf os).length) 0
  top : s.top = (rowOf os).length
  bits : ∀ a : Nat, a / 64 < s.heads.length → (s.bit a ↔ (findO os a).isSome = true)
  each : ∀ o ∈ os, needN s.lays o.sh o.n = ((o.row.length : Int), 0)

theorem Abs.isAt {s : Hs} {os : List Ob} (A : Abs s os) (a : Int) : s.isAt a = (findO os a).isSome := by
  have g3 := A.good.top; have g2 := A.good.hlen
  unfold Hs.isAt
  by_cases h0 : 0 ≤ a
  · by_cases h1 : a < s.top
    · simp only [h0, h1, decide_true, Bool.true_and]
      have := A.bits a.toNat (by omega)
      have ha : ((a.toNat : Nat) : Int) = a := by omega
      rw [ha] at this
      unfold Hs.bit at this
      unfold Hs.hb
      have e1 : (a / 64).toNat = a.toNat / 64 := by omega
      have e2 : (a % 64).toNat = a.toNat % 64 := by omega
      rw [e1, e2]
      cases hf : (findO os a).isSome
      · rw [hf] at this; simpa using this
      · rw [hf] at this; simpa using this
    · have : findO os a = none := by
        cases hf : findO os a with
        | none => rfl
        | some o => have := findO_lt os a o hf; have := row_pos o; rw [A.top] at h1; omega
      simp [h1, this]
  · rw [findO_neg os a (by omega)]; simp [h0]
theorem headN_shape {s n : Int} (h0 : 0 ≤ s) (h1 : s < 1048576) : shapeOf (headN s n) = s := by unfold shapeOf headN; omega
theorem headN_len {s n : Int} (h0 : 0 ≤ n) (h1 : n < 1048576) : lenOf (headN s n) = n := by unfold lenOf headN; omega
/-- What is told of an object's place. -/
theorem Abs.at {s : Hs} {os : List Ob} (A : Abs s os) {a : Int} {o : Ob} (h : findO os a = some o) :
    s.wd a = headN o.sh o.n ∧ shapeOf (s.wd a) = o.sh ∧ lenOf (s.wd a) = o.n ∧ 0 ≤ o.sh ∧ o.sh < s.lays.length ∧ 0 ≤ o.n ∧ o.n ≤ 65536 ∧ 0 ≤ a ∧ a + o.row.length ≤ s.top ∧ (o.row.length : Int) = (if kindAt s.lays o.sh = 3 then 1 + (o.n + 7) / 8 else 1 + o.n) ∧ (kindAt s.lays o.sh = 1 → o.n = nAt s.lays o.sh) := by
  have hm : o ∈ os := by obtain ⟨pre, post, rfl, _⟩ := findO_split os a o h; simp
  have he := A.each o hm
  have hp := need_pos (lays := s.lays) (i := o.sh) (n := o.n) (by rw [he])
  have hl := A.good.llen
  have hlt := findO_lt os a o h
  have hw : s.wd a = headN o.sh o.n := by
    unfold Hs.wd
    rw [A.words]
    have := findO_head (r := List.replicate (s.words.length - (rowOf os).length) 0) h 0 (row_pos o)
    simpa [Ob.row] using this
  rw [he] at hp
  refine ⟨hw, by rw [hw, headN_shape (by omega) (by omega)], by rw [hw, headN_len (by omega) (by omega)], by omega, by omega, by omega, by omega, by omega, by rw [A.top]; omega, hp.2.2.2.2.2, fun h1 => ?_⟩
  have he2 := he
  unfold needN at he2
  rw [if_neg (by omega)] at he2
  by_cases h2 : o.n = nAt s.lays o.sh
  · exact h2
  · rw [if_pos ⟨h1, h2⟩] at he2
    have := congrArg Prod.snd he2
    simp at this
theorem Abs.word {s : Hs} {os : List Ob} (A : Abs s os) {a : Int} {o : Ob} (h : findO os a = some o) (j : Nat) (hj : j < o.body.length) : s.wd (a + 1 + j) = o.body.getD j 0 := by
  have h0 := findO_lt os a o h
  have := findO_head (r := List.replicate (s.words.length - (rowOf os).length) 0) h (j + 1) (by simp [Ob.row]; omega)
  rw [← A.words] at this
  unfold Hs.wd
  rw [show (a + 1 + (j : Int)).toNat = a.toNat + (j + 1) by omega, this]
  simp [Ob.row]
theorem good_new (n : Nat) {lays : List (Int × Int)} (hn : n ≤ 65536) (hl : lays.length ≤ 512) (hb : lays.any badLay = false) : (newHs n lays).good := by
  refine ⟨by simpa [newHs] using hn, by simp [newHs], hl, fun x hx => ?_, fun w hw => ?_, fun w hw => ?_, by simp [newHs]⟩
  · have : badLay x = false := by
      rw [Bool.eq_false_iff]; intro q
      have hx' : x ∈ lays := hx
      rw [List.any_eq_true.2 ⟨x, hx', q⟩] at hb; cases hb
    have := badLay_f.1 (show badLay (x.1, x.2) = false from this)
    omega
  · simp [newHs] at hw; omega
  · simp [newHs] at hw; omega
theorem abs_new (n : Nat) {lays : List (Int × Int)} (hn : n ≤ 65536) (hl : lays.length ≤ 512) (hb : lays.any badLay = false) : Abs (newHs n lays) [] := by
  refine ⟨good_new n hn hl hb, by simp [newHs, rowOf], by simp [newHs, rowOf], fun a ha => ?_, by simp⟩
  have : (newHs n lays).heads.getD (a / 64) 0 = 0 := by
    simp only [newHs, List.getD_eq_getElem?_getD, List.getElem?_replicate]
    split <;> rfl
  unfold Hs.bit
  rw [this]
  simp [findO]
theorem fillW_eq : ∀ (n : Nat) (pre : List Int) (r : List Int), n ≤ r.length → fillW (pre ++ r) pre.length n = pre ++ List.replicate n 1 ++ r.drop n
  | 0, pre, r, _ => by simp [fillW]
  | n + 1, pre, r, h => by
    rw [fillW, fillW_eq n pre r (by omega)]
    obtain ⟨x, hx⟩ : ∃ x, r.drop n = x :: r.drop (n + 1) := ⟨r[n], List.drop_eq_getElem_cons (by omega)⟩
    rw [hx, List.set_append_right _ _ (by simp), List.replicate_succ']
    simp
/-- One object more. -/
def newOb (lays : List (Int × Int)) (i n : Int) : Ob := ⟨i, n, if kindAt lays i = 3 then List.replicate ((n + 7) / 8).toNat 0 else List.replicate n.toNat 1⟩
theorem newOb_row {lays : List (Int × Int)} {i n : Int} (he : (needN lays i n).2 = 0) : ((newOb lays i n).row.length : Int) = (needN lays i n).1 := by
  obtain ⟨p1, p2, p3, p4, p5, p6⟩ := need_pos he
  rw [p6]
  unfold newOb Ob.row
  split <;> simp <;> omega
theorem abs_alloc {s : Hs} {os : List Ob} (A : Abs s os) {i n : Int} (he : (needN s.lays i n).2 = 0) (hk : (needN s.lays i n).1 ≤ (s.words.length : Int) - s.top) : Abs (s.alloc i n (needN s.lays i n).1) (os ++ [newOb s.lays i n]) := by
  obtain ⟨p1, p2, p3, p4, p5, p6⟩ := need_pos he
  have hr := newOb_row he
  have g := A.good
  have htop := A.top
  have hwl : (rowOf (os ++ [newOb s.lays i n])).length = (rowOf os).length + (needN s.lays i n).1.toNat := by
    rw [rowOf_append, List.length_append]
    have : rowOf [newOb s.lays i n] = (newOb s.lays i n).row := by simp [rowOf]
    rw [this]; omega
  have hwords : (if kindAt s.lays i = 3 then s.words.set s.top (headN i n) else fillW (s.words.set s.top (headN i n)) (s.top + 1) n.toNat) = rowOf (os ++ [newOb s.lays i n]) ++ List.replicate (s.words.length - (rowOf (os ++ [newOb s.lays i n])).length) 0 := by
    obtain ⟨r, hr2⟩ : ∃ r, s.words.length - (rowOf os).length = r + 1 := ⟨s.words.length - (rowOf os).length - 1, by omega⟩
    have e1 : s.words.set s.top (headN i n) = (rowOf os ++ [headN i n]) ++ List.replicate r 0 := by
      rw [htop]
      conv => lhs; rw [A.words, hr2]
      rw [List.set_append_right _ _ (Nat.le_refl _), Nat.sub_self, List.replicate_succ]
      simp
    have e2 : rowOf (os ++ [newOb s.lays i n]) = rowOf os ++ [headN i n] ++ (newOb s.lays i n).body := by
      rw [rowOf_append]; simp [rowOf, Ob.row, newOb]
    rw [hwl, e2]
    by_cases h3 : kindAt s.lays i = 3
    · rw [if_pos h3] at p6 ⊢
      rw [e1, newOb]
      simp only [h3, if_true]
      rw [List.append_assoc (rowOf os ++ [headN i n]), List.replicate_append_replicate]
      congr 2
      omega
    · rw [if_neg h3] at p6 ⊢
      have hfl : (rowOf os ++ [headN i n]).length = s.top + 1 := by simp [htop]
      rw [e1, ← hfl, fillW_eq n.toNat _ _ (by simp; omega), newOb]
      simp only [h3, if_false]
      rw [List.drop_replicate]
      congr 2
      omega
  refine ⟨⟨?_, ?_, g.llen, g.kinds, ?_, ?_, ?_⟩, ?_, ?_, ?_, ?_⟩
  · show (Hs.alloc s i n _).words.length ≤ _
    simp only [Hs.alloc, Hs.mark]
    split
    · rw [List.length_set]; exact g.wlen
    · rw [fillW_length, List.length_set]; exact g.wlen
  · simp only [Hs.alloc, Hs.mark, List.length_set]
    split
    · rw [List.length_set]; exact g.hlen
    · rw [fillW_length, List.length_set]; exact g.hlen
  · intro w hw
    have hset : ∀ w ∈ s.words.set s.top (headN i n), 0 ≤ w ∧ w < 18446744073709551616 := fun w hw => by
      rcases List.mem_or_eq_of_mem_set hw with hw | rfl
      · exact g.wrange w hw
      · exact ⟨headN_lo .., headN_hi ..⟩
    simp only [Hs.alloc, Hs.mark] at hw
    split at hw
    · exact hset w hw
    · exact fillW_range hset _ _ w hw
  · intro w hw
    simp only [Hs.alloc, Hs.mark] at hw
    rcases List.mem_or_eq_of_mem_set hw with hw | rfl
    · exact g.hrange w hw
    · have := getD_range g.hrange (s.top / 64)
      exact orBit_range this.1 this.2 (by omega)
  · simp only [Hs.alloc, Hs.mark]
    split
    · rw [List.length_set]; omega
    · rw [fillW_length, List.length_set]; omega
  · have hlen : (s.alloc i n (needN s.lays i n).1).words.length = s.words.length := by
      simp only [Hs.alloc, Hs.mark]
      split
      · rw [List.length_set]
      · rw [fillW_length, List.length_set]
    rw [hlen]
    exact hwords
  · simp only [Hs.alloc, Hs.mark]; omega
  · intro a ha
    have hl : a / 64 < s.heads.length := by simpa [Hs.alloc, Hs.mark] using ha
    have hb := A.bits a hl
    have hbr := getD_range g.hrange (s.top / 64)
    have ht : s.top / 64 < s.heads.length := by have := g.hlen; omega
    rw [findO_append, ← htop]
    unfold Hs.bit at hb ⊢
    simp only [Hs.alloc, Hs.mark]
    by_cases hq : a / 64 = s.top / 64
    · have : (s.heads.set (s.top / 64) (orBit (s.heads.getD (s.top / 64) 0) (s.top % 64))).getD (a / 64) 0 = orBit (s.heads.getD (s.top / 64) 0) (s.top % 64) := by
        rw [hq, List.getD_eq_getElem?_getD, List.getElem?_set]; simp [ht]
      rw [this, orBit_bit hbr.1 hbr.2 (by omega)]
      by_cases ha : (a : Int) = s.top
      · rw [if_pos ha]; simp; left; omega
      · rw [if_neg ha, ← hq, hb]
        constructor
        · rintro (h | h)
          · omega
          · exact h
        · exact .inr
    · have : (s.heads.set (s.top / 64) (orBit (s.heads.getD (s.top / 64) 0) (s.top % 64))).getD (a / 64) 0 = s.heads.getD (a / 64) 0 := by
        rw [List.getD_eq_getElem?_getD, List.getElem?_set, if_neg (fun e => hq e.symm), ← List.getD_eq_getElem?_getD]
      rw [this, if_neg (by intro e; apply hq; omega)]
      exact hb
  · intro o ho
    rcases List.mem_append.1 ho with ho | ho
    · exact A.each o ho
    · simp at ho; subst ho
      show needN s.lays i n = _
      rw [hr]
      exact Prod.ext rfl he
end Go.Proofs.Ytljkkfcokpimkaa.X
