/- The heap's objects and the reference's: plain facts. -/
import Derived.Test.YtljkkfcokpimkaaV12
set_option linter.unusedVariables false
set_option linter.unusedSimpArgs false
set_option maxRecDepth 20000
namespace Go.Proofs.Ytljkkfcokpimkaa.X
open Go Go.RowKit

theorem byteW_put (w : Int) {k k' : Nat} (c : Nat) (hk : k < 8) (hk' : k' < 8) (hc : c < 256) : byteW (putW w k c) k' = if k = k' then (c : Int) else byteW w k' := by
  unfold byteW putW
  have h1 : k = 0 ∨ k = 1 ∨ k = 2 ∨ k = 3 ∨ k = 4 ∨ k = 5 ∨ k = 6 ∨ k = 7 := by omega
  have h2 : k' = 0 ∨ k' = 1 ∨ k' = 2 ∨ k' = 3 ∨ k' = 4 ∨ k' = 5 ∨ k' = 6 ∨ k' = 7 := by omega
  rcases h1 with rfl | rfl | rfl | rfl | rfl | rfl | rfl | rfl <;> rcases h2 with rfl | rfl | rfl | rfl | rfl | rfl | rfl | rfl <;> simp only [Nat.reduceMul, Int.reducePow, Nat.reduceEqDiff, if_true, if_false, reduceIte] <;> omega
theorem putW_range {w : Int} {k c : Nat} (h0 : 0 ≤ w) (h1 : w < 18446744073709551616) (hk : k < 8) (hc : c < 256) : 0 ≤ putW w k c ∧ putW w k c < 18446744073709551616 := by
  rw [← put8 h0 h1 hk hc]
  show 0 ≤ IntKind.u64.wrap _ ∧ IntKind.u64.wrap _ < _
  rw [u64_wrap]
  omega
theorem byteW_zero (k : Nat) : byteW 0 k = 0 := by simp [byteW]
/-- Words hold these bytes, and noughts behind them. -/
def Packs (bs : List Nat) (body : List Int) : Prop := body.length = (bs.length + 7) / 8 ∧ ∀ i, i < 8 * body.length → byteW (body.getD (i / 8) 0) (i % 8) = ((bs.getD i 0 : Nat) : Int)
theorem Packs.set {bs : List Nat} {body : List Int} (p : Packs bs body) {i c : Nat} (hi : i < bs.length) (hc : c < 256) : Packs (bs.set i c) (body.set (i / 8) (putW (body.getD (i / 8) 0) (i % 8) c)) := by
  obtain ⟨p1, p2⟩ := p
  refine ⟨by simpa using p1, fun j hj => ?_⟩
  rw [List.length_set] at hj
  have hb : i / 8 < body.length := by omega
  by_cases he : i / 8 = j / 8
  · have e1 : (body.set (i / 8) (putW (body.getD (i / 8) 0) (i % 8) c)).getD (j / 8) 0 = putW (body.getD (i / 8) 0) (i % 8) c := by
      rw [← he, List.getD_eq_getElem?_getD, List.getElem?_set]; simp [hb]
    rw [e1, byteW_put _ _ (by omega) (by omega) hc]
    by_cases hij : i = j
    · subst hij
      rw [if_pos rfl, List.getD_eq_getElem?_getD, List.getElem?_set]; simp [hi]
    · rw [if_neg (by omega), he, p2 j hj, List.getD_eq_getElem?_getD, List.getD_eq_getElem?_getD, List.getElem?_set, if_neg hij]
  · have e1 : (body.set (i / 8) (putW (body.getD (i / 8) 0) (i % 8) c)).getD (j / 8) 0 = body.getD (j / 8) 0 := by
      rw [List.getD_eq_getElem?_getD, List.getElem?_set, if_neg he, ← List.getD_eq_getElem?_getD]
    have hij : i ≠ j := fun q => he (by rw [q])
    rw [e1, p2 j hj, List.getD_eq_getElem?_getD, List.getD_eq_getElem?_getD, List.getElem?_set, if_neg hij]
theorem packs_zero (n : Nat) : Packs (List.replicate n 0) (List.replicate ((n + 7) / 8) 0) := by
  refine ⟨by simp, fun i hi => ?_⟩
  have e1 : ∀ (m j : Nat), (List.replicate m (0 : Int)).getD j 0 = 0 := fun m j => by
    rw [List.getD_eq_getElem?_getD, List.getElem?_replicate]; split <;> rfl
  have e2 : ∀ (m j : Nat), (List.replicate m (0 : Nat)).getD j 0 = 0 := fun m j => by
    rw [List.getD_eq_getElem?_getD, List.getElem?_replicate]; split <;> rfl
  rw [e1, e2, byteW_zero]; rfl
/-- An object of the heap is one of the reference. -/
def RelO (lays : List (Int × Int)) (o : Ob) (r : RO) : Prop :=
  r.sh = o.sh ∧ r.n = o.n ∧ if kindAt lays o.sh = 3 then r.fs = [] ∧ (r.bs.length : Int) = o.n ∧ Packs r.bs o.body else r.fs = o.body ∧ r.bs = [] ∧ (r.fs.length : Int) = o.n
/-- The objects from a place on are those of the reference. -/
def Rel (lays : List (Int × Int)) : Nat → List Ob → List RV → Prop
  | _, [], [] => True
  | p, o :: os, x :: l => x.r.a = p ∧ RelO lays o x.r ∧ Rel lays (p + o.row.length) os l
  | _, _, _ => False
theorem Rel.len {lays : List (Int × Int)} : ∀ {p : Nat} {os : List Ob} {l : List RV}, Rel lays p os l → os.length = l.length
  | _, [], [], _ => rfl
  | _, [], _ :: _, h => h.elim
  | _, _ :: _, [], h => h.elim
  | _, o :: os, x :: l, h => by simp [Rel.len h.2.2]
/-- Found in both, or in none. -/
theorem Rel.find {lays : List (Int × Int)} : ∀ {p : Nat} {os : List Ob} {l : List RV}, Rel lays p os l → ∀ a : Int,
    (findO os (a - p) = none ∧ atR l a = none) ∨ ∃ o x, findO os (a - p) = some o ∧ atR l a = some x ∧ RelO lays o x.r ∧ x.r.a = a
  | _, [], [], _, a => .inl ⟨rfl, rfl⟩
  | _, [], _ :: _, h, _ => h.elim
  | _, _ :: _, [], h, _ => h.elim
  | p, o :: os, x :: l, h, a => by
    obtain ⟨h1, h2, h3⟩ := h
    by_cases ha : a = p
    · right
      refine ⟨o, x, ?_, ?_, h2, by omega⟩
      · rw [findO, if_pos (by omega)]
      · simp [atR, h1, ha]
    · have := h3.find a
      have e1 : findO (o :: os) (a - p) = findO os (a - ((p + o.row.length : Nat) : Int)) := by
        rw [findO, if_neg (by omega)]; congr 1; omega
      have e2 : atR (x :: l) a = atR l a := by
        have : ¬ x.r.a = a := by omega
        simp [atR, this]
      rw [e1, e2]
      exact this
theorem Rel.find0 {lays : List (Int × Int)} {os : List Ob} {l : List RV} (r : Rel lays 0 os l) (a : Int) :
    (findO os a = none ∧ atR l a = none) ∨ ∃ o x, findO os a = some o ∧ atR l a = some x ∧ RelO lays o x.r ∧ x.r.a = a := by
  have := r.find a
  simpa using this
theorem Rel.has {lays : List (Int × Int)} {os : List Ob} {l : List RV} (r : Rel lays 0 os l) (a i : Int) : hasO lays os a i false = hasF l a i ∧ hasO lays os a i true = hasB l a i := by
  unfold hasO hasF hasB
  rcases r.find0 a with ⟨h1, h2⟩ | ⟨o, x, h1, h2, h3, h4⟩
  · rw [h1, h2]; exact ⟨rfl, rfl⟩
  · rw [h1, h2]
    obtain ⟨_, _, h3⟩ := h3
    by_cases hk : kindAt lays o.sh = 3
    · rw [if_pos hk] at h3
      simp only [hk, h3.1, decide_true, ← h3.2.1, List.length_nil]
      constructor
      · have : ¬ (0 ≤ i ∧ i < ((0 : Nat) : Int)) := by omega
        simp
      · simp
    · rw [if_neg hk] at h3
      simp only [hk, h3.2.1, decide_false, ← h3.2.2, List.length_nil]
      constructor
      · simp
      · simp
theorem Rel.fits {lays : List (Int × Int)} {os : List Ob} {l : List RV} (r : Rel lays 0 os l) (w : Int) : fitsO os w = fitsR l w := by
  unfold fitsO fitsR
  rcases r.find0 (w / 2) with ⟨h1, h2⟩ | ⟨o, x, h1, h2, h3, h4⟩
  · rw [h1, h2]; rfl
  · rw [h1, h2]; rfl
theorem Rel.top {s : Hs} {os : List Ob} (A : Abs s os) {l : List RV} (r : Rel s.lays 0 os l) : topR s.lays l = s.top := by
  rw [A.top]
  have each := A.each
  have : ∀ (p : Nat) (os : List Ob) (l : List RV), (∀ o ∈ os, needN s.lays o.sh o.n = ((o.row.length : Int), 0)) → Rel s.lays p os l → topR s.lays l = (rowOf os).length := by
    intro p os
    induction os generalizing p with
    | nil =>
      intro l _ h
      cases l with
      | nil => rfl
      | cons x l => exact h.elim
    | cons o os ih =>
      intro l he h
      cases l with
      | nil => exact h.elim
      | cons x l =>
        obtain ⟨h1, h2, h3⟩ := h
        have e := ih _ l (fun o ho => he o (by simp [ho])) h3
        have e2 := he o (by simp)
        unfold topR at e ⊢
        rw [List.map_cons, List.sum_cons, e, h2.1, h2.2.1, e2, rowOf_cons, List.length_append]
        simp
  exact this 0 os l each r
theorem Rel.setF {lays : List (Int × Int)} : ∀ {p : Nat} {os : List Ob} {l : List RV}, Rel lays p os l → ∀ (a : Int) (i : Nat) (w : Int) (o : Ob), findO os (a - p) = some o → kindAt lays o.sh ≠ 3 →
    Rel lays p (setO os (a - p) i w) (modR l a (·.setF i w))
  | _, [], [], _, a, i, w, o, h, _ => by cases h
  | _, [], _ :: _, h, _, _, _, _, _, _ => h.elim
  | _, _ :: _, [], h, _, _, _, _, _, _ => h.elim
  | p, y :: os, x :: l, h, a, i, w, o, hf, hk => by
    obtain ⟨h1, h2, h3⟩ := h
    by_cases ha : a = p
    · rw [findO, if_pos (by omega)] at hf
      injection hf with hf; subst hf
      rw [setO, if_pos (by omega), modR, if_pos (by omega)]
      refine ⟨h1, ⟨h2.1, h2.2.1, ?_⟩, ?_⟩
      · have := h2.2.2
        rw [if_neg hk] at this
        show if kindAt lays y.sh = 3 then _ else _
        rw [if_neg hk]
        exact ⟨by simp [RV.setF, this.1], this.2.1, by simpa [RV.setF] using this.2.2⟩
      · have : ({ y with body := y.body.set i w } : Ob).row.length = y.row.length := by simp [Ob.row]
        rw [this]; exact h3
    · have hne : ¬ x.r.a = a := by omega
      rw [findO, if_neg (by omega)] at hf
      rw [setO, if_neg (by omega), modR, if_neg hne]
      have e : a - (p : Int) - y.row.length = a - ((p + y.row.length : Nat) : Int) := by omega
      rw [e] at hf ⊢
      exact ⟨h1, h2, h3.setF a i w o hf hk⟩
theorem Rel.setB {lays : List (Int × Int)} : ∀ {p : Nat} {os : List Ob} {l : List RV}, Rel lays p os l → ∀ (a : Int) (i c : Nat) (o : Ob), findO os (a - p) = some o → kindAt lays o.sh = 3 → (i : Int) < o.n → c < 256 →
    Rel lays p (setO os (a - p) (i / 8) (putW (o.body.getD (i / 8) 0) (i % 8) c)) (modR l a (·.setB i c))
  | _, [], [], _, a, i, w, o, h, _, _, _ => by cases h
  | _, [], _ :: _, h, _, _, _, _, _, _, _, _ => h.elim
  | _, _ :: _, [], h, _, _, _, _, _, _, _, _ => h.elim
  | p, y :: os, x :: l, h, a, i, c, o, hf, hk, hi, hc => by
    obtain ⟨h1, h2, h3⟩ := h
    by_cases ha : a = p
    · rw [findO, if_pos (by omega)] at hf
      injection hf with hf; subst hf
      rw [setO, if_pos (by omega), modR, if_pos (by omega)]
      refine ⟨h1, ⟨h2.1, h2.2.1, ?_⟩, ?_⟩
      · have := h2.2.2
        rw [if_pos hk] at this
        show if kindAt lays y.sh = 3 then _ else _
        rw [if_pos hk]
        exact ⟨this.1, by simpa [RV.setB] using this.2.1, this.2.2.set (by omega) hc⟩
      · have : ({ y with body := y.body.set (i / 8) (putW (y.body.getD (i / 8) 0) (i % 8) c) } : Ob).row.length = y.row.length := by simp [Ob.row]
        rw [this]; exact h3
    · have hne : ¬ x.r.a = a := by omega
      rw [findO, if_neg (by omega)] at hf
      rw [setO, if_neg (by omega), modR, if_neg hne]
      have e : a - (p : Int) - y.row.length = a - ((p + y.row.length : Nat) : Int) := by omega
      rw [e] at hf ⊢
      exact ⟨h1, h2, h3.setB a i c o hf hk hi hc⟩
theorem Rel.snoc {lays : List (Int × Int)} : ∀ {p : Nat} {os : List Ob} {l : List RV}, Rel lays p os l → ∀ (o : Ob) (x : RV), x.r.a = ((p + (rowOf os).length : Nat) : Int) → RelO lays o x.r → Rel lays p (os ++ [o]) (l ++ [x])
  | p, [], [], _, o, x, ha, ho => ⟨by simpa [rowOf] using ha, ho, trivial⟩
  | _, [], _ :: _, h, _, _, _, _ => h.elim
  | _, _ :: _, [], h, _, _, _, _ => h.elim
  | p, y :: os, z :: l, h, o, x, ha, ho => by
    obtain ⟨h1, h2, h3⟩ := h
    refine ⟨h1, h2, h3.snoc o x ?_ ho⟩
    rw [ha, rowOf_cons, List.length_append]; congr 1; omega
theorem newRO_rel {lays : List (Int × Int)} {a i n : Int} (hn : 0 ≤ n) : RelO lays (newOb lays i n) (newRO lays a i n) := by
  refine ⟨rfl, rfl, ?_⟩
  show if kindAt lays i = 3 then _ else _
  by_cases hk : kindAt lays i = 3
  · rw [if_pos hk]
    have e : ((n + 7) / 8).toNat = (n.toNat + 7) / 8 := by omega
    simp only [newRO, newOb, hk, if_true, e]
    exact ⟨trivial, by simp; omega, packs_zero _⟩
  · rw [if_neg hk]
    simp only [newRO, newOb, hk, if_false]
    exact ⟨trivial, trivial, by simp; omega⟩
end Go.Proofs.Ytljkkfcokpimkaa.X
