/- What the law law19 needs: texts of one's own, put together; functions' contracts and plain facts. -/
import Derived.Test.YtljkkfcokpimkaaT19D
set_option linter.unusedVariables false
set_option linter.unusedSimpArgs false
set_option maxRecDepth 20000
namespace Go.Proofs.Ytljkkfcokpimkaa.X
open Go Go.RowKit
structure Case (h1 h2 h' : H) (b bw bd : Nat) (B : List Nat) (s : Hs) (os : List Ob) (bx : Nat) (BL : List Nat) (l : List RV) (v : AV) (rts : List Int) : Prop where
  both : Both h1 h2 b bw bd B s os bx BL l
  wl : s.words.length = 1500
  ll : l.length ≤ 150
  fr : Fr [] h2 h'
  own : Own h2 h' 25 1 v rts.length (wc rts)
  rl : rts.length ≤ 30
  rr : ∀ w ∈ rts, 0 ≤ w ∧ w < 18446744073709551616
section
variable {h h1 h2 h' : H} {b bw bd bx : Nat} {B BL : List Nat} {s : Hs} {os : List Ob} {l : List RV} {v : AV} {rts : List Int}
theorem Case.keep (c : Case h1 h2 h' b bw bd B s os bx BL l v rts) {h3 : H} (f : Fr [] h' h3) : Case h1 h2 h3 b bw bd B s os bx BL l v rts :=
  ⟨c.both, c.wl, c.ll, c.fr.trans f, c.own.keep fun k n p _ ob hg => f k ob (by simp) hg, c.rl, c.rr⟩
theorem Case.now (c : Case h1 h2 h' b bw bd B s os bx BL l v rts) : Both h1 h' b bw bd B s os bx BL l := c.both.keep0 c.fr
theorem Case.hs (c : Case h1 h2 h' b bw bd B s os bx BL l v rts) : HS h' b bw bd B s.lays 1500 os := ⟨s, c.now.hh, c.both.A, rfl, c.wl⟩
theorem Case.fit (c : Case h1 h2 h' b bw bd B s os bx BL l v rts) : fitAll s.lays os := c.both.fit
theorem Case.wh (c : Case h1 h2 h' b bw bd B s os bx BL l v rts) : wholeO s.lays os = true := c.both.whole
theorem Case.row (c : Case h1 h2 h' b bw bd B s os bx BL l v rts) {h3 : H} {S : List Nat} (f : Fr S h' h3) (hS : ∀ k ∈ S, k ∈ b :: bw :: bd :: B ∨ h'.get k = none) : Row h3 v rts.length 1 (wc rts) := by
  refine c.own.row.mono fun k off cap ob e hg => ?_
  refine f k ob (fun q => ?_) hg
  rcases hS k q with q | q
  · rcases c.own.2 with ⟨_, e2⟩ | ⟨k2, e2, e3, _⟩
    · rw [e2] at e; cases e
    · rw [e2] at e; injection e with e
      rw [e] at e3
      exact c.both.hh.alive k q e3
  · rw [q] at hg; cases hg
end
end Go.Proofs.Ytljkkfcokpimkaa.X
set_option linter.unusedVariables false
set_option linter.unusedSimpArgs false
set_option maxRecDepth 20000
namespace Go.Proofs.Ytljkkfcokpimkaa.X
open Go Go.RowKit
section
variable {h : H}
theorem lit1 {x : Int} {K : AV → H → Prop} (hK : ∀ m h', Fr [] h h' → h.get m = none → Row h' (.sl m 0 1 (.exact 1)) 1 1 (wc [x]) → K (.sl m 0 1 (.exact 1)) h') :
    mkslA h 25 1 (fillV [.int .u64 0] [(0, 1, .int .u64 x)]) K := by
  have e : fillV [.int .u64 0] [(0, 1, .int .u64 x)] = some (wc [x]) := rfl
  rw [e]
  refine ⟨rfl, fun m hm => hK m _ ((Fr.refl _ _).set' hm) hm ⟨rfl, .inr ⟨m, 0, _, rfl, rfl, H.read_eq (H.get_same ..) (by simp [wc]) rfl⟩⟩⟩
end
end Go.Proofs.Ytljkkfcokpimkaa.X
set_option linter.unusedVariables false
set_option linter.unusedSimpArgs false
set_option maxRecDepth 20000
namespace Go.Proofs.Ytljkkfcokpimkaa.X
open Go Go.RowKit
def gb : List (Int × Int) := [(3, 0)]
end Go.Proofs.Ytljkkfcokpimkaa.X
set_option linter.unusedVariables false
set_option linter.unusedSimpArgs false
set_option maxRecDepth 20000
namespace Go.Proofs.Ytljkkfcokpimkaa.X
open Go Go.RowKit
def Thr (os : List Ob) : Prop := ∀ o ∈ os, o.row.length = 3
theorem thr_row : ∀ {os : List Ob}, Thr os → (rowOf os).length = 3 * os.length
  | [], _ => rfl
  | o :: os, h => by
    have := thr_row (os := os) fun x hx => h x (by simp [hx])
    rw [rowOf_cons, List.length_append, h o (by simp), this, List.length_cons]; omega
theorem thr_find : ∀ {os : List Ob}, Thr os → ∀ i : Nat, findO os ((3 * i : Nat) : Int) = os[i]?
  | [], _, i => by simp [findO]
  | o :: os, h, i => by
    have h3 := h o (by simp)
    cases i with
    | zero => simp [findO]
    | succ i =>
      rw [findO, if_neg (by omega), h3, List.getElem?_cons_succ, ← thr_find (os := os) (fun x hx => h x (by simp [hx])) i]
      congr 1; omega
theorem thr_set : ∀ {os : List Ob}, Thr os → ∀ (i j : Nat) (w : Int) (o : Ob), os[i]? = some o → setO os ((3 * i : Nat) : Int) j w = os.set i { o with body := o.body.set j w }
  | [], _, i, j, w, o, h => by simp at h
  | x :: os, h, i, j, w, o, hi => by
    have h3 := h x (by simp)
    cases i with
    | zero =>
      simp at hi
      subst hi
      simp [setO]
    | succ i =>
      rw [setO, if_neg (by omega), h3, List.set_cons_succ, ← thr_set (os := os) (fun y hy => h y (by simp [hy])) i j w o (by simpa using hi)]
      congr 2; omega
theorem thr_fwd {R : Nat → Bool} : ∀ {os : List Ob}, Thr os → ∀ (p to j : Nat), (∀ i, i < os.length → R (p + 3 * i) = true) → j < os.length → fwdN R os p to (p + 3 * j) = to + 3 * j
  | [], _, p, to, j, _, hj => by simp at hj
  | x :: os, h, p, to, j, hR, hj => by
    have h3 := h x (by simp)
    have hp : R p = true := hR 0 (by simp)
    cases j with
    | zero => rw [fwdN, if_pos (by omega)]; omega
    | succ j =>
      rw [fwdN, if_neg (by omega), hp, h3]
      have := thr_fwd (R := R) (os := os) (fun y hy => h y (by simp [hy])) (p + 3) (to + 3) j (fun i hi => by
        have := hR (i + 1) (by simp; omega)
        rw [show p + 3 * (i + 1) = p + 3 + 3 * i by omega] at this; exact this) (by simp at hj; omega)
      rw [if_pos rfl, show p + 3 * (j + 1) = p + 3 + 3 * j by omega, this]; omega
theorem thr_new {lays : List (Int × Int)} {R : Nat → Bool} {f : Nat → Nat} : ∀ {os : List Ob}, Thr os → ∀ (p : Nat), (∀ i, i < os.length → R (p + 3 * i) = true) → newOs lays R f os p = os.map (newB lays f)
  | [], _, p, _ => rfl
  | x :: os, h, p, hR => by
    have h3 := h x (by simp)
    have hp : R p = true := hR 0 (by simp)
    rw [newOs, hp, if_pos rfl, h3, List.map_cons]
    congr 1
    exact thr_new (fun y hy => h y (by simp [hy])) (p + 3) fun i hi => by
      have := hR (i + 1) (by simp; omega)
      rw [show p + 3 * (i + 1) = p + 3 + 3 * i by omega] at this; exact this
def kN (N c i : Nat) : Nat := (i + c) % N
def cN (N : Nat) (back : Bool) : Nat := if back then N - 1 else 1
def obN (N c d i : Nat) : Ob := ⟨0, 2, [((6 * (kN N c i + d) : Nat) : Int), ((2 * i + 1 : Nat) : Int)]⟩
def ringJ (N c j : Nat) : List Ob := (List.range N).map fun i => if i < j then obN N c 1 i else go0
theorem ringJ_len (N c j : Nat) : (ringJ N c j).length = N := by simp [ringJ]
theorem ringJ_get {N c j i : Nat} (h : i < N) : (ringJ N c j)[i]? = some (if i < j then obN N c 1 i else go0) := by simp [ringJ, h]
theorem ringJ_thr (N c j : Nat) : Thr (go0 :: ringJ N c j) := fun o ho => by
  rcases List.mem_cons.1 ho with rfl | ho
  · rfl
  · obtain ⟨i, hi, rfl⟩ := List.mem_map.1 ho
    split <;> rfl
theorem ringJ_set {N c j : Nat} (h : j < N) : setO (setO (go0 :: ringJ N c j) ((3 * (j + 1) : Nat) : Int) 0 ((6 * (kN N c j + 1) : Nat) : Int)) ((3 * (j + 1) : Nat) : Int) 1 ((2 * j + 1 : Nat) : Int) = go0 :: ringJ N c (j + 1) := by
  have t := ringJ_thr N c j
  have g : (go0 :: ringJ N c j)[j + 1]? = some go0 := by rw [List.getElem?_cons_succ, ringJ_get h, if_neg (by omega)]
  rw [thr_set t (j + 1) 0 _ go0 g, List.set_cons_succ]
  have t2 : Thr (go0 :: (ringJ N c j).set j { go0 with body := go0.body.set 0 ((6 * (kN N c j + 1) : Nat) : Int) }) := fun o ho => by
    rcases List.mem_cons.1 ho with rfl | ho
    · rfl
    · rcases List.mem_or_eq_of_mem_set ho with ho | rfl
      · exact t o (by simp [ho])
      · rfl
  have g2 : (go0 :: (ringJ N c j).set j { go0 with body := go0.body.set 0 ((6 * (kN N c j + 1) : Nat) : Int) })[j + 1]? = some { go0 with body := go0.body.set 0 ((6 * (kN N c j + 1) : Nat) : Int) } := by
    rw [List.getElem?_cons_succ, List.getElem?_set, if_pos rfl, if_pos (by rw [ringJ_len]; exact h)]
  rw [thr_set t2 (j + 1) 1 _ _ g2, List.set_cons_succ, List.set_set]
  congr 1
  apply List.ext_getElem?
  intro i
  rw [List.getElem?_set, ringJ_len]
  by_cases hi : i < N
  · rw [ringJ_get hi, ringJ_get hi]
    by_cases e : j = i
    · subst e
      rw [if_pos rfl, if_pos h, if_pos (by omega)]
      rfl
    · rw [if_neg e]
      by_cases h2 : i < j
      · rw [if_pos h2, if_pos (by omega)]
      · rw [if_neg h2, if_neg (by omega)]
  · rw [if_neg (by omega), List.getElem?_eq_none (by rw [ringJ_len]; omega), List.getElem?_eq_none (by rw [ringJ_len]; omega)]
theorem ring0 (N c : Nat) : go0 :: ringJ N c 0 = List.replicate (N + 1) go0 := by
  rw [List.replicate_succ]
  congr 1
  apply List.ext_getElem?
  intro i
  by_cases hi : i < N
  · rw [ringJ_get hi, if_neg (by omega), List.getElem?_replicate, if_pos hi]
  · rw [List.getElem?_eq_none (by rw [ringJ_len]; omega), List.getElem?_eq_none (by simp; omega)]
def itN (N c i0 t : Nat) : Nat := (i0 + t * c) % N
theorem kN_lt {N c i : Nat} (h : 0 < N) : kN N c i < N := Nat.mod_lt _ h
theorem itN_succ (N c i0 t : Nat) : kN N c (itN N c i0 t) = itN N c i0 (t + 1) := by
  unfold kN itN
  rw [Nat.add_mul, Nat.one_mul, ← Nat.add_assoc, Nat.add_mod, Nat.mod_mod, ← Nat.add_mod]
theorem itN_lt {N c i0 t : Nat} (h : 0 < N) : itN N c i0 t < N := Nat.mod_lt _ h
theorem itN_zero {N c i0 : Nat} (h : i0 < N) : itN N c i0 0 = i0 := by unfold itN; rw [Nat.zero_mul, Nat.add_zero, Nat.mod_eq_of_lt h]
theorem itN_N {N c i0 : Nat} (h : i0 < N) : itN N c i0 N = i0 := by unfold itN; rw [Nat.add_mul_mod_self_left, Nat.mod_eq_of_lt h]
theorem itN_all {N : Nat} {back : Bool} {i0 j : Nat} (h : i0 < N) (hj : j < N) : ∃ t, itN N (cN N back) i0 t = j := by
  unfold itN cN
  cases back with
  | false =>
    refine ⟨j + N - i0, ?_⟩
    simp only [Bool.false_eq_true, if_false, Nat.mul_one]
    rw [show i0 + (j + N - i0) = j + N by omega, Nat.add_mod_right, Nat.mod_eq_of_lt hj]
  | true =>
    refine ⟨i0 + N - j, ?_⟩
    simp only [if_true]
    obtain ⟨t, ht⟩ : ∃ t, i0 + N - j = t + 1 := ⟨i0 + N - j - 1, by omega⟩
    obtain ⟨M, rfl⟩ : ∃ M, N = M + 1 := ⟨N - 1, by omega⟩
    rw [ht, Nat.add_sub_cancel]
    have e : i0 + (t + 1) * M = j + (M + 1) * t := by
      rw [Nat.add_mul, Nat.mul_comm (M + 1) t, Nat.mul_add]; omega
    rw [e, Nat.add_mul_mod_self_left, Nat.mod_eq_of_lt hj]
section
variable {N c i0 : Nat} {back : Bool}
abbrev ringO (N c : Nat) : List Ob := go0 :: ringJ N c N
theorem ring_find (h : i0 < N) : findO (ringO N c) ((3 * (i0 + 1) : Nat) : Int) = some (obN N c 1 i0) := by
  rw [thr_find (ringJ_thr N c N), List.getElem?_cons_succ, ringJ_get h, if_pos h]
theorem ring_fit (hN : 0 < N) : fitAll gl (ringO N c) := fun o ho k w hw => by
  rcases List.mem_cons.1 ho with rfl | ho
  · simp [go0] at hw; subst hw; unfold fitsO; simp
  · obtain ⟨i, hi, rfl⟩ := List.mem_map.1 ho
    have hi := List.mem_range.1 hi
    rw [if_pos hi] at hw
    simp only [obN, List.mem_cons, List.not_mem_nil, or_false] at hw
    unfold fitsO
    rcases hw with rfl | rfl
    · have e : (((6 * (kN N c i + 1) : Nat) : Int) / 2) = ((3 * (kN N c i + 1) : Nat) : Int) := by omega
      rw [e, ring_find (kN_lt hN)]; simp
    · have : ((2 * i + 1 : Nat) : Int) % 2 = 1 := by omega
      simp [this]
theorem ring_whole (hN : 0 < N) : wholeO gl (ringO N c) = true := by
  unfold wholeO
  rw [List.all_eq_true]
  intro o ho
  have hs : o.sh = 0 := by
    rcases List.mem_cons.1 ho with rfl | ho
    · rfl
    · obtain ⟨i, hi, rfl⟩ := List.mem_map.1 ho
      split <;> rfl
  have hk : kindAt gl o.sh ≠ 3 := by rw [hs]; decide
  unfold okO
  rw [if_neg hk, List.all_eq_true]
  exact ring_fit hN o ho hk
def ringR (N : Nat) (a : Nat) : Bool := decide (a % 3 = 0 ∧ 3 ≤ a ∧ a ≤ 3 * N)
theorem ring_R (h : i0 < N) (a : Nat) : ringR N a = true ↔ Rch gl (ringO N (cN N back)) [((6 * (i0 + 1) : Nat) : Int)] a := by
  have hN : 0 < N := by omega
  constructor
  · intro ha
    unfold ringR at ha
    have ha : a % 3 = 0 ∧ 3 ≤ a ∧ a ≤ 3 * N := of_decide_eq_true ha
    obtain ⟨j, rfl⟩ : ∃ j, a = 3 * (j + 1) := ⟨a / 3 - 1, by omega⟩
    have hj : j < N := by omega
    obtain ⟨t, ht⟩ := itN_all (back := back) h hj
    have go : ∀ t, Rch gl (ringO N (cN N back)) [((6 * (i0 + 1) : Nat) : Int)] (3 * (itN N (cN N back) i0 t + 1)) := by
      intro t
      induction t with
      | zero =>
        rw [itN_zero h]
        have := Rch.root (lays := gl) (os := ringO N (cN N back)) (rts := [((6 * (i0 + 1) : Nat) : Int)]) (w := ((6 * (i0 + 1) : Nat) : Int)) (by simp) (by omega)
        rw [show (((6 * (i0 + 1) : Nat) : Int) / 2).toNat = 3 * (i0 + 1) by omega] at this
        exact this
      | succ t ih =>
        have := Rch.fld (w := ((6 * (kN N (cN N back) (itN N (cN N back) i0 t) + 1) : Nat) : Int)) ih (ring_find (itN_lt hN)) (by show kindAt gl 0 ≠ 3; decide) (by simp [obN]) (by omega)
        rw [itN_succ] at this
        rw [show (((6 * (itN N (cN N back) i0 (t + 1) + 1) : Nat) : Int) / 2).toNat = 3 * (itN N (cN N back) i0 (t + 1) + 1) by omega] at this
        exact this
    rw [← ht]; exact go t
  · intro hr
    induction hr with
    | root h1 h2 =>
      rename_i w
      simp only [List.mem_singleton] at h1
      subst h1
      unfold ringR
      rw [decide_eq_true_eq]; omega
    | fld h1 h2 h3 h4 h5 ih =>
      rename_i a o w
      unfold ringR at ih ⊢
      have ih : a % 3 = 0 ∧ 3 ≤ a ∧ a ≤ 3 * N := of_decide_eq_true ih
      obtain ⟨j, rfl⟩ : ∃ j, a = 3 * (j + 1) := ⟨a / 3 - 1, by omega⟩
      rw [ring_find (by omega)] at h2
      injection h2 with h2
      subst h2
      simp only [obN, List.mem_cons, List.not_mem_nil, or_false] at h4
      rcases h4 with rfl | rfl
      · have := Nat.mod_lt (j + cN N back) hN
        rw [decide_eq_true_eq]
        unfold kN
        omega
      · omega
theorem ring_fw {j : Nat} (h : j < N) : fw (ringR N) (ringO N c) (3 * (j + 1)) = 3 * j := by
  have h0 : ringR N 0 = false := by unfold ringR; simp
  show fwdN (ringR N) (go0 :: ringJ N c N) 0 0 (3 * (j + 1)) = 3 * j
  rw [fwdN, if_neg (by omega), h0]
  have := thr_fwd (R := ringR N) (os := ringJ N c N) (fun y hy => ringJ_thr N c N y (by simp [hy])) 3 0 j (fun i hi => by
    rw [ringJ_len] at hi
    unfold ringR; rw [decide_eq_true_eq]; omega) (by rw [ringJ_len]; exact h)
  have e : go0.row.length = 3 := rfl
  simp only [Bool.false_eq_true, if_false, e, Nat.zero_add]
  rw [show 3 * (j + 1) = 3 + 3 * j by omega, this]; omega
theorem ring_new (hN : 0 < N) : newO gl (ringR N) (ringO N c) = (List.range N).map (obN N c 0) := by
  have h0 : ringR N 0 = false := by unfold ringR; simp
  show newOs gl (ringR N) (fw (ringR N) (ringO N c)) (go0 :: ringJ N c N) 0 = _
  rw [newOs, h0]
  have e : go0.row.length = 3 := rfl
  simp only [Bool.false_eq_true, if_false, e, Nat.zero_add]
  rw [thr_new (fun y hy => ringJ_thr N c N y (by simp [hy])) 3 fun i hi => by
    rw [ringJ_len] at hi
    unfold ringR; rw [decide_eq_true_eq]; omega]
  unfold ringJ
  rw [List.map_map]
  apply List.map_congr_left
  intro i hi
  have hi := List.mem_range.1 hi
  simp only [Function.comp, if_pos hi]
  unfold newB obN
  have k : ¬ kindAt gl 0 = 3 := by decide
  simp only [k, if_false, List.map_cons, List.map_nil]
  have w1 : fwdW (fw (ringR N) (ringO N c)) ((6 * (kN N c i + 1) : Nat) : Int) = ((6 * (kN N c i + 0) : Nat) : Int) := by
    unfold fwdW
    rw [if_neg (by omega), show (((6 * (kN N c i + 1) : Nat) : Int) / 2).toNat = 3 * (kN N c i + 1) by omega, ring_fw (kN_lt hN)]
    omega
  have w2 : fwdW (fw (ringR N) (ringO N c)) ((2 * i + 1 : Nat) : Int) = ((2 * i + 1 : Nat) : Int) := fwdW_imm (by omega)
  have e2 : ringO N c = go0 :: (List.range N).map fun i => if i < N then obN N c 1 i else go0 := rfl
  rw [w1, w2]
theorem ring_nfind {i : Nat} (h : i < N) : findO ((List.range N).map (obN N c 0)) ((3 * i : Nat) : Int) = some (obN N c 0 i) := by
  have t : Thr ((List.range N).map (obN N c 0)) := fun o ho => by
    obtain ⟨i, hi, rfl⟩ := List.mem_map.1 ho
    rfl
  rw [thr_find t, List.getElem?_map, List.getElem?_range h]; rfl
theorem ring_nrow : (rowOf ((List.range N).map (obN N c 0))).length = 3 * N := by
  have t : Thr ((List.range N).map (obN N c 0)) := fun o ho => by
    obtain ⟨i, hi, rfl⟩ := List.mem_map.1 ho
    rfl
  rw [thr_row t]; simp
end
end Go.Proofs.Ytljkkfcokpimkaa.X
set_option linter.unusedVariables false
set_option linter.unusedSimpArgs false
set_option maxRecDepth 20000
namespace Go.Proofs.Ytljkkfcokpimkaa.X
open Go Go.RowKit
section
variable {h : H} {b bw bd : Nat} {B : List Nat} {lays : List (Int × Int)} {n : Nat} {os : List Ob}
theorem HS.frN {h' : H} (t : HS h b bw bd B lays n os) (f : FrN h h') : HS h' b bw bd B lays n os := by
  obtain ⟨s, hh, q⟩ := t
  exact ⟨s, hh.frN f, q⟩
theorem HS.own {h0 h' : H} {S : List Nat} {v : AV} {k : Nat} {cs : List AV} (t : HS h b bw bd B lays n os) (o : Own h0 h 3 1 v k cs) (f : Fr S h h') (hS : ∀ c ∈ S, c ∈ [b, bw, bd]) : Own h0 h' 3 1 v k cs := by
  refine o.keep fun c n' p e ob hg => f c ob (fun q => ?_) hg
  obtain ⟨s, hh, _⟩ := t
  obtain ⟨lv, g1, _⟩ := hh.st
  have hq := hS c q
  rcases o.2 with ⟨_, e2⟩ | ⟨b', e2, _, g⟩
  · rw [e2] at e; cases e
  · rw [e2] at e; injection e with e; subst e
    simp only [List.mem_cons, List.not_mem_nil, or_false] at hq
    rcases hq with rfl | rfl | rfl
    · rw [g1] at g; injection g with g; injection g with _ g _; cases g
    · have g2 := hh.wd; rw [g2] at g; injection g with g; injection g with _ g _; cases g
    · have g2 := hh.hd; rw [g2] at g; injection g with g; injection g with _ g _; cases g
end
theorem thr_fits {os : List Ob} (t : Thr os) {k : Nat} (hk : k + 1 < os.length) : fitsO os ((6 * (k + 1) : Nat) : Int) = true := by
  unfold fitsO
  rw [show (((6 * (k + 1) : Nat) : Int) / 2) = ((3 * (k + 1) : Nat) : Int) by omega, thr_find t, List.getElem?_eq_getElem hk]; simp
def atL (i : Nat) : List Nat := (List.range i).map fun j => 3 * (j + 1)
theorem atL_succ (i : Nat) : nc (atL (i + 1)) = nc (atL i) ++ [.int .i64 ((3 * (i + 1) : Nat) : Int)] := by simp [nc, atL, List.range_succ]
theorem atL_get {N i : Nat} (h : i < N) : (nc (atL N))[i]? = some (.int .i64 ((3 * (i + 1) : Nat) : Int)) := by simp [nc, atL, h]
theorem law19 (h : H) (ls : List (List AV)) (hl : LiesA h [.int .i64, .int .i64, .bool] ls) : C 19 (argsOf [.int .i64, .int .i64, .bool] ls) h yes := by
  obtain ⟨l0, ls, rfl, g0, hl⟩ := liesA_cons hl
  obtain ⟨l1, ls, rfl, g1, hl⟩ := liesA_cons hl
  obtain ⟨l2, ls, rfl, g2, hl⟩ := liesA_cons hl
  obtain rfl := liesA_nil hl
  obtain ⟨n, rfl, n0, n1⟩ := lies_i64 g0
  obtain ⟨hd, rfl, d0, d1⟩ := lies_i64 g1
  obtain ⟨back, rfl⟩ := lies_bool g2
  show C 19 [.int .i64 n, .int .i64 hd, .bool back] h yes
  refine run19 ?_
  unfold sh19
  have t0 : ∀ a c : AV, extA (.tup [a, c]) 0 = some a := fun _ _ => rfl
  have t1 : ∀ a c : AV, extA (.tup [a, c]) 1 = some c := fun _ _ => rfl
  have n00 : ¬ ((0 : Int) ≠ 0) := by decide
  simp only [mnA_1, minInt_1, minInt_0, valA_some, mxA_1, maxInt_1, maxInt_0]
  obtain ⟨N, hN, hN1, hN4⟩ : ∃ N : Nat, (if 1 < (if (400 : Int) < n then (400 : Int) else n) then (if (400 : Int) < n then (400 : Int) else n) else 1) = (N : Int) ∧ 1 ≤ N ∧ N ≤ 400 := by
    refine ⟨(if 1 < (if (400 : Int) < n then (400 : Int) else n) then (if (400 : Int) < n then (400 : Int) else n) else 1).toNat, ?_, ?_, ?_⟩ <;> (split <;> split <;> omega)
  rw [hN]
  clear hN n0 n1 g0 g1 g2
  have e3 : IntKind.i64.wrap (3 * (N : Int)) = 3 * N := i64_id (by omega) (by omega)
  have e4 : IntKind.i64.wrap (3 * (N : Int) + 3) = ((3 * N + 3 : Nat) : Int) := by rw [i64_id (by omega) (by omega)]; omega
  have e1 : fillV [.int .i64 0, .int .i64 0] [(0, 1, .int .i64 1), (1, 1, .int .i64 2)] = some [.int .i64 1, .int .i64 2] := rfl
  have e2 : fillV [.int .i64 0, .int .i64 0] [(0, 2, .agg [.int .i64 1, .int .i64 2])] = some (lc gl) := rfl
  simp only [b_mul, e3, valA_some, b_add, e4, e1, e2, buildA_s, mkslA_s]
  refine ⟨rfl, fun b0 hb0 => ?_⟩
  have f0 : Fr [] h (h.set b0 (.live (lc gl) 60 true)) := Fr.new hb0
  have r0 : Row (h.set b0 (.live (lc gl) 60 true)) (.sl b0 0 1 (.exact 1)) gl.length 2 (lc gl) := ⟨rfl, .inr ⟨b0, 0, _, rfl, rfl, H.read_eq (H.get_same ..) (by decide) rfl⟩⟩
  have hne : newErr ((3 * N + 3 : Nat) : Int) gl = 0 := by
    unfold newErr
    rw [if_neg (by omega), if_neg (by decide), if_neg (by decide)]
  refine new_c r0 (by decide) (fun q => absurd hne q) fun _ h1 b bw bd B f1 hfr hh1 => ?_
  have T1 : HS h1 b bw bd B gl (3 * N + 3) [] := ⟨_, hh1, by rw [Int.toNat_natCast]; exact abs_new (3 * N + 3) (lays := gl) (by omega) (by decide) (by decide), rfl, by rw [Int.toNat_natCast]; simp [newHs]⟩
  have hP : ∀ c ∈ [b, bw, bd], h.get c = none := fun c hc => by
    refine f0.free (hfr c ?_)
    simp only [List.mem_cons, List.not_mem_nil, or_false] at hc
    rcases hc with rfl | rfl | rfl <;> simp
  have gg1 := f0.trans f1
  simp only [t0, t1, valA_some, b_neq, n00, decide_false, whenA_ff, b_pn, pickA_b, Bool.false_eq_true, if_false, ne_eq, not_true_eq_false, condA_f]
  refine alloc_h T1 (i := 0) (k := 2) (by decide) (by show (3 : Int) ≤ ((3 * N + 3 : Nat) : Int) - ((0 : Nat) : Int); omega) fun h2 f2 T2 => ?_
  have gg2 := gg1.cons hP f2
  have T2 : HS h2 b bw bd B gl (3 * N + 3) (List.replicate 1 go0) := T2
  have rep : ∀ i, (rowOf (List.replicate i go0)).length = 3 * i := fun i => by
    have : Thr (List.replicate i go0) := fun o ho => by rw [List.eq_of_mem_replicate ho]; rfl
    rw [thr_row this]; simp
  refine join_r (fun (J : AV → H → Prop) => ∀ h3 v, Fr [] h h3 → HS h3 b bw bd B gl (3 * N + 3) (List.replicate (N + 1) go0) → Own h h3 3 1 v N (nc (atL N)) → J v h3) (fun h3 v gg3 T3 ov => ?_) fun J hJ => ?_
  · -- the ring is made
    have hc := cN N back
    refine join_r (fun (J : H → Prop) => ∀ h4, Fr [] h h4 → HS h4 b bw bd B gl (3 * N + 3) (ringO N (cN N back)) → Own h h4 3 1 v N (nc (atL N)) → J h4) (fun h4 gg4 T4 ov4 => ?_) fun J hJ => ?_
    · -- it is collected
      have w1 : IntKind.u64.wrap (N : Int) = N := u64_id (by omega) (by omega)
      have w2 : 0 ≤ IntKind.u64.wrap hd ∧ IntKind.u64.wrap hd < 18446744073709551616 := by rw [u64_wrap]; omega
      obtain ⟨W, hW⟩ : ∃ W, IntKind.u64.wrap hd = W := ⟨_, rfl⟩
      rw [hW] at w2
      have nz : (N : Int) ≠ 0 := by omega
      have m0 := Int.emod_nonneg W nz
      have m1 := Int.emod_lt_of_pos W (show (0 : Int) < N by omega)
      have e5 : W.tmod (N : Int) = W % (N : Int) := Int.tmod_eq_emod_of_nonneg w2.1
      obtain ⟨i0, hi0⟩ := Int.eq_ofNat_of_zero_le m0
      rw [hi0] at m1 e5
      have hi0l : i0 < N := by omega
      have e6 : IntKind.i64.wrap (i0 : Int) = i0 := i64_id (by omega) (by omega)
      simp only [cvA_i, valA_some, w1, hW, b_rem nz, e5, e6]
      refine ov4.row.get (x := .int .i64 ((3 * (i0 + 1) : Nat) : Int)) (by omega) m1 (by rw [Int.toNat_natCast, atL_get hi0l]) ?_
      have ep : ((3 * (i0 + 1) : Nat) : Int) * 2 % 18446744073709551616 = ((6 * (i0 + 1) : Nat) : Int) := by omega
      rw [ptr_c, ep]
      refine lit1 fun m5 h5 f5 _ r5 => ?_
      have T5 := T4.fr0 f5
      have hN0 : 0 < N := by omega
      have hrr : ∀ w ∈ [((6 * (i0 + 1) : Nat) : Int)], 0 ≤ w ∧ w < 18446744073709551616 := fun w hw => by simp only [List.mem_singleton] at hw; omega
      have hfa : ([((6 * (i0 + 1) : Nat) : Int)].all (fitsO (ringO N (cN N back)))) = true := by
        rw [List.all_cons, thr_fits (ringJ_thr N (cN N back) N) (by simp [ringJ_len]; omega)]; rfl
      refine collect_h (rts := [((6 * (i0 + 1) : Nat) : Int)]) T5 (ring_fit hN0) (ring_whole hN0) r5 hrr (by simp) (ringR N) (ring_R hi0l) (fun q => by rw [hfa] at q; cases q) fun _ h6 v6 m f6 hmm T6 o6 => ?_
      rw [ring_new hN0] at T6
      have eW : [((6 * (i0 + 1) : Nat) : Int)].map (fwdW (fw (ringR N) (ringO N (cN N back)))) = [((6 * i0 : Nat) : Int)] := by
        simp only [List.map_cons, List.map_nil]
        unfold fwdW
        rw [if_neg (by omega), show (((6 * (i0 + 1) : Nat) : Int) / 2).toNat = 3 * (i0 + 1) by omega, ring_fw hi0l]
        congr 1; omega
      rw [eW] at o6
      have hlen : lenA false v6 = some (.int .i64 1) := o6.row.len
      have e7 : IntKind.i64.wrap (3 * (N : Int)) = ((3 * N : Nat) : Int) := by rw [i64_id (by omega) (by omega)]; omega
      have n11 : ¬ ((1 : Int) ≠ 1) := by decide
      simp only [t0, t1, valA_some, b_neq, n00, n11, decide_false, whenA_ff, hlen, pickA_b, Bool.false_eq_true, if_false, ne_eq, not_true_eq_false, top_h T6, ring_nrow, b_mul, e7, condA_f]
      obtain ⟨b1, o1, q1, q2⟩ := o6.row.at (i := 0) (x := .int .u64 ((6 * i0 : Nat) : Int)) (by omega) (by simp) rfl
      simp only [q1, valA_some, ldA_n, q2]
      refine join_r (fun (J : AV → H → Prop) => J (.int .u64 ((6 * i0 : Nat) : Int)) h6) ?_ fun J hJ => ?_
      · simp only [q1, valA_some, ldA_n, q2, b_eql, decide_true, whenA_tt]
        refine gcLives_c fun h7 f7 => ?_
        simp only [pickA_b, if_true, valA_some]
        rfl
      · refine loop_r (N + 1) (fun c ls h' => ∃ t : Nat, ls = [.int .i64 (itN N (cN N back) i0 t), .int .u64 ((6 * itN N (cN N back) i0 t : Nat) : Int), .int .i64 t] ∧ t ≤ N ∧ h' = h6 ∧ c = N + 1 - t) ⟨0, by rw [itN_zero hi0l]; rfl, by omega, rfl, rfl⟩ ?_
        rintro c ls h' ⟨t, rfl, ht, e, rfl⟩
        rw [e, argA_0, argA_1, argA_2, b_lss, valA_some]
        by_cases q : (t : Int) < N
        · have hit := itN_lt (c := cN N back) (i0 := i0) (t := t) hN0
          have hs := itN_succ N (cN N back) i0 t
          generalize itN N (cN N back) i0 t = i at *
          have hu : 0 ≤ ((6 * i : Nat) : Int) ∧ ((6 * i : Nat) : Int) < 18446744073709551616 := by omega
          have ea : ((6 * i : Nat) : Int) / 2 = ((3 * i : Nat) : Int) := by omega
          have nf := ring_nfind (c := cN N back) hit
          have hk : kindAt gl (obN N (cN N back) 0 i).sh ≠ 3 := by show kindAt gl 0 ≠ 3; decide
          have g1 := fun K => get_h T6 (i := 1) nf hk (by decide) (by show (1 : Int) < 2; decide) K
          have g0 := fun K => get_h T6 (i := 0) nf hk (by decide) (by show (0 : Int) < 2; decide) K
          have v1 : (obN N (cN N back) 0 i).body.getD (1 : Int).toNat 0 = ((2 * i + 1 : Nat) : Int) := rfl
          have v0 : (obN N (cN N back) 0 i).body.getD (0 : Int).toNat 0 = ((6 * kN N (cN N back) i : Nat) : Int) := rfl
          rw [v1] at g1
          rw [v0] at g0
          have im : ∀ (h : H) K, C 83 [.int .i64 i] h K = K (.int .u64 ((2 * i + 1 : Nat) : Int)) h := fun h K => by rw [imm_c]; congr 2; omega
          have en : IntKind.i64.wrap ((t : Int) + 1) = ((t + 1 : Nat) : Int) := by rw [i64_id (by omega) (by omega)]; rfl
          have ei : IntKind.i64.wrap ((i : Int) + 1) = ((i + 1 : Nat) : Int) := by rw [i64_id (by omega) (by omega)]; rfl
          have er : ((i + 1 : Nat) : Int).tmod (N : Int) = (((i + 1) % N : Nat) : Int) := by rw [Int.tmod_eq_emod_of_nonneg (by omega)]; omega
          simp only [q, decide_true, condA_t, at_c hu.1 hu.2, ea, g1, t0, t1, valA_some, b_neq, n00, decide_false, whenA_ff, im, pickA_b, Bool.false_eq_true, if_false, ne_eq, not_true_eq_false, condA_f, b_add, ei, b_rem nz, er]
          refine join_r (fun (J : AV → H → Prop) => J (.int .i64 ((kN N (cN N back) i : Nat) : Int)) h6) ?_ fun J2 hJ2 => ?_
          · simp only [at_c hu.1 hu.2, ea, g0, t0, t1, valA_some, b_add, en]
            rw [hs]
            exact ⟨N + 1 - (t + 1), by omega, t + 1, rfl, by omega, by first | rfl | trivial, rfl⟩
          · cases back with
            | false =>
              simp only [condA_f]
              exact hJ2
            | true =>
              simp only [condA_t]
              have hm : (i + 1) % N < N := Nat.mod_lt _ hN0
              by_cases h2 : 2 ≤ (i + 1) % N + N
              · have y1 : IntKind.i64.wrap ((((i + 1) % N : Nat) : Int) + N) = (((i + 1) % N + N : Nat) : Int) := by rw [i64_id (by omega) (by omega)]; omega
                have y2 : IntKind.i64.wrap ((((i + 1) % N + N : Nat) : Int) - 2) = (((i + 1) % N + N - 2 : Nat) : Int) := by rw [i64_id (by omega) (by omega)]; omega
                have y3 : (((i + 1) % N + N - 2 : Nat) : Int).tmod (N : Int) = ((((i + 1) % N + N - 2) % N : Nat) : Int) := by rw [Int.tmod_eq_emod_of_nonneg (by omega)]; omega
                have y4 : ((i + 1) % N + N - 2) % N = kN N (cN N true) i := by
                  unfold kN cN
                  simp only [if_true]
                  by_cases hq : i + 1 < N
                  · rw [Nat.mod_eq_of_lt hq]; congr 1
                    omega
                  · have : i + 1 = N := by omega
                    rw [this, Nat.mod_self, show i + (N - 1) = (0 + N - 2) + N by omega, Nat.add_mod_right]
                rw [y4] at y3
                simp only [y1, valA_some, b_sub, y2, b_rem nz, y3, b_add]
                exact hJ2
              · -- one pair alone
                have hN1' : N = 1 := by omega
                subst hN1'
                have : i = 0 := by omega
                subst this
                have y1 : IntKind.i64.wrap ((((0 + 1) % 1 : Nat) : Int) + ((1 : Nat) : Int)) = 1 := by decide
                have y2 : IntKind.i64.wrap ((1 : Int) - 2) = -1 := by decide
                have y3 : (-1 : Int).tmod ((1 : Nat) : Int) = ((kN 1 (cN 1 true) 0 : Nat) : Int) := by decide
                simp only [y1, valA_some, b_add, b_sub, y2, b_rem nz, y3]
                exact hJ2
        · have : t = N := by omega
          subst this
          simp only [q, decide_false, condA_f]
          rw [itN_N hi0l]
          exact hJ
    · -- each pair is set
      have hN0 : 0 < N := by omega
      rw [← ring0 N (cN N back)] at T3
      refine loop_r (N + 1) (fun c ls h' => ∃ j : Nat, ls = [.int .i64 j] ∧ j ≤ N ∧ Fr [] h h' ∧ HS h' b bw bd B gl (3 * N + 3) (go0 :: ringJ N (cN N back) j) ∧ Own h h' 3 1 v N (nc (atL N)) ∧ c = N + 1 - j) ⟨0, rfl, by omega, gg3, T3, ov, rfl⟩ ?_
      rintro c ls h4 ⟨j, rfl, hj, gg4, T4, ov4, rfl⟩
      rw [argA_0, b_lss, valA_some]
      by_cases q : (j : Int) < N
      · have hj' : j < N := by omega
        have nz : (N : Int) ≠ 0 := by omega
        have ej : IntKind.i64.wrap ((j : Int) + 1) = ((j + 1 : Nat) : Int) := by rw [i64_id (by omega) (by omega)]; rfl
        have er : ((j + 1 : Nat) : Int).tmod (N : Int) = (((j + 1) % N : Nat) : Int) := by rw [Int.tmod_eq_emod_of_nonneg (by omega)]; omega
        simp only [q, decide_true, condA_t, b_add, ej, valA_some, b_rem nz, er]
        refine join_r (fun (J : AV → H → Prop) => J (.int .i64 ((kN N (cN N back) j : Nat) : Int)) h4) ?_ fun J2 hJ2 => ?_
        · have hk : kN N (cN N back) j < N := Nat.mod_lt _ hN0
          have hset := ringJ_set (c := cN N back) hj'
          have hthr := ringJ_thr N (cN N back) j
          have hlenr : (go0 :: ringJ N (cN N back) j).length = N + 1 := by simp [ringJ_len]
          have g1 : findO (go0 :: ringJ N (cN N back) j) ((3 * (j + 1) : Nat) : Int) = some go0 := by rw [thr_find hthr, List.getElem?_cons_succ, ringJ_get hj', if_neg (by omega)]
          have fit1 := thr_fits (k := kN N (cN N back) j) hthr (by rw [hlenr]; omega)
          generalize go0 :: ringJ N (cN N back) j = os4 at T4 hset hthr hlenr g1 fit1
          generalize kN N (cN N back) j = k at hk hset fit1
          obtain ⟨b1, o1, q1, q2⟩ := ov4.row.at (i := (j : Int)) (x := .int .i64 ((3 * (j + 1) : Nat) : Int)) (by omega) q (by rw [Int.toNat_natCast, atL_get hj'])
          obtain ⟨b2, o2, q3, q4⟩ := ov4.row.at (i := ((k : Nat) : Int)) (x := .int .i64 ((3 * (k + 1) : Nat) : Int)) (by omega) (by omega) (by rw [Int.toNat_natCast, atL_get hk])
          have ep : ((3 * (k + 1) : Nat) : Int) * 2 % 18446744073709551616 = ((6 * (k + 1) : Nat) : Int) := by omega
          simp only [q1, valA_some, ldA_n, q2, q3, q4, ptr_c, ep, againK_t]
          refine set_h T4 (i := 0) (w := ((6 * (k + 1) : Nat) : Int)) (by omega) (by omega) g1 (by decide) (by decide) (by decide) fit1 fun h5 f5 T5 => ?_
          have gg5 := gg4.cons (fun c hc => hP c (by simp at hc; simp [hc])) f5
          have ov5 := T4.own ov4 f5 (fun c hc => by simp at hc; simp [hc])
          obtain ⟨b3, o3, q5, q6⟩ := ov5.row.at (i := (j : Int)) (x := .int .i64 ((3 * (j + 1) : Nat) : Int)) (by omega) q (by rw [Int.toNat_natCast, atL_get hj'])
          have im : ∀ (h : H) K, C 83 [.int .i64 j] h K = K (.int .u64 ((2 * j + 1 : Nat) : Int)) h := fun h K => by rw [imm_c]; congr 2; omega
          simp only [b_neq, valA_some, n00, decide_false, whenA_ff, q5, ldA_n, q6, im, whenP_ff, againK_t, ne_eq, not_true_eq_false]
          have g2 : findO (setO os4 ((3 * (j + 1) : Nat) : Int) (0 : Int).toNat ((6 * (k + 1) : Nat) : Int)) ((3 * (j + 1) : Nat) : Int) = some { go0 with body := go0.body.set (0 : Int).toNat ((6 * (k + 1) : Nat) : Int) } := by
            rw [setO_find, g1]; simp
          refine set_h T5 (i := 1) (w := ((2 * j + 1 : Nat) : Int)) (by omega) (by omega) g2 (by show kindAt gl 0 ≠ 3; decide) (by decide) (by show (1 : Int) < 2; decide) (by
            unfold fitsO
            have : ((2 * j + 1 : Nat) : Int) % 2 = 1 := by omega
            simp [this]) fun h6 f6 T6 => ?_
          have gg6 := gg5.cons (fun c hc => hP c (by simp at hc; simp [hc])) f6
          have ov6 := T5.own ov5 f6 (fun c hc => by simp at hc; simp [hc])
          have T6 : HS h6 b bw bd B gl (3 * N + 3) (setO (setO os4 ((3 * (j + 1) : Nat) : Int) 0 ((6 * (k + 1) : Nat) : Int)) ((3 * (j + 1) : Nat) : Int) 1 ((2 * j + 1 : Nat) : Int)) := T6
          rw [hset] at T6
          simp only [b_neq, valA_some, n00, decide_false, pickA_b, Bool.false_eq_true, if_false, condA_f, b_add, ej, ne_eq, not_true_eq_false]
          exact ⟨N + 1 - (j + 1), by omega, j + 1, rfl, by omega, gg6, T6, ov6, rfl⟩
        · cases back with
          | false =>
            simp only [condA_f]
            exact hJ2
          | true =>
            have y1 : IntKind.i64.wrap ((j : Int) + N) = ((j + N : Nat) : Int) := by rw [i64_id (by omega) (by omega)]; omega
            have y2 : IntKind.i64.wrap (((j + N : Nat) : Int) - 1) = ((j + (N - 1) : Nat) : Int) := by rw [i64_id (by omega) (by omega)]; omega
            have y3 : ((j + (N - 1) : Nat) : Int).tmod (N : Int) = ((kN N (cN N true) j : Nat) : Int) := by
              rw [Int.tmod_eq_emod_of_nonneg (by omega)]
              unfold kN cN
              simp only [if_true]; omega
            simp only [condA_t, b_add, y1, valA_some, b_sub, y2, b_rem nz, y3]
            exact hJ2
      · have : j = N := by omega
        subst this
        simp only [q, decide_false, condA_f]
        exact hJ h4 gg4 T4 ov4
  · refine loop_r (N + 1) (fun c ls h' => ∃ (i : Nat) (v : AV), ls = [v, .int .i64 i] ∧ i ≤ N ∧ Fr [] h h' ∧ HS h' b bw bd B gl (3 * N + 3) (List.replicate (i + 1) go0) ∧ Own h h' 3 1 v i (nc (atL i)) ∧ c = N + 1 - i) ⟨0, .nilsl, rfl, by omega, gg2, T2, Own.nil _ _ _ _, rfl⟩ ?_
    rintro c ls h3 ⟨i, v, rfl, hi, gg3, T3, ov, rfl⟩
    rw [argA_0, argA_1, b_lss, valA_some]
    by_cases q : (i : Int) < N
    · have en : IntKind.i64.wrap ((i : Int) + 1) = ((i + 1 : Nat) : Int) := by rw [i64_id (by omega) (by omega)]; rfl
      have hrep := rep (i + 1)
      simp only [q, decide_true, condA_t]
      refine alloc_h T3 (i := 0) (k := 2) (by decide) (by rw [hrep]; show (3 : Int) ≤ _; omega) fun h4 f4 T4 => ?_
      have gg4 := gg3.cons hP f4
      have ov4 := T3.own ov f4 (fun c hc => hc)
      rw [hrep]
      simp only [t0, t1, valA_some, b_neq, n00, decide_false, condA_f, ne_eq, not_true_eq_false]
      have ef : fillV [AV.int .i64 0] [(0, 1, .int .i64 ((3 * (i + 1) : Nat) : Int))] = some [.int .i64 ((3 * (i + 1) : Nat) : Int)] := rfl
      rw [ef]
      refine append_one (h0 := h) ov4 rfl (by decide) (nc_leaves _) rfl gg4 (by unfold most; omega) fun v5 h5 o5 f5 k5 => ?_
      have fN : FrN h4 h5 := fun c cs e w he hg => k5 c _ hg (Own.ne ov4 hg (fun q => he q.symm))
      rw [b_add, en, valA_some]
      refine ⟨N + 1 - (i + 1), by omega, i + 1, v5, rfl, by omega, f5, ?_, by rw [atL_succ]; exact o5, rfl⟩
      have := T4.frN fN
      rw [List.replicate_succ']
      exact this
    · have : i = N := by omega
      subst this
      simp only [q, decide_false, condA_f]
      exact hJ h3 v gg3 T3 ov
end Go.Proofs.Ytljkkfcokpimkaa.X
