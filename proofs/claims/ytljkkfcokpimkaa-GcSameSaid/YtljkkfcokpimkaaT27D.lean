/- What the law law27 needs: texts of one's own, put together; functions' contracts and plain facts. -/
import Derived.Test.YtljkkfcokpimkaaT27C
set_option linter.unusedVariables false
set_option linter.unusedSimpArgs false
namespace Go.Proofs.Ytljkkfcokpimkaa.X
inductive Cell where
  | head (s n : Int) (m : Bool) (k : Nat)
  | ptr (a : Nat)
  | imm (w : Int)
  | raw (w : Int)
abbrev CM := Nat → Cell
def cupd (m : CM) (i : Nat) (c : Cell) : CM := fun j => if j = i then c else m j
theorem cupd_same (m : CM) (i : Nat) (c : Cell) : cupd m i c i = c := by unfold cupd; rw [if_pos rfl]
theorem cupd_other (m : CM) {i j : Nat} (c : Cell) (h : j ≠ i) : cupd m i c j = m j := by unfold cupd; rw [if_neg h]
theorem neA {A : Nat → Prop} {i a : Nat} (hi : ¬ A i) (ha : A a) : i ≠ a := fun e => hi (by rw [e]; exact ha)
def pupd {α : Type} (f : Nat → α) (i : Nat) (c : α) : Nat → α := fun j => if j = i then c else f j
theorem pupd_same {α : Type} (f : Nat → α) (i : Nat) (c : α) : pupd f i c i = c := by unfold pupd; rw [if_pos rfl]
theorem pupd_other {α : Type} (f : Nat → α) {i j : Nat} (c : α) (h : j ≠ i) : pupd f i c j = f j := by unfold pupd; rw [if_neg h]
structure MS where
  M : CM
  a : Nat
  back : Cell
inductive MR' where
  | go (s : MS)
  | done (m : CM)
  | bad
section
variable (fl : Int → Int → Nat) (sz : Nat)
def flds (c : Cell) : Nat := match c with | .head s n _ _ => fl s n | _ => 0
def mstep (x : MS) : MR' :=
  match x.M x.a with
  | .head s n _ k =>
    if k < fl s n then
      if x.a + 1 + k < sz then
        match cupd x.M x.a (.head s n true (k + 1)) (x.a + 1 + k) with
        | .imm _ => .go ⟨cupd x.M x.a (.head s n true (k + 1)), x.a, x.back⟩
        | .ptr c =>
          if c < sz then
            match cupd x.M x.a (.head s n true (k + 1)) c with
            | .head _ _ true _ => .go ⟨cupd x.M x.a (.head s n true (k + 1)), x.a, x.back⟩
            | .head _ _ false _ => .go ⟨cupd (cupd x.M x.a (.head s n true (k + 1))) (x.a + 1 + k) x.back, c, .ptr x.a⟩
            | _ => .bad
          else .bad
        | _ => .bad
      else .bad
    else
      if x.a < sz then
        match x.back with
        | .imm w => if w = 1 then .done (cupd x.M x.a (.head s n true k)) else .bad
        | .ptr f =>
          match cupd x.M x.a (.head s n true k) f with
          | .head _ _ _ j => if f + j < sz then .go ⟨cupd (cupd x.M x.a (.head s n true k)) (f + j) (.ptr x.a), f, cupd x.M x.a (.head s n true k) (f + j)⟩ else .bad
          | _ => .bad
        | _ => .bad
      else .bad
  | _ => .bad
def mrun : Nat → MS → Option CM
  | 0, _ => none
  | n + 1, x => match mstep fl sz x with | .go y => mrun n y | .done m => some m | .bad => none
structure Wf (A : Nat → Prop) (m0 : CM) : Prop where
  hd : ∀ a, A a → ∃ s n, m0 a = .head s n false 0
  fld : ∀ a, A a → ∀ j, j < flds fl (m0 a) → (∃ w, m0 (a + 1 + j) = .imm w) ∨ ∃ b, m0 (a + 1 + j) = .ptr b ∧ A b
  lt : ∀ a, A a → a + flds fl (m0 a) < sz
  dis : ∀ a b, A a → A b → a < b → a + flds fl (m0 a) < b
end
section
variable {fl : Int → Int → Nat} {sz : Nat} {A : Nat → Prop} {m0 : CM}
abbrev Fl (fl : Int → Int → Nat) (m0 : CM) (a : Nat) : Nat := flds fl (m0 a)
theorem Wf.nohead (w : Wf fl sz A m0) {a j : Nat} (ha : A a) (hj : j < Fl fl m0 a) : ¬ A (a + 1 + j) := fun h => by
  have := w.dis a _ ha h (by omega); unfold Fl at hj; omega
theorem Wf.apart (w : Wf fl sz A m0) {a b i j : Nat} (ha : A a) (hb : A b) (hab : a ≠ b) (hi : i ≤ Fl fl m0 a) (hj : j ≤ Fl fl m0 b) : a + i ≠ b + j := fun e => by
  rcases Nat.lt_or_gt_of_ne hab with h | h
  · have := w.dis a b ha hb h; unfold Fl at hi; omega
  · have := w.dis b a hb ha h; unfold Fl at hj; omega
def bk : List Nat → Cell
  | [] => .imm 1
  | b :: _ => .ptr b
def chainS (fl : Int → Int → Nat) (m0 : CM) (t : Nat → Nat) : Nat → List Nat → Prop
  | _, [] => True
  | a, b :: S => 1 ≤ t b ∧ t b ≤ Fl fl m0 b ∧ m0 (b + t b) = .ptr a ∧ chainS fl m0 t b S
def chainB (t : Nat → Nat) (M : CM) : List Nat → Prop
  | [] => True
  | b :: S => M (b + t b) = bk S ∧ chainB t M S
theorem chainS_congr {t t' : Nat → Nat} : ∀ {S : List Nat} {a : Nat}, (∀ b ∈ S, t' b = t b) → chainS fl m0 t a S → chainS fl m0 t' a S
  | [], _, _, _ => trivial
  | b :: S, a, h, ⟨h1, h2, h3, h4⟩ => by
    have e := h b (by simp)
    refine ⟨by rw [e]; exact h1, by rw [e]; exact h2, by rw [e]; exact h3, chainS_congr (fun c hc => h c (by simp [hc])) h4⟩
theorem chainB_congr {t t' : Nat → Nat} {M M' : CM} : ∀ {S : List Nat}, (∀ b ∈ S, t' b = t b) → (∀ b ∈ S, M' (b + t b) = M (b + t b)) → chainB t M S → chainB t' M' S
  | [], _, _, _ => trivial
  | b :: S, h, h', ⟨h1, h2⟩ => by
    refine ⟨?_, chainB_congr (fun c hc => h c (by simp [hc])) (fun c hc => h' c (by simp [hc])) h2⟩
    rw [h b (by simp), h' b (by simp)]; exact h1
theorem chainS_le {t : Nat → Nat} : ∀ {S : List Nat} {a : Nat}, chainS fl m0 t a S → ∀ b ∈ S, 1 ≤ t b ∧ t b ≤ Fl fl m0 b
  | b :: S, a, ⟨h1, h2, h3, h4⟩, c, hc => by
    rcases List.mem_cons.1 hc with rfl | hc
    · exact ⟨h1, h2⟩
    · exact chainS_le h4 c hc
structure MInv (fl : Int → Int → Nat) (A : Nat → Prop) (m0 : CM) (R : Nat → Prop) (V : Nat → Bool) (t : Nat → Nat) (S : List Nat) (M : CM) (a : Nat) (back : Cell) : Prop where
  aS : ∀ b ∈ a :: S, A b
  nd : (a :: S).Nodup
  link : chainS fl m0 t a S
  vS : ∀ b ∈ S, V b = true
  v0 : ∀ b, V b = false → t b = 0
  tle : ∀ b, A b → t b ≤ Fl fl m0 b
  clo : ∀ b, A b → V b = true → ∀ j, j < t b → ∀ c, m0 (b + 1 + j) = .ptr c → V c = true ∨ c = a
  fin : ∀ b, A b → V b = true → b ∉ a :: S → t b = Fl fl m0 b
  rch : ∀ b, A b → V b = true → R b
  ra : R a
  mh : ∀ b s n, A b → m0 b = .head s n false 0 → M b = .head s n (V b) (t b)
  mb : chainB t M S
  mo : ∀ i, ¬ A i → (∀ b ∈ S, i ≠ b + t b) → M i = m0 i
  bk' : back = bk S
structure Mk (fl : Int → Int → Nat) (A : Nat → Prop) (m0 : CM) (V : Nat → Bool) (m : CM) : Prop where
  mh : ∀ b s n, A b → m0 b = .head s n false 0 → m b = .head s n (V b) (if V b then fl s n else 0)
  mo : ∀ i, ¬ A i → m i = m0 i
def Closed (fl : Int → Int → Nat) (A : Nat → Prop) (m0 : CM) (V : Nat → Bool) : Prop := ∀ b, A b → V b = true → ∀ j, j < Fl fl m0 b → ∀ c, m0 (b + 1 + j) = .ptr c → V c = true
def Goes (fl : Int → Int → Nat) (A : Nat → Prop) (m0 : CM) (R : Nat → Prop) : Prop := ∀ b, A b → R b → ∀ j, j < Fl fl m0 b → ∀ c, m0 (b + 1 + j) = .ptr c → R c
def left (fl : Int → Int → Nat) (m0 : CM) (t : Nat → Nat) (As : List Nat) : Nat := (As.map fun b => Fl fl m0 b - t b).sum
theorem left_step {t : Nat → Nat} {a k : Nat} (ht : t a = k) (hk : k < Fl fl m0 a) : ∀ {As : List Nat}, a ∈ As → left fl m0 (pupd t a (k + 1)) As + 1 ≤ left fl m0 t As := by
  have le : ∀ As : List Nat, left fl m0 (pupd t a (k + 1)) As ≤ left fl m0 t As := by
    intro As
    induction As with
    | nil => simp [left]
    | cons b As ih =>
      simp only [left, List.map_cons, List.sum_cons] at ih ⊢
      by_cases h : b = a
      · subst h; rw [pupd_same]; omega
      · rw [pupd_other _ _ h]; omega
  intro As
  induction As with
  | nil => intro h; cases h
  | cons b As ih =>
    intro h
    have h2 := le As
    simp only [left, List.map_cons, List.sum_cons] at ih h2 ⊢
    by_cases e : b = a
    · subst e; rw [pupd_same]; omega
    · rw [pupd_other _ _ e]
      have := ih (by rcases List.mem_cons.1 h with h | h; exact absurd h.symm e; exact h)
      omega
theorem walk_ends (w : Wf fl sz A m0) {R : Nat → Prop} (hR : Goes fl A m0 R) {As : List Nat} (hAs : ∀ a, A a → a ∈ As) : ∀ (μ : Nat) (V : Nat → Bool) (t : Nat → Nat) (S : List Nat) (M : CM) (a : Nat) (back : Cell), 2 * left fl m0 t As + S.length < μ → MInv fl A m0 R V t S M a back →
    ∃ m V', mrun fl sz μ ⟨M, a, back⟩ = some m ∧ Mk fl A m0 V' m ∧ Closed fl A m0 V' ∧ (∀ b, A b → V' b = true → R b) ∧ (∀ b, V b = true ∨ b = a → V' b = true)
  | 0, _, _, _, _, _, _, h, _ => by omega
  | μ + 1, V, t, S, M, a, back, hμ, I => by
    have ha : A a := I.aS a (by simp)
    obtain ⟨s, n, e0⟩ := w.hd a ha
    have hM : M a = .head s n (V a) (t a) := I.mh a s n ha e0
    have hF : Fl fl m0 a = fl s n := by simp only [Fl, e0, flds]
    have haS : a ∉ S := (List.nodup_cons.1 I.nd).1
    have hlt := w.lt a ha
    have hSt : ∀ {k : Nat}, ∀ b ∈ S, pupd t a k b = t b := fun {k} b hb => pupd_other _ _ fun e => haS (e ▸ hb)
    have hSA : ∀ b ∈ S, A b := fun b hb => I.aS b (by simp [hb])
    have hle := chainS_le I.link
    -- a place of the way back is no head, and none of this object
    have backNo : ∀ b ∈ S, ¬ A (b + t b) := fun b hb h => by
      obtain ⟨h1, h2⟩ := hle b hb
      have := w.nohead (hSA b hb) (j := t b - 1) (by omega)
      rw [show b + 1 + (t b - 1) = b + t b by omega] at this
      exact this h
    have backAp : ∀ b ∈ S, ∀ j, j ≤ fl s n → a + j ≠ b + t b := fun b hb j hj => w.apart ha (hSA b hb) (fun e => haS (e ▸ hb)) (by rw [hF]; exact hj) (hle b hb).2
    have ta : t a ≤ fl s n := hF ▸ I.tle a ha
    by_cases hk : t a < fl s n
    · -- a field more
      have hpl : ¬ A (a + 1 + t a) := w.nohead ha (by rw [hF]; exact hk)
      have hne : a + 1 + t a ≠ a := by omega
      have hM1 : cupd M a (.head s n true (t a + 1)) (a + 1 + t a) = m0 (a + 1 + t a) := by
        rw [cupd_other _ _ hne]
        exact I.mo _ hpl fun b hb => by have := backAp b hb (1 + t a) (by omega); omega
      have hb1 : a + 1 + t a < sz := by unfold Fl at hF; omega
      have V1v : ∀ b, V b = true → pupd V a true b = true := fun b hb => by
        by_cases h : b = a
        · subst h; exact pupd_same ..
        · rw [pupd_other _ _ h]; exact hb
      have V1a : pupd V a true a = true := pupd_same ..
      have mh1 : ∀ b s' n', A b → m0 b = .head s' n' false 0 → cupd M a (.head s n true (t a + 1)) b = .head s' n' (pupd V a true b) (pupd t a (t a + 1) b) := fun b s' n' hb e => by
        by_cases h : b = a
        · subst h; rw [e0] at e; injection e with e1 e2; subst e1 e2; rw [cupd_same, pupd_same, pupd_same]
        · rw [cupd_other _ _ h, pupd_other _ _ h, pupd_other _ _ h]; exact I.mh b s' n' hb e
      have mo1 : ∀ i, ¬ A i → (∀ b ∈ S, i ≠ b + t b) → cupd M a (.head s n true (t a + 1)) i = m0 i := fun i hi hb => by
        rw [cupd_other _ _ (neA hi ha)]; exact I.mo i hi hb
      have mb1 : chainB (pupd t a (t a + 1)) (cupd M a (.head s n true (t a + 1))) S := chainB_congr (fun b hb => hSt b hb) (fun b hb => cupd_other _ _ (neA (backNo b hb) ha)) I.mb
      have link1 : chainS fl m0 (pupd t a (t a + 1)) a S := chainS_congr (fun b hb => hSt b hb) I.link
      have v01 : ∀ b, pupd V a true b = false → pupd t a (t a + 1) b = 0 := fun b hb => by
        by_cases h : b = a
        · subst h; rw [pupd_same] at hb; cases hb
        · rw [pupd_other _ _ h] at hb ⊢; exact I.v0 b hb
      have tle1 : ∀ b, A b → pupd t a (t a + 1) b ≤ Fl fl m0 b := fun b hb => by
        by_cases h : b = a
        · subst h; rw [pupd_same, hF]; omega
        · rw [pupd_other _ _ h]; exact I.tle b hb
      have rch1 : ∀ b, A b → pupd V a true b = true → R b := fun b hb hv => by
        by_cases h : b = a
        · subst h; exact I.ra
        · rw [pupd_other _ _ h] at hv; exact I.rch b hb hv
      have fin1 : ∀ b, A b → pupd V a true b = true → b ∉ a :: S → pupd t a (t a + 1) b = Fl fl m0 b := fun b hb hv hn => by
        have h : b ≠ a := fun e => hn (by simp [e])
        rw [pupd_other _ _ h] at hv ⊢; exact I.fin b hb hv hn
      -- all but the field that is looked at are closed
      have clo1 : ∀ b, A b → pupd V a true b = true → ∀ j, j < pupd t a (t a + 1) b → ∀ c, m0 (b + 1 + j) = .ptr c → pupd V a true c = true ∨ (b = a ∧ j = t a) := fun b hb hv j hj c hc => by
        have old : V b = true → j < t b → pupd V a true c = true := fun h1 h2 => by
          rcases I.clo b hb h1 j h2 c hc with h | h
          · exact V1v c h
          · rw [h]; exact V1a
        by_cases h : b = a
        · subst h
          rw [pupd_same] at hj
          by_cases hj2 : j = t b
          · exact .inr ⟨rfl, hj2⟩
          · left
            refine old ?_ (by omega)
            cases hVb : V b with
            | true => rfl
            | false => have := I.v0 b hVb; omega
        · rw [pupd_other _ _ h] at hv hj
          exact .inl (old hv hj)
      have hmu : 2 * left fl m0 (pupd t a (t a + 1)) As + 2 ≤ 2 * left fl m0 t As := by
        have := left_step (fl := fl) (m0 := m0) (t := t) (a := a) rfl (by rw [hF]; exact hk) (hAs a ha); omega
      -- the same object again
      have again : (∀ c, m0 (a + 1 + t a) = .ptr c → pupd V a true c = true) → ∃ m V', mrun fl sz μ ⟨cupd M a (.head s n true (t a + 1)), a, back⟩ = some m ∧ Mk fl A m0 V' m ∧ Closed fl A m0 V' ∧ (∀ b, A b → V' b = true → R b) ∧ (∀ b, V b = true ∨ b = a → V' b = true) := fun hc => by
        obtain ⟨m, V', q1, q2, q3, q4, q5⟩ := walk_ends w hR hAs μ (pupd V a true) (pupd t a (t a + 1)) S (cupd M a (.head s n true (t a + 1))) a back (by omega)
          ⟨I.aS, I.nd, link1, fun b hb => V1v b (I.vS b hb), v01, tle1, fun b hb hv j hj c hcc => by
            rcases clo1 b hb hv j hj c hcc with h | ⟨rfl, rfl⟩
            · exact .inl h
            · exact .inl (hc c hcc), fin1, rch1, I.ra, mh1, mb1, fun i hi hb => mo1 i hi fun b hbS => by have := hb b hbS; rwa [hSt b hbS] at this, I.bk'⟩
        exact ⟨m, V', q1, q2, q3, q4, fun b hb => q5 b (by rcases hb with hb | hb; exact .inl (V1v b hb); exact .inr hb)⟩
      rcases w.fld a ha (t a) (by unfold Fl at hF; omega) with ⟨wd, hw⟩ | ⟨c, hc, hcA⟩
      · -- an immediate
        have hs : mstep fl sz ⟨M, a, back⟩ = .go ⟨cupd M a (.head s n true (t a + 1)), a, back⟩ := by
          simp only [mstep, hM, if_pos hk, if_pos hb1, hM1, hw]
        obtain ⟨m, V', q1, q2⟩ := again fun c hc => by rw [hw] at hc; cases hc
        exact ⟨m, V', by simp only [mrun, hs]; exact q1, q2⟩
      · obtain ⟨s', n', ec⟩ := w.hd c hcA
        have hcz : c < sz := by have := w.lt c hcA; omega
        have hMc := mh1 c s' n' hcA ec
        cases hv : pupd V a true c with
        | true =>
          rw [hv] at hMc
          have hs : mstep fl sz ⟨M, a, back⟩ = .go ⟨cupd M a (.head s n true (t a + 1)), a, back⟩ := by
            simp only [mstep, hM, if_pos hk, if_pos hb1, hM1, hc, if_pos hcz, hMc]
          obtain ⟨m, V', q1, q2⟩ := again fun c' hc' => by rw [hc] at hc'; injection hc' with hc'; rw [← hc']; exact hv
          exact ⟨m, V', by simp only [mrun, hs]; exact q1, q2⟩
        | false =>
          rw [hv] at hMc
          have hs : mstep fl sz ⟨M, a, back⟩ = .go ⟨cupd (cupd M a (.head s n true (t a + 1))) (a + 1 + t a) back, c, .ptr a⟩ := by
            simp only [mstep, hM, if_pos hk, if_pos hb1, hM1, hc, if_pos hcz, hMc]
          have hca : c ≠ a := fun e => by rw [e, pupd_same] at hv; cases hv
          have hcS : c ∉ S := fun h => by
            have := V1v c (I.vS c h); rw [hv] at this; cases this
          have hi : ∀ b ∈ S, b + t b ≠ a + 1 + t a := fun b hb e => by have := backAp b hb (1 + t a) (by omega); omega
          have Rc : R c := hR a ha I.ra (t a) (by rw [hF]; exact hk) c hc
          obtain ⟨m, V', q1, q2, q3, q4, q5⟩ := walk_ends w hR hAs μ (pupd V a true) (pupd t a (t a + 1)) (a :: S) (cupd (cupd M a (.head s n true (t a + 1))) (a + 1 + t a) back) c (.ptr a) (by simp only [List.length_cons]; omega)
            ⟨fun b hb => by
              rcases List.mem_cons.1 hb with rfl | hb
              · exact hcA
              · exact I.aS b hb,
             List.nodup_cons.2 ⟨by simp only [List.mem_cons, not_or]; exact ⟨hca, hcS⟩, I.nd⟩,
             ⟨by rw [pupd_same]; omega, by rw [pupd_same, hF]; omega, by rw [pupd_same, show a + (t a + 1) = a + 1 + t a by omega]; exact hc, link1⟩,
             fun b hb => by
              rcases List.mem_cons.1 hb with rfl | hb
              · exact V1a
              · exact V1v b (I.vS b hb), v01, tle1, fun b hb hv' j hj c' hcc => by
              rcases clo1 b hb hv' j hj c' hcc with h | ⟨rfl, rfl⟩
              · exact .inl h
              · rw [hc] at hcc; injection hcc with hcc; exact .inr hcc.symm,
             fun b hb hv' hn => by
              simp only [List.mem_cons, not_or] at hn
              refine fin1 b hb hv' ?_
              simp only [List.mem_cons, not_or]; exact ⟨hn.2.1, hn.2.2⟩, rch1, Rc,
             fun b s2 n2 hb e => by rw [cupd_other _ _ (neA hpl hb).symm]; exact mh1 b s2 n2 hb e,
             ⟨by rw [pupd_same, show a + (t a + 1) = a + 1 + t a by omega, cupd_same]; exact I.bk', chainB_congr (fun _ _ => rfl) (fun b hb => cupd_other _ _ (by rw [hSt b hb]; exact hi b hb)) mb1⟩,
             fun i hi' hb => by
              have h1 := hb a (by simp)
              rw [pupd_same] at h1
              rw [cupd_other _ _ (fun e => h1 (by omega))]
              exact mo1 i hi' fun b hbS => by have := hb b (by simp [hbS]); rwa [hSt b hbS] at this,
             rfl⟩
          exact ⟨m, V', by simp only [mrun, hs]; exact q1, q2, q3, q4, fun b hb => q5 b (.inl (by rcases hb with hb | hb; exact V1v b hb; rw [hb]; exact V1a))⟩
    · -- all fields were looked at
      have hta : t a = fl s n := by omega
      have hb1 : a < sz := by omega
      have V1v : ∀ b, V b = true → pupd V a true b = true := fun b hb => by
        by_cases h : b = a
        · subst h; exact pupd_same ..
        · rw [pupd_other _ _ h]; exact hb
      have V1a : pupd V a true a = true := pupd_same ..
      have mh1 : ∀ b s' n', A b → m0 b = .head s' n' false 0 → cupd M a (.head s n true (t a)) b = .head s' n' (pupd V a true b) (t b) := fun b s' n' hb e => by
        by_cases h : b = a
        · subst h; rw [e0] at e; injection e with e1 e2; subst e1 e2; rw [cupd_same, pupd_same]
        · rw [cupd_other _ _ h, pupd_other _ _ h]; exact I.mh b s' n' hb e
      have rch1 : ∀ b, A b → pupd V a true b = true → R b := fun b hb hv => by
        by_cases h : b = a
        · subst h; exact I.ra
        · rw [pupd_other _ _ h] at hv; exact I.rch b hb hv
      have clo1 : ∀ b, A b → pupd V a true b = true → ∀ j, j < t b → ∀ c, m0 (b + 1 + j) = .ptr c → pupd V a true c = true := fun b hb hv j hj c hc => by
        have hVb : V b = true := by
          cases hVb : V b with
          | true => rfl
          | false => have := I.v0 b hVb; omega
        rcases I.clo b hb hVb j hj c hc with h | h
        · exact V1v c h
        · rw [h]; exact V1a
      cases S with
      | nil =>
        have hbk : back = .imm 1 := I.bk'
        have hs : mstep fl sz ⟨M, a, back⟩ = .done (cupd M a (.head s n true (t a))) := by
          simp only [mstep, hM, if_neg hk, if_pos hb1, hbk, if_true]
        have full : ∀ b, A b → pupd V a true b = true → t b = Fl fl m0 b := fun b hb hv => by
          by_cases h : b = a
          · subst h; rw [hF]; exact hta
          · rw [pupd_other _ _ h] at hv; exact I.fin b hb hv (by simp [h])
        refine ⟨cupd M a (.head s n true (t a)), pupd V a true, by simp only [mrun, hs], ⟨fun b s' n' hb e => ?_, fun i hi => ?_⟩, fun b hb hv j hj c hc => clo1 b hb hv j (by rw [full b hb hv]; exact hj) c hc, rch1, fun b hb => by rcases hb with hb | hb; exact V1v b hb; rw [hb]; exact V1a⟩
        · rw [mh1 b s' n' hb e]
          cases hv : pupd V a true b with
          | true => rw [full b hb hv]; simp only [Fl, e, flds, if_true]
          | false =>
            have h : b ≠ a := fun h => by rw [h, pupd_same] at hv; cases hv
            rw [pupd_other _ _ h] at hv
            rw [I.v0 b hv]; rfl
        · rw [cupd_other _ _ (neA hi ha)]
          exact I.mo i hi (by simp)
      | cons b S =>
        have hbk : back = .ptr b := I.bk'
        have hbA : A b := I.aS b (by simp)
        have hab : b ≠ a := fun e => haS (by simp [e])
        obtain ⟨s', n', eb⟩ := w.hd b hbA
        have hMb : cupd M a (.head s n true (t a)) b = .head s' n' true (t b) := by
          have := mh1 b s' n' hbA eb
          rwa [V1v b (I.vS b (by simp))] at this
        have hbl := hle b (by simp)
        have hbz : b + t b < sz := by have := w.lt b hbA; have := hbl.2; unfold Fl at this; omega
        have hs : mstep fl sz ⟨M, a, back⟩ = .go ⟨cupd (cupd M a (.head s n true (t a))) (b + t b) (.ptr a), b, cupd M a (.head s n true (t a)) (b + t b)⟩ := by
          simp only [mstep, hM, if_neg hk, if_pos hb1, hbk, hMb, if_pos hbz]
        have hbn := backNo b (by simp)
        have hMi : cupd M a (.head s n true (t a)) (b + t b) = bk S := by
          rw [cupd_other _ _ (neA hbn ha)]; exact I.mb.1
        have ndS := (List.nodup_cons.1 I.nd).2
        have apB : ∀ c ∈ S, c + t c ≠ b + t b := fun c hc => w.apart (I.aS c (by simp [hc])) hbA (fun e => (List.nodup_cons.1 ndS).1 (e ▸ hc)) (hle c (by simp [hc])).2 hbl.2
        obtain ⟨m, V', q1, q2, q3, q4, q5⟩ := walk_ends w hR hAs μ (pupd V a true) t S (cupd (cupd M a (.head s n true (t a))) (b + t b) (.ptr a)) b (cupd M a (.head s n true (t a)) (b + t b)) (by simp only [List.length_cons] at hμ; omega)
          ⟨fun c hc => I.aS c (by simp at hc ⊢; exact .inr hc), ndS, I.link.2.2.2, fun c hc => V1v c (I.vS c (by simp [hc])), fun c hc => by
              by_cases h : c = a
              · subst h; rw [pupd_same] at hc; cases hc
              · rw [pupd_other _ _ h] at hc; exact I.v0 c hc, I.tle, fun c hc hv j hj d hd => .inl (clo1 c hc hv j hj d hd),
            fun c hc hv hn => by
              by_cases h : c = a
              · subst h; rw [hF]; exact hta
              · rw [pupd_other _ _ h] at hv
                exact I.fin c hc hv (by simp at hn ⊢; exact ⟨h, hn.1, hn.2⟩),
            rch1, I.rch b hbA (I.vS b (by simp)),
            fun c s2 n2 hc e => by rw [cupd_other _ _ (neA hbn hc).symm]; exact mh1 c s2 n2 hc e,
            chainB_congr (fun _ _ => rfl) (fun c hc => by
              rw [cupd_other _ _ (apB c hc), cupd_other _ _ (neA (backNo c (by simp [hc])) ha)]) I.mb.2,
            fun i hi hb => by
              by_cases h : i = b + t b
              · rw [h, cupd_same]; exact I.link.2.2.1.symm
              · rw [cupd_other _ _ h, cupd_other _ _ (neA hi ha)]
                exact I.mo i hi fun c hc => by
                  rcases List.mem_cons.1 hc with rfl | hc
                  · exact h
                  · exact hb c hc,
            hMi⟩
        exact ⟨m, V', by simp only [mrun, hs]; exact q1, q2, q3, q4, fun c hc => q5 c (.inl (by rcases hc with hc | hc; exact V1v c hc; rw [hc]; exact V1a))⟩
theorem mark_one (w : Wf fl sz A m0) {R : Nat → Prop} (hR : Goes fl A m0 R) {As : List Nat} (hAs : ∀ a, A a → a ∈ As) {V : Nat → Bool} {m : CM} (hm : Mk fl A m0 V m) (hc : Closed fl A m0 V) (hv : ∀ b, A b → V b = true → R b) {a : Nat} (ha : A a) (hr : R a) :
    ∃ k m' V', mrun fl sz k ⟨m, a, .imm 1⟩ = some m' ∧ Mk fl A m0 V' m' ∧ Closed fl A m0 V' ∧ (∀ b, A b → V' b = true → R b) ∧ (∀ b, V b = true ∨ b = a → V' b = true) := by
  obtain ⟨m', V', q⟩ := walk_ends w hR hAs (2 * left fl m0 (fun b => if V b then Fl fl m0 b else 0) As + 0 + 1) V (fun b => if V b then Fl fl m0 b else 0) [] m a (.imm 1) (by simp)
    ⟨fun b hb => by simp at hb; rw [hb]; exact ha, by simp, trivial, by simp, fun b hb => by simp [hb], fun b hb => by
        show (if V b then Fl fl m0 b else 0) ≤ _
        split <;> omega, fun b hb hvb j hj c hcc => .inl (hc b hb hvb j (by simpa [hvb] using hj) c hcc), fun b hb hvb _ => by simp [hvb], hv, hr, fun b s n hb e => by
          rw [hm.mh b s n hb e]; simp only [Fl, e, flds], trivial, fun i hi _ => hm.mo i hi, rfl⟩
  exact ⟨_, m', V', q⟩
end
end Go.Proofs.Ytljkkfcokpimkaa.X
set_option linter.unusedVariables false
set_option linter.unusedSimpArgs false
namespace Go.Proofs.Ytljkkfcokpimkaa.X
def chain (m : CM) : Cell → List Nat → Cell → Prop
  | c, [], h => c = h
  | c, i :: l, h => c = .ptr i ∧ chain m (m i) l h
theorem chain_congr {m m' : CM} {h : Cell} : ∀ {l : List Nat} {c : Cell}, (∀ i ∈ l, m' i = m i) → chain m c l h → chain m' c l h
  | [], _, _, e => e
  | i :: l, c, hm, ⟨h1, h2⟩ => ⟨h1, by rw [hm i (by simp)]; exact chain_congr (fun j hj => hm j (by simp [hj])) h2⟩
def setl (m : CM) (l : List Nat) (c : Cell) : CM := fun x => if x ∈ l then c else m x
theorem setl_in {m : CM} {l : List Nat} {c : Cell} {x : Nat} (h : x ∈ l) : setl m l c x = c := by unfold setl; rw [if_pos h]
theorem setl_out {m : CM} {l : List Nat} {c : Cell} {x : Nat} (h : x ∉ l) : setl m l c x = m x := by unfold setl; rw [if_neg h]
def thr (m : CM) (i : Nat) : CM := match m i with | .ptr a => cupd (cupd m i (m a)) a (.ptr i) | _ => m
def thrs (m : CM) (b : Nat) : Nat → CM
  | 0 => m
  | n + 1 => thr (thrs m b n) (b + n)
def thrOk (lim : Nat) (m : CM) (i : Nat) : Prop := i < lim ∧ ((∃ w, m i = .imm w) ∨ ∃ a, m i = .ptr a ∧ a < lim)
def mov (m : CM) (a to k : Nat) (c : Cell) : CM := fun x => if x = to then c else if to < x ∧ x < to + k then m (a + (x - to)) else m x
def fwdC (fwd : Nat → Nat) : Cell → Cell
  | .ptr q => .ptr (fwd q)
  | c => c
structure OA where
  a : Nat
  k : Nat
  f : Nat
  s : Int
  n : Int
def PG (R : Nat → Bool) (lim : Nat) (ok : OA → Nat → CM → Prop) (act : OA → Nat → CM → CM) : List OA → Nat → CM → CM → Nat → Prop
  | [], to, m, m', to' => m' = m ∧ to' = to
  | o :: os, to, m, m', to' =>
    (R o.a = true ∧ ∃ l, chain m (m o.a) l (.head o.s o.n true o.f) ∧ l.Nodup ∧ (∀ i ∈ l, i < lim) ∧ o.a ∉ l ∧ ok o to (cupd (setl m l (.ptr to)) o.a (.head o.s o.n true o.f)) ∧
      PG R lim ok act os (to + o.k) (act o to (cupd (setl m l (.ptr to)) o.a (.head o.s o.n true o.f))) m' to') ∨
    (R o.a = false ∧ m o.a = .head o.s o.n false 0 ∧ PG R lim ok act os to m m' to')
abbrev okW1 (lim : Nat) (o : OA) (to : Nat) (m : CM) : Prop := ∀ j, j < o.f → thrOk lim (thrs m (o.a + 1) j) (o.a + 1 + j)
abbrev actW1 (o : OA) (to : Nat) (m : CM) : CM := thrs m (o.a + 1) o.f
abbrev P1 (R : Nat → Bool) (lim : Nat) : List OA → Nat → CM → CM → Nat → Prop := PG R lim (okW1 lim) actW1
abbrev okW2 (o : OA) (to : Nat) (m : CM) : Prop := to ≤ o.a
abbrev actW2 (o : OA) (to : Nat) (m : CM) : CM := mov m o.a to o.k (.head o.s o.n false 0)
abbrev P2 (R : Nat → Bool) (lim : Nat) : List OA → Nat → CM → CM → Nat → Prop := PG R lim okW2 actW2
def LayO : Nat → List OA → Prop
  | _, [] => True
  | p, o :: os => o.a = p ∧ 1 ≤ o.k ∧ o.f < o.k ∧ LayO (p + o.k) os
def endO : Nat → List OA → Nat
  | p, [] => p
  | p, o :: os => endO (p + o.k) os
def FwdO (R : Nat → Bool) (fwd : Nat → Nat) : Nat → List OA → Prop
  | _, [] => True
  | to, o :: os => (R o.a = true → fwd o.a = to) ∧ FwdO R fwd (if R o.a then to + o.k else to) os
def liveO (R : Nat → Bool) : Nat → List OA → Nat
  | to, [] => to
  | to, o :: os => liveO R (if R o.a then to + o.k else to) os
theorem LayO.ge : ∀ {os : List OA} {p : Nat}, LayO p os → ∀ o ∈ os, p ≤ o.a ∧ o.a + o.k ≤ endO p os ∧ 1 ≤ o.k ∧ o.f < o.k
  | x :: os, p, ⟨h1, h2, h3, h4⟩, o, ho => by
    have le : ∀ {os : List OA} {p : Nat}, LayO p os → p ≤ endO p os := by
      intro os
      induction os with
      | nil => intro p _; exact Nat.le_refl _
      | cons y os ih => intro p h; have := ih h.2.2.2; have := h.2.1; show p ≤ endO (p + y.k) os; omega
    rcases List.mem_cons.1 ho with rfl | ho
    · have := le h4; exact ⟨by omega, by show o.a + o.k ≤ endO (p + o.k) os; rw [h1]; exact this, h2, h3⟩
    · have := LayO.ge h4 o ho; exact ⟨by omega, this.2.1, this.2.2⟩
structure Gw (sz nr : Nat) (L : Nat → Prop) (F K : Nat → Nat) (m1 : CM) : Prop where
  hd : ∀ a, L a → ∃ s n, m1 a = .head s n true (F a)
  fld : ∀ a, L a → ∀ j, j < F a → (∃ w, m1 (a + 1 + j) = .imm w) ∨ ∃ q, m1 (a + 1 + j) = .ptr q ∧ L q
  root : ∀ i, sz ≤ i → i < sz + nr → (∃ w, m1 i = .imm w) ∨ ∃ q, m1 i = .ptr q ∧ L q
  byt : ∀ a, L a → ∀ j, F a ≤ j → j + 1 < K a → ∃ w, m1 (a + 1 + j) = .raw w
  le : ∀ a, L a → F a < K a
  lt : ∀ a, L a → a + K a ≤ sz
  dis : ∀ a b, L a → L b → a < b → a + K a ≤ b
section
variable {sz nr : Nat} {L : Nat → Prop} {F K : Nat → Nat} {m1 : CM}
def Src (sz nr : Nat) (L : Nat → Prop) (F : Nat → Nat) (i p : Nat) : Prop := (sz ≤ i ∧ i < sz + nr ∧ p = 0) ∨ ∃ a j, L a ∧ j < F a ∧ i = a + 1 + j ∧ p = a + 1
theorem Gw.noL (g : Gw sz nr L F K m1) {i p : Nat} (h : Src sz nr L F i p) : ¬ L i := fun hL => by
  rcases h with ⟨h1, h2, _⟩ | ⟨a, j, ha, hj, rfl, _⟩
  · have := g.lt i hL; have := g.le i hL; omega
  · have := g.dis a _ ha hL (by omega); have := g.le a ha; omega
theorem Gw.one (g : Gw sz nr L F K m1) {i p p' : Nat} (h : Src sz nr L F i p) (h' : Src sz nr L F i p') : p = p' := by
  rcases h with ⟨h1, h2, h3⟩ | ⟨a, j, ha, hj, rfl, h4⟩
  · rcases h' with ⟨_, _, h5⟩ | ⟨b, j', hb, hj', e, h5⟩
    · omega
    · have := g.lt b hb; have := g.le b hb; omega
  · have := g.lt a ha; have := g.le a ha
    rcases h' with ⟨h1, h2, h5⟩ | ⟨b, j', hb, hj', e, h5⟩
    · omega
    · have := g.le b hb
      rcases Nat.lt_trichotomy a b with q | q | q
      · have := g.dis a b ha hb q; omega
      · omega
      · have := g.dis b a hb ha q; omega
theorem Gw.tgt (g : Gw sz nr L F K m1) {i p q : Nat} (h : Src sz nr L F i p) (hq : m1 i = .ptr q) : L q := by
  rcases h with ⟨h1, h2, _⟩ | ⟨a, j, ha, hj, rfl, _⟩
  · rcases g.root i h1 h2 with ⟨w, e⟩ | ⟨q', e, hL⟩
    · rw [e] at hq; cases hq
    · rw [e] at hq; injection hq with hq; exact hq ▸ hL
  · rcases g.fld a ha j hj with ⟨w, e⟩ | ⟨q', e, hL⟩
    · rw [e] at hq; cases hq
    · rw [e] at hq; injection hq with hq; exact hq ▸ hL
structure TInv (sz nr : Nat) (L : Nat → Prop) (F : Nat → Nat) (m1 : CM) (fwd : Nat → Nat) (lo : Nat) (T D : Nat → Prop) (m : CM) : Prop where
  ts : ∀ i, T i → (∃ p, Src sz nr L F i p) ∧ ∃ q, m1 i = .ptr q
  ds : ∀ i, D i → (∃ p, Src sz nr L F i p) ∧ ¬ T i
  th : ∀ q, lo ≤ q → L q → ∃ l, chain m (m q) l (m1 q) ∧ l.Nodup ∧ ∀ i, i ∈ l ↔ T i ∧ m1 i = .ptr q
  dn : ∀ i q, lo ≤ i → D i → m1 i = .ptr q → m i = .ptr (fwd q)
  ot : ∀ x, lo ≤ x → ¬ L x → ¬ T x → ¬ D x → m x = m1 x
theorem TInv.congr {fwd : Nat → Nat} {lo : Nat} {T D T' D' : Nat → Prop} {m : CM} (I : TInv sz nr L F m1 fwd lo T D m) (hT : ∀ i, T' i ↔ T i) (hD : ∀ i, D' i ↔ D i) : TInv sz nr L F m1 fwd lo T' D' m := by
  have e1 : T' = T := funext fun i => propext (hT i)
  have e2 : D' = D := funext fun i => propext (hD i)
  rw [e1, e2]; exact I
variable {fwd : Nat → Nat} {lo : Nat} {T D : Nat → Prop} {m : CM}
theorem TInv.thr (g : Gw sz nr L F K m1) (I : TInv sz nr L F m1 fwd lo T D m) {i p : Nat} (hl : lo ≤ i) (hs : Src sz nr L F i p) (hT : ¬ T i) (hD : ¬ D i) (hlo : ∀ q, L q → lo ≤ q) :
    m i = m1 i ∧ TInv sz nr L F m1 fwd lo (fun x => T x ∨ (x = i ∧ ∃ q, m1 i = .ptr q)) D (thr m i) := by
  have hLi := g.noL hs
  have hm : m i = m1 i := I.ot i hl hLi hT hD
  refine ⟨hm, ?_⟩
  cases h1 : m1 i with
  | head s n b k =>
    exfalso
    rcases hs with ⟨a1, a2, _⟩ | ⟨a, j, ha, hj, rfl, _⟩
    · rcases g.root i a1 a2 with ⟨w, e⟩ | ⟨q, e, _⟩ <;> rw [e] at h1 <;> cases h1
    · rcases g.fld a ha j hj with ⟨w, e⟩ | ⟨q, e, _⟩ <;> rw [e] at h1 <;> cases h1
  | raw w =>
    exfalso
    rcases hs with ⟨a1, a2, _⟩ | ⟨a, j, ha, hj, rfl, _⟩
    · rcases g.root i a1 a2 with ⟨w, e⟩ | ⟨q, e, _⟩ <;> rw [e] at h1 <;> cases h1
    · rcases g.fld a ha j hj with ⟨w, e⟩ | ⟨q, e, _⟩ <;> rw [e] at h1 <;> cases h1
  | imm w =>
    have e : X.thr m i = m := by unfold X.thr; rw [hm, h1]
    rw [e]
    exact I.congr (fun x => by simp) (fun x => Iff.rfl)
  | ptr q =>
    have hLq := g.tgt hs h1
    have hqi : q ≠ i := fun e => hLi (e ▸ hLq)
    have e : X.thr m i = cupd (cupd m i (m q)) q (.ptr i) := by unfold X.thr; rw [hm, h1]
    rw [e]
    have other : ∀ x, x ≠ i → x ≠ q → cupd (cupd m i (m q)) q (.ptr i) x = m x := fun x h1 h2 => by rw [cupd_other _ _ h2, cupd_other _ _ h1]
    refine ⟨fun x hx => ?_, fun x hx => ⟨(I.ds x hx).1, fun h => ?_⟩, fun q' hq' hL' => ?_, fun x q' hx hDx e' => ?_, fun x hx hLx hTx hDx => ?_⟩
    · rcases hx with hx | ⟨rfl, hx⟩
      · exact I.ts x hx
      · exact ⟨⟨p, hs⟩, ⟨q, h1⟩⟩
    · rcases h with h | ⟨rfl, _⟩
      · exact (I.ds x hx).2 h
      · exact hD hx
    · obtain ⟨l, c1, c2, c3⟩ := I.th q' hq' hL'
      have hil : i ∉ l := fun h => hT ((c3 i).1 h).1
      have hql : q ∉ l := fun h => by obtain ⟨⟨p', hp'⟩, _⟩ := I.ts q ((c3 q).1 h).1; exact g.noL hp' hLq
      have keep : ∀ x ∈ l, cupd (cupd m i (m q)) q (.ptr i) x = m x := fun x hx => other x (fun e => hil (e ▸ hx)) (fun e => hql (e ▸ hx))
      by_cases hqq : q' = q
      · subst hqq
        refine ⟨i :: l, ⟨cupd_same .., ?_⟩, List.nodup_cons.2 ⟨hil, c2⟩, fun x => ?_⟩
        · rw [cupd_other _ _ (fun e => hqi e.symm), cupd_same]; exact chain_congr keep c1
        · rw [List.mem_cons, c3]
          constructor
          · rintro (rfl | ⟨a1, a2⟩)
            · exact ⟨.inr ⟨rfl, q', rfl⟩, h1⟩
            · exact ⟨.inl a1, a2⟩
          · rintro ⟨a1 | ⟨rfl, _⟩, a2⟩
            · exact .inr ⟨a1, a2⟩
            · exact .inl rfl
      · refine ⟨l, ?_, c2, fun x => ?_⟩
        · rw [other q' (fun e => hLi (e ▸ hL')) hqq]; exact chain_congr keep c1
        · rw [c3]
          constructor
          · rintro ⟨a1, a2⟩; exact ⟨.inl a1, a2⟩
          · rintro ⟨a1 | ⟨rfl, _⟩, a2⟩
            · exact ⟨a1, a2⟩
            · rw [h1] at a2; injection a2 with a2; exact absurd a2.symm hqq
    · rw [other x (fun e => hD (e ▸ hDx)) (fun e => by obtain ⟨⟨p', hp'⟩, _⟩ := I.ds x hDx; exact g.noL hp' (e ▸ hLq))]
      exact I.dn x q' hx hDx e'
    · have h3 : x ≠ i := fun e => hTx (.inr ⟨e, q, rfl⟩)
      rw [other x h3 (fun e => hLx (e ▸ hLq))]
      exact I.ot x hx hLx (fun h => hTx (.inl h)) hDx
theorem TInv.thrs (g : Gw sz nr L F K m1) (I : TInv sz nr L F m1 fwd 0 T D m) {b p lim : Nat} (hlim : sz + nr ≤ lim) : ∀ n, (∀ j, j < n → Src sz nr L F (b + j) p ∧ ¬ T (b + j) ∧ ¬ D (b + j)) →
    TInv sz nr L F m1 fwd 0 (fun x => T x ∨ (b ≤ x ∧ x < b + n ∧ ∃ q, m1 x = .ptr q)) D (thrs m b n) ∧ ∀ j, j < n → thrOk lim (thrs m b j) (b + j)
  | 0, _ => ⟨I.congr (fun x => ⟨fun h => by rcases h with h | ⟨h1, h2, _⟩; exact h; omega, .inl⟩) (fun _ => Iff.rfl), fun j hj => by omega⟩
  | n + 1, h => by
    obtain ⟨I1, ok⟩ := TInv.thrs g I hlim n fun j hj => h j (by omega)
    obtain ⟨hs, hT, hD⟩ := h n (by omega)
    obtain ⟨e, I2⟩ := I1.thr g (Nat.zero_le _) hs (fun h => by rcases h with h | ⟨_, h, _⟩; exact hT h; omega) hD (fun _ _ => Nat.zero_le _)
    refine ⟨I2.congr (fun x => ?_) (fun _ => Iff.rfl), fun j hj => ?_⟩
    · constructor
      · rintro (h | ⟨h1, h2, h3⟩)
        · exact .inl (.inl h)
        · by_cases hx : x = b + n
          · subst hx; exact .inr ⟨rfl, h3⟩
          · exact .inl (.inr ⟨h1, by omega, h3⟩)
      · rintro ((h | ⟨h1, h2, h3⟩) | ⟨rfl, h3⟩)
        · exact .inl h
        · exact .inr ⟨h1, by omega, h3⟩
        · exact .inr ⟨by omega, by omega, h3⟩
    · by_cases hj' : j = n
      · subst hj'
        have hlt : b + j < lim := by
          rcases hs with ⟨_, h2, _⟩ | ⟨a, j', ha, hj', e', _⟩
          · omega
          · have := g.lt a ha; have := g.le a ha; omega
        refine ⟨hlt, ?_⟩
        rw [e]
        have hfin : (∃ w, m1 (b + j) = .imm w) ∨ ∃ q, m1 (b + j) = .ptr q ∧ L q := by
          rcases hs with ⟨h1, h2, _⟩ | ⟨a, j', ha, hj', e', _⟩
          · exact g.root _ h1 h2
          · rw [e']; exact g.fld a ha j' hj'
        rcases hfin with h | ⟨q, h1, h2⟩
        · exact .inl h
        · exact .inr ⟨q, h1, by have := g.lt q h2; have := g.le q h2; omega⟩
      · exact ok j (by omega)
theorem TInv.unthr (g : Gw sz nr L F K m1) (I : TInv sz nr L F m1 fwd lo T D m) {q0 : Nat} (hlo : lo ≤ q0) (hq : L q0) :
    ∃ l, chain m (m q0) l (m1 q0) ∧ l.Nodup ∧ (∀ i, i ∈ l ↔ T i ∧ m1 i = .ptr q0) ∧ q0 ∉ l ∧ (∀ i ∈ l, i < sz + nr) ∧
      TInv sz nr L F m1 fwd lo (fun i => T i ∧ m1 i ≠ .ptr q0) (fun i => D i ∨ (T i ∧ m1 i = .ptr q0)) (cupd (setl m l (.ptr (fwd q0))) q0 (m1 q0)) := by
  obtain ⟨l, c1, c2, c3⟩ := I.th q0 hlo hq
  have hnl : ∀ x, L x → x ∉ l := fun x hx h => by obtain ⟨⟨p, hp⟩, _⟩ := I.ts x ((c3 x).1 h).1; exact g.noL hp hx
  have out : ∀ x, x ≠ q0 → x ∉ l → cupd (setl m l (.ptr (fwd q0))) q0 (m1 q0) x = m x := fun x h1 h2 => by rw [cupd_other _ _ h1, setl_out h2]
  refine ⟨l, c1, c2, c3, hnl q0 hq, fun i hi => ?_, fun i hi => I.ts i hi.1, fun i hi => ⟨?_, ?_⟩, fun q hq1 hq2 => ?_, fun i q hi hDi e => ?_, fun x hx hLx hTx hDx => ?_⟩
  · obtain ⟨⟨p, hp⟩, _⟩ := I.ts i ((c3 i).1 hi).1
    rcases hp with ⟨_, h2, _⟩ | ⟨a, j, ha, hj, e, _⟩
    · exact h2
    · have := g.lt a ha; have := g.le a ha; omega
  · rcases hi with hi | hi
    · exact (I.ds i hi).1
    · exact (I.ts i hi.1).1
  · rcases hi with hi | hi
    · exact fun h => (I.ds i hi).2 h.1
    · exact fun h => h.2 hi.2
  · by_cases e : q = q0
    · subst e
      refine ⟨[], cupd_same .., List.nodup_nil, fun i => ?_⟩
      constructor
      · intro h; cases h
      · rintro ⟨⟨_, h1⟩, h2⟩; exact absurd h2 h1
    · obtain ⟨l', d1, d2, d3⟩ := I.th q hq1 hq2
      refine ⟨l', ?_, d2, fun i => ?_⟩
      · rw [out q e (hnl q hq2)]
        refine chain_congr (fun i hi => out i (fun e2 => ?_) fun h => ?_) d1
        · obtain ⟨⟨p, hp⟩, _⟩ := I.ts i ((d3 i).1 hi).1; exact g.noL hp (e2 ▸ hq)
        · have a1 := ((c3 i).1 h).2; have a2 := ((d3 i).1 hi).2
          rw [a1] at a2; injection a2 with a2; exact e a2.symm
      · rw [d3]
        constructor
        · rintro ⟨h1, h2⟩; exact ⟨⟨h1, fun h => by rw [h] at h2; injection h2 with h2; exact e h2.symm⟩, h2⟩
        · rintro ⟨⟨h1, _⟩, h2⟩; exact ⟨h1, h2⟩
  · have hiq : i ≠ q0 := fun e2 => by
      have : ∃ p, Src sz nr L F i p := by
        rcases hDi with h | h
        · exact (I.ds i h).1
        · exact (I.ts i h.1).1
      obtain ⟨p, hp⟩ := this
      exact g.noL hp (e2 ▸ hq)
    rcases hDi with h | h
    · rw [out i hiq (fun h' => (I.ds i h).2 ((c3 i).1 h').1)]; exact I.dn i q hi h e
    · rw [cupd_other _ _ hiq, setl_in ((c3 i).2 h)]
      rw [h.2] at e; injection e with e; rw [e]
  · have h3 : ¬ T x := fun h => by
      obtain ⟨_, q, hq'⟩ := I.ts x h
      by_cases e : q = q0
      · subst e; exact hDx (.inr ⟨h, hq'⟩)
      · exact hTx ⟨h, fun h' => by rw [h'] at hq'; injection hq' with hq'; exact e hq'.symm⟩
    rw [out x (fun e => hLx (e ▸ hq)) (fun h => h3 ((c3 x).1 h).1)]
    exact I.ot x hx hLx h3 fun h => hDx (.inl h)
/-! ### The first way -/
def T1 (sz nr : Nat) (L : Nat → Prop) (F : Nat → Nat) (m1 : CM) (p i : Nat) : Prop := ∃ r q, Src sz nr L F i r ∧ m1 i = .ptr q ∧ r ≤ p ∧ ¬ (r ≤ q ∧ q < p)
def D1 (sz nr : Nat) (L : Nat → Prop) (F : Nat → Nat) (m1 : CM) (p i : Nat) : Prop := ∃ r q, Src sz nr L F i r ∧ m1 i = .ptr q ∧ r ≤ q ∧ q < p
structure Rest (L : Nat → Prop) (F K : Nat → Nat) (R : Nat → Bool) (m1 : CM) (p : Nat) (os : List OA) : Prop where
  lay : LayO p os
  all : ∀ x, L x → p ≤ x → ∃ o ∈ os, o.a = x
  yes : ∀ o ∈ os, R o.a = true → L o.a ∧ F o.a = o.f ∧ K o.a = o.k ∧ m1 o.a = .head o.s o.n true o.f
  no : ∀ o ∈ os, R o.a = false → ¬ L o.a ∧ m1 o.a = .head o.s o.n false 0
  ap : ∀ o ∈ os, ∀ r, ¬ Src sz nr L F o.a r
theorem Rest.next {R : Nat → Bool} {p : Nat} {o : OA} {os : List OA} (r : Rest (sz := sz) (nr := nr) L F K R m1 p (o :: os)) : Rest (sz := sz) (nr := nr) L F K R m1 (p + o.k) os := by
  obtain ⟨e1, e2, e3, e4⟩ := r.lay
  refine ⟨e4, fun x hx hp => ?_, fun x hx => r.yes x (by simp [hx]), fun x hx => r.no x (by simp [hx]), fun x hx => r.ap x (by simp [hx])⟩
  obtain ⟨y, hy, rfl⟩ := r.all x hx (by omega)
  rcases List.mem_cons.1 hy with rfl | hy
  · omega
  · exact ⟨y, hy, rfl⟩
theorem Rest.gap {R : Nat → Bool} {p : Nat} {o : OA} {os : List OA} (r : Rest (sz := sz) (nr := nr) L F K R m1 p (o :: os)) {x : Nat} (hx : L x) (h : x < p + o.k) : x ≤ p ∧ (x = p → R o.a = true) := by
  obtain ⟨e1, e2, e3, e4⟩ := r.lay
  by_cases hp : p ≤ x
  · obtain ⟨y, hy, rfl⟩ := r.all x hx hp
    rcases List.mem_cons.1 hy with rfl | hy
    · refine ⟨by omega, fun _ => ?_⟩
      cases hR : R y.a with
      | true => rfl
      | false => exact absurd hx (r.no y (by simp) hR).1
    · have := (e4.ge y hy).1; omega
  · exact ⟨by omega, fun h => by omega⟩
theorem pass1 (g : Gw sz nr L F K m1) {R : Nat → Bool} {lim : Nat} (hlim : sz + nr ≤ lim) : ∀ (os : List OA) (p to : Nat) (m : CM), Rest (sz := sz) (nr := nr) L F K R m1 p os → FwdO R fwd to os → TInv sz nr L F m1 fwd 0 (T1 sz nr L F m1 p) (D1 sz nr L F m1 p) m →
    ∃ m', P1 R lim os to m m' (liveO R to os) ∧ TInv sz nr L F m1 fwd 0 (T1 sz nr L F m1 (endO p os)) (D1 sz nr L F m1 (endO p os)) m'
  | [], p, to, m, r, _, I => ⟨m, ⟨rfl, rfl⟩, I⟩
  | o :: os, p, to, m, r, f, I => by
    obtain ⟨ea, ek, ef, e4⟩ := r.lay
    have gap := fun {x} => r.gap (x := x)
    cases hR : R o.a with
    | false =>
      obtain ⟨n1, n2⟩ := r.no o (by simp) hR
      have f2 : FwdO R fwd to os := by have := f.2; rwa [hR] at this
      have live : ∀ x, L x → (x < p + o.k ↔ x < p) := fun x hx => ⟨fun h => by
        have := gap hx h
        by_cases e : x = p
        · have := this.2 e; rw [hR] at this; cases this
        · omega, fun h => by omega⟩
      have src : ∀ i q, Src sz nr L F i q → (q ≤ p + o.k ↔ q ≤ p) := fun i q hs => by
        rcases hs with ⟨_, _, h3⟩ | ⟨a, j, ha, hj, _, h3⟩
        · omega
        · have := live a ha; omega
      have I' : TInv sz nr L F m1 fwd 0 (T1 sz nr L F m1 (p + o.k)) (D1 sz nr L F m1 (p + o.k)) m := by
        refine I.congr (fun i => ?_) fun i => ?_
        · constructor
          · rintro ⟨s, q, h1, h2, h3, h4⟩; have a1 := src i s h1; have a2 := live q (g.tgt h1 h2); exact ⟨s, q, h1, h2, by omega, by omega⟩
          · rintro ⟨s, q, h1, h2, h3, h4⟩; have a1 := src i s h1; have a2 := live q (g.tgt h1 h2); exact ⟨s, q, h1, h2, by omega, by omega⟩
        · constructor
          · rintro ⟨s, q, h1, h2, h3, h4⟩; have a2 := live q (g.tgt h1 h2); exact ⟨s, q, h1, h2, by omega, by omega⟩
          · rintro ⟨s, q, h1, h2, h3, h4⟩; have a2 := live q (g.tgt h1 h2); exact ⟨s, q, h1, h2, by omega, by omega⟩
      obtain ⟨m', q1, q2⟩ := pass1 g hlim os (p + o.k) to m r.next f2 I'
      refine ⟨m', .inr ⟨hR, ?_, ?_⟩, q2⟩
      · rw [I.ot o.a (Nat.zero_le _) n1 (fun ⟨s, _, h, _⟩ => r.ap o (by simp) s h) (fun ⟨s, _, h, _⟩ => r.ap o (by simp) s h)]; exact n2
      · show P1 R lim os to m m' (liveO R (if R o.a then to + o.k else to) os)
        rw [hR]; exact q1
    | true =>
      obtain ⟨y1, y2, y3, y4⟩ := r.yes o (by simp) hR
      have f1 : fwd o.a = to := f.1 hR
      have f2 : FwdO R fwd (to + o.k) os := by have := f.2; rwa [hR] at this
      have live : ∀ x, L x → (x < p + o.k ↔ x ≤ p) := fun x hx => ⟨fun h => (gap hx h).1, fun h => by omega⟩
      have src : ∀ i q, Src sz nr L F i q → (q ≤ p + o.k ↔ q ≤ p + 1) := fun i q hs => by
        rcases hs with ⟨_, _, h3⟩ | ⟨a, j, ha, hj, _, h3⟩
        · omega
        · have := live a ha; omega
      obtain ⟨l, c1, c2, c3, c4, c5, I1⟩ := I.unthr g (Nat.zero_le _) y1
      rw [f1, y4] at I1
      rw [y4] at c1
      have hsrc : ∀ j, j < o.f → Src sz nr L F (o.a + 1 + j) (o.a + 1) := fun j hj => .inr ⟨o.a, j, y1, by omega, rfl, rfl⟩
      obtain ⟨I2, ok⟩ := I1.thrs g (b := o.a + 1) (p := o.a + 1) hlim o.f fun j hj => by
        refine ⟨hsrc j hj, ?_, ?_⟩
        · rintro ⟨⟨s, q, h1, h2, h3, h4⟩, _⟩
          have := g.one h1 (hsrc j hj); omega
        · rintro (⟨s, q, h1, h2, h3, h4⟩ | ⟨⟨s, q, h1, h2, h3, h4⟩, _⟩) <;> (have := g.one h1 (hsrc j hj); omega)
      have I' := I2.congr (T' := T1 sz nr L F m1 (p + o.k)) (D' := D1 sz nr L F m1 (p + o.k)) (fun i => by
        constructor
        · rintro ⟨s, q, h1, h2, h3, h4⟩
          have a1 := src i s h1
          have a2 := live q (g.tgt h1 h2)
          by_cases hs : s = p + 1
          · right
            rcases h1 with ⟨_, _, h5⟩ | ⟨a, j, ha, hj, rfl, h5⟩
            · omega
            · have : a = o.a := by omega
              subst this
              exact ⟨by omega, by omega, q, h2⟩
          · left
            refine ⟨⟨s, q, h1, h2, by omega, by omega⟩, fun h => ?_⟩
            rw [h2] at h; injection h with h; omega
        · rintro (⟨⟨s, q, h1, h2, h3, h4⟩, h5⟩ | ⟨h1, h2, q, h3⟩)
          · have a1 := src i s h1
            have a2 := live q (g.tgt h1 h2)
            have a3 : q ≠ o.a := fun e => h5 (by rw [h2, e])
            exact ⟨s, q, h1, h2, by omega, by omega⟩
          · have hs := hsrc (i - (o.a + 1)) (by omega)
            rw [show o.a + 1 + (i - (o.a + 1)) = i by omega] at hs
            have a2 := live q (g.tgt hs h3)
            exact ⟨o.a + 1, q, hs, h3, by omega, by omega⟩) (fun i => by
        constructor
        · rintro ⟨s, q, h1, h2, h3, h4⟩
          have a2 := live q (g.tgt h1 h2)
          by_cases hq : q = p
          · right
            exact ⟨⟨s, q, h1, h2, by omega, by omega⟩, by rw [h2, hq, ea]⟩
          · left
            exact ⟨s, q, h1, h2, h3, by omega⟩
        · rintro (⟨s, q, h1, h2, h3, h4⟩ | ⟨⟨s, q, h1, h2, h3, h4⟩, h5⟩)
          · exact ⟨s, q, h1, h2, h3, by omega⟩
          · rw [h2] at h5; injection h5 with h5
            exact ⟨s, q, h1, h2, by omega, by omega⟩)
      obtain ⟨m', q1, q2⟩ := pass1 g hlim os (p + o.k) (to + o.k) _ r.next f2 I'
      refine ⟨m', .inl ⟨hR, l, c1, c2, fun i hi => by have := c5 i hi; omega, c4, ok, ?_⟩, q2⟩
      show P1 R lim os (to + o.k) _ m' (liveO R (if R o.a then to + o.k else to) os)
      rw [hR]; exact q1
theorem roots_thr (g : Gw sz nr L F K m1) (fwd : Nat → Nat) {lim : Nat} (hlim : sz + nr ≤ lim) : TInv sz nr L F m1 fwd 0 (T1 sz nr L F m1 0) (D1 sz nr L F m1 0) (thrs m1 sz nr) ∧ ∀ j, j < nr → thrOk lim (thrs m1 sz j) (sz + j) := by
  have I0 : TInv sz nr L F m1 fwd 0 (fun _ => False) (fun _ => False) m1 := ⟨fun i h => h.elim, fun i h => h.elim, fun q _ hq => ⟨[], rfl, List.nodup_nil, fun i => ⟨fun h => (by cases h), fun h => h.1.elim⟩⟩, fun i q _ h => h.elim, fun x _ _ _ _ => rfl⟩
  obtain ⟨I1, ok⟩ := I0.thrs g (b := sz) (p := 0) hlim nr fun j hj => ⟨.inl ⟨by omega, by omega, rfl⟩, id, id⟩
  refine ⟨I1.congr (fun i => ?_) (fun i => ?_), ok⟩
  · constructor
    · rintro ⟨s, q, h1, h2, h3, h4⟩
      rcases h1 with ⟨h5, h6, h7⟩ | ⟨a, j, ha, hj, e, h7⟩
      · exact .inr ⟨h5, h6, q, h2⟩
      · omega
    · rintro (h | ⟨h1, h2, q, h3⟩)
      · exact h.elim
      · exact ⟨0, q, .inl ⟨h1, h2, rfl⟩, h3, by omega, by omega⟩
  · constructor
    · rintro ⟨s, q, h1, h2, h3, h4⟩; omega
    · exact fun h => h.elim
/-! ### The second way -/
def T2 (sz nr : Nat) (L : Nat → Prop) (F : Nat → Nat) (m1 : CM) (p i : Nat) : Prop := ∃ r q, Src sz nr L F i r ∧ m1 i = .ptr q ∧ q < r ∧ p ≤ q
def D2 (sz nr : Nat) (L : Nat → Prop) (F : Nat → Nat) (m1 : CM) (p i : Nat) : Prop := ∃ r q, Src sz nr L F i r ∧ m1 i = .ptr q ∧ (r ≤ q ∨ q < p)
theorem first_second (g : Gw sz nr L F K m1) {p : Nat} (hp : ∀ a, L a → a < p) (I : TInv sz nr L F m1 fwd 0 (T1 sz nr L F m1 p) (D1 sz nr L F m1 p) m) : TInv sz nr L F m1 fwd 0 (T2 sz nr L F m1 0) (D2 sz nr L F m1 0) m := by
  have src : ∀ i q, Src sz nr L F i q → q ≤ p := fun i q hs => by
    rcases hs with ⟨_, _, h3⟩ | ⟨a, j, ha, hj, _, h3⟩
    · omega
    · have := hp a ha; omega
  refine I.congr (fun i => ?_) fun i => ?_
  · constructor
    · rintro ⟨s, q, h1, h2, h3, h4⟩; have a1 := src i s h1; have a2 := hp q (g.tgt h1 h2); exact ⟨s, q, h1, h2, by omega, by omega⟩
    · rintro ⟨s, q, h1, h2, h3, h4⟩; have a1 := src i s h1; have a2 := hp q (g.tgt h1 h2); exact ⟨s, q, h1, h2, by omega, by omega⟩
  · constructor
    · rintro ⟨s, q, h1, h2, h3⟩; have a2 := hp q (g.tgt h1 h2); exact ⟨s, q, h1, h2, by omega, by omega⟩
    · rintro ⟨s, q, h1, h2, h3, h4⟩; exact ⟨s, q, h1, h2, by omega⟩
def Moved (L : Nat → Prop) (K : Nat → Nat) (m1 : CM) (fwd : Nat → Nat) (p : Nat) (m : CM) : Prop := ∀ a, L a → a < p → ∀ s n k, m1 a = .head s n true k → m (fwd a) = .head s n false 0 ∧ ∀ j, j + 1 < K a → m (fwd a + 1 + j) = fwdC fwd (m1 (a + 1 + j))
theorem pass2 (g : Gw sz nr L F K m1) {R : Nat → Bool} {lim : Nat} (hlim : sz + nr ≤ lim) : ∀ (os : List OA) (p to : Nat) (m : CM), Rest (sz := sz) (nr := nr) L F K R m1 p os → endO p os ≤ sz → FwdO R fwd to os → to ≤ p → (∀ a, L a → a < p → fwd a + K a ≤ to) →
    TInv sz nr L F m1 fwd p (T2 sz nr L F m1 p) (D2 sz nr L F m1 p) m → Moved L K m1 fwd p m →
    ∃ m', P2 R lim os to m m' (liveO R to os) ∧ Moved L K m1 fwd (endO p os) m' ∧ (∀ i, sz ≤ i → i < sz + nr → m' i = fwdC fwd (m1 i))
  | [], p, to, m, r, hsz, _, _, _, I, M => by
    refine ⟨m, ⟨rfl, rfl⟩, M, fun i h1 h2 => ?_⟩
    have hz : p ≤ i := Nat.le_trans hsz h1
    have hs : Src sz nr L F i 0 := .inl ⟨h1, h2, rfl⟩
    have nT : ¬ T2 sz nr L F m1 p i := fun ⟨s, q, a1, a2, a3, a4⟩ => by have := g.one a1 hs; omega
    rcases g.root i h1 h2 with ⟨w, e⟩ | ⟨q, e, hq⟩
    · rw [I.ot i hz (g.noL hs) nT (fun ⟨s, q, a1, a2, _⟩ => by rw [e] at a2; cases a2), e]; rfl
    · rw [I.dn i q hz ⟨0, q, hs, e, .inl (Nat.zero_le _)⟩ e, e]; rfl
  | o :: os, p, to, m, r, hsz, f, hto, hbel, I, M => by
    obtain ⟨ea, ek, ef, e4⟩ := r.lay
    have gap := fun {x} => r.gap (x := x)
    have hend : p + o.k ≤ sz := by have := (r.lay.ge o (by simp)).2.1; omega
    cases hR : R o.a with
    | false =>
      obtain ⟨n1, n2⟩ := r.no o (by simp) hR
      have f2 : FwdO R fwd to os := by have := f.2; rwa [hR] at this
      have live : ∀ x, L x → (x < p + o.k ↔ x < p) := fun x hx => ⟨fun h => by
        have := gap hx h
        by_cases e : x = p
        · have := this.2 e; rw [hR] at this; cases this
        · omega, fun h => by omega⟩
      have I' : TInv sz nr L F m1 fwd (p + o.k) (T2 sz nr L F m1 (p + o.k)) (D2 sz nr L F m1 (p + o.k)) m := by
        have I0 : TInv sz nr L F m1 fwd p (T2 sz nr L F m1 (p + o.k)) (D2 sz nr L F m1 (p + o.k)) m := by
          refine I.congr (fun i => ?_) fun i => ?_
          · constructor
            · rintro ⟨s, q, h1, h2, h3, h4⟩; have a2 := live q (g.tgt h1 h2); exact ⟨s, q, h1, h2, by omega, by omega⟩
            · rintro ⟨s, q, h1, h2, h3, h4⟩; have a2 := live q (g.tgt h1 h2); exact ⟨s, q, h1, h2, by omega, by omega⟩
          · constructor
            · rintro ⟨s, q, h1, h2, h3⟩; have a2 := live q (g.tgt h1 h2); exact ⟨s, q, h1, h2, by omega⟩
            · rintro ⟨s, q, h1, h2, h3⟩; have a2 := live q (g.tgt h1 h2); exact ⟨s, q, h1, h2, by omega⟩
        exact ⟨I0.ts, I0.ds, fun q h => I0.th q (by omega), fun i q h => I0.dn i q (by omega), fun x h => I0.ot x (by omega)⟩
      obtain ⟨m', q1, q2, q3⟩ := pass2 g hlim os (p + o.k) to m r.next hsz f2 (by omega) (fun a ha h => hbel a ha (by have := live a ha; omega)) I' (fun a ha h => M a ha (by have := live a ha; omega))
      refine ⟨m', .inr ⟨hR, ?_, ?_⟩, q2, q3⟩
      · rw [I.ot o.a (by omega) n1 (fun ⟨s, _, h, _⟩ => r.ap o (by simp) s h) (fun ⟨s, _, h, _⟩ => r.ap o (by simp) s h)]; exact n2
      · show P2 R lim os to m m' (liveO R (if R o.a then to + o.k else to) os)
        rw [hR]; exact q1
    | true =>
      obtain ⟨y1, y2, y3, y4⟩ := r.yes o (by simp) hR
      have f1 : fwd o.a = to := f.1 hR
      have f2 : FwdO R fwd (to + o.k) os := by have := f.2; rwa [hR] at this
      have live : ∀ x, L x → (x < p + o.k ↔ x ≤ p) := fun x hx => ⟨fun h => (gap hx h).1, fun h => by omega⟩
      obtain ⟨l, c1, c2, c3, c4, c5, I1⟩ := I.unthr g (q0 := o.a) (by omega) y1
      rw [f1, y4] at I1
      rw [y4] at c1
      have I2 := I1.congr (T' := T2 sz nr L F m1 (p + o.k)) (D' := D2 sz nr L F m1 (p + o.k)) (fun i => by
        constructor
        · rintro ⟨s, q, h1, h2, h3, h4⟩
          have a2 := live q (g.tgt h1 h2)
          exact ⟨⟨s, q, h1, h2, h3, by omega⟩, fun h => by rw [h2] at h; injection h with h; omega⟩
        · rintro ⟨⟨s, q, h1, h2, h3, h4⟩, h5⟩
          have a2 := live q (g.tgt h1 h2)
          have a3 : q ≠ o.a := fun e => h5 (by rw [h2, e])
          exact ⟨s, q, h1, h2, h3, by omega⟩) (fun i => by
        constructor
        · rintro ⟨s, q, h1, h2, h3⟩
          have a2 := live q (g.tgt h1 h2)
          by_cases hq : q = p ∧ q < s
          · right
            exact ⟨⟨s, q, h1, h2, hq.2, by omega⟩, by rw [h2, hq.1, ea]⟩
          · left
            exact ⟨s, q, h1, h2, by omega⟩
        · rintro (⟨s, q, h1, h2, h3⟩ | ⟨⟨s, q, h1, h2, h3, h4⟩, h5⟩)
          · exact ⟨s, q, h1, h2, by omega⟩
          · rw [h2] at h5; injection h5 with h5
            exact ⟨s, q, h1, h2, by omega⟩)
      generalize hmu : cupd (setl m l (.ptr to)) o.a (.head o.s o.n true o.f) = mu at I2
      -- what stands in the object, before it moves
      have hin : ∀ j, j + 1 < o.k → mu (o.a + 1 + j) = fwdC fwd (m1 (o.a + 1 + j)) := fun j hj => by
        by_cases hf : j < o.f
        · have hs : Src sz nr L F (o.a + 1 + j) (o.a + 1) := .inr ⟨o.a, j, y1, by omega, rfl, rfl⟩
          have nT : ¬ T2 sz nr L F m1 (p + o.k) (o.a + 1 + j) := fun ⟨s, q, a1, a2, a3, a4⟩ => by have := g.one a1 hs; omega
          rcases g.fld o.a y1 j (by omega) with ⟨w, e⟩ | ⟨q, e, hq⟩
          · rw [I2.ot _ (by omega) (g.noL hs) nT (fun ⟨s, q, a1, a2, _⟩ => by rw [e] at a2; cases a2), e]; rfl
          · have := live q hq
            rw [I2.dn _ q (by omega) ⟨o.a + 1, q, hs, e, by omega⟩ e, e]; rfl
        · obtain ⟨w, e⟩ := g.byt o.a y1 j (by omega) (by omega)
          have nL : ¬ L (o.a + 1 + j) := fun h => by have := (gap h (by omega)).1; omega
          rw [I2.ot _ (by omega) nL (fun ⟨s, q, a1, a2, _⟩ => by rw [e] at a2; cases a2) (fun ⟨s, q, a1, a2, _⟩ => by rw [e] at a2; cases a2), e]; rfl
      have mout : ∀ x, x < to ∨ p + o.k ≤ x → mov mu o.a to o.k (.head o.s o.n false 0) x = mu x := fun x hx => by
        unfold mov; rw [if_neg (by omega), if_neg (by omega)]
      have I3 : TInv sz nr L F m1 fwd (p + o.k) (T2 sz nr L F m1 (p + o.k)) (D2 sz nr L F m1 (p + o.k)) (mov mu o.a to o.k (.head o.s o.n false 0)) := by
        refine ⟨I2.ts, I2.ds, fun q hq hL => ?_, fun i q hi hD e => ?_, fun x hx hL hT hD => ?_⟩
        · obtain ⟨l', d1, d2, d3⟩ := I2.th q (by omega) hL
          refine ⟨l', ?_, d2, d3⟩
          rw [mout q (.inr hq)]
          refine chain_congr (fun i hi => mout i (.inr ?_)) d1
          obtain ⟨⟨s, q', h1, h2, h3, h4⟩, h5⟩ := (d3 i).1 hi
          rcases h1 with ⟨h6, _, _⟩ | ⟨a, j, ha, hj, e, h7⟩
          · omega
          · omega
        · rw [mout i (.inr hi)]; exact I2.dn i q (by omega) hD e
        · rw [mout x (.inr hx)]; exact I2.ot x (by omega) hL hT hD
      have M3 : Moved L K m1 fwd (p + o.k) (mov mu o.a to o.k (.head o.s o.n false 0)) := fun a ha hap s n k e => by
        have hle := (live a ha).1 hap
        by_cases h : a = p
        · have : a = o.a := by omega
          subst this
          rw [y4] at e; injection e with e1 e2 e3 e4'
          subst e1 e2
          rw [f1]
          refine ⟨by unfold mov; rw [if_pos rfl], fun j hj => ?_⟩
          rw [y3] at hj
          have : mov mu o.a to o.k (.head o.s o.n false 0) (to + 1 + j) = mu (o.a + 1 + j) := by
            unfold mov; rw [if_neg (by omega), if_pos (by omega)]; congr 1; omega
          rw [this]; exact hin j hj
        · have hb := hbel a ha (by omega)
          have hK := g.le a ha
          obtain ⟨M1, M2⟩ := M a ha (by omega) s n k e
          have keep : ∀ x, x < to → mu x = m x := fun x hx => by
            rw [← hmu, cupd_other _ _ (by omega), setl_out]
            intro hxl
            obtain ⟨⟨s, q', h1, h2, h3, h4⟩, h5⟩ := (c3 x).1 hxl
            rcases h1 with ⟨h6, _, _⟩ | ⟨a', j, ha', hj, e', h7⟩
            · omega
            · rw [h2] at h5; injection h5 with h5; omega
          refine ⟨by rw [mout _ (.inl (by omega)), keep _ (by omega)]; exact M1, fun j hj => ?_⟩
          rw [mout _ (.inl (by omega)), keep _ (by omega)]; exact M2 j hj
      obtain ⟨m', q1, q2, q3⟩ := pass2 g hlim os (p + o.k) (to + o.k) _ r.next hsz f2 (by omega) (fun a ha h => by
        have hle := (live a ha).1 h
        by_cases e : a = p
        · have : a = o.a := by omega
          subst this; omega
        · have := hbel a ha (by omega); omega) I3 M3
      refine ⟨m', .inl ⟨hR, l, c1, c2, fun i hi => by have := c5 i hi; omega, c4, by omega, ?_⟩, q2, q3⟩
      show P2 R lim os (to + o.k) _ m' (liveO R (if R o.a then to + o.k else to) os)
      rw [hR, hmu]; exact q1
end
end Go.Proofs.Ytljkkfcokpimkaa.X
set_option linter.unusedVariables false
set_option linter.unusedSimpArgs false
set_option maxRecDepth 20000
namespace Go.Proofs.Ytljkkfcokpimkaa.X
open Go Go.RowKit
def enc : Cell → Int
  | .head s n m k => partsN s n (if m then 1 else 0) k
  | .ptr a => (a : Int) * 2
  | .imm w => w
  | .raw w => w
def okC (lays : List (Int × Int)) : Cell → Prop
  | .head s n _ k => (needN lays s n).2 = 0 ∧ k ≤ 65536
  | .ptr a => a < 4611686018427387904
  | .imm w => w % 2 = 1 ∧ 0 ≤ w ∧ w < 18446744073709551616
  | .raw w => 0 ≤ w ∧ w < 18446744073709551616
def isPtr : Cell → Bool
  | .ptr _ => true
  | _ => false
def isRaw : Cell → Bool
  | .raw _ => true
  | _ => false
section
variable {lays : List (Int × Int)}
theorem headR {s n : Int} {m : Bool} {k : Nat} (hl : lays.length ≤ 512) (h : okC lays (.head s n m k)) : 0 ≤ s ∧ s < 1048576 ∧ 0 ≤ n ∧ n < 1048576 ∧ k < 1048576 := by
  have := need_pos h.1; have := h.2; omega
theorem enc_range (hl : lays.length ≤ 512) {c : Cell} (h : okC lays c) : 0 ≤ enc c ∧ enc c < 18446744073709551616 := by
  cases c with
  | head s n m k =>
    have := headR hl h
    unfold enc partsN
    cases m <;> simp only [if_true, Bool.false_eq_true, if_false] <;> omega
  | ptr a =>
    simp only [okC] at h
    show 0 ≤ (a : Int) * 2 ∧ (a : Int) * 2 < _
    omega
  | imm w => exact ⟨h.2.1, h.2.2⟩
  | raw w => exact h
theorem enc_imm {c : Cell} (h : okC lays c) (hr : isRaw c = false) : decide (enc c % 2 = 1) = !isPtr c := by
  cases c with
  | head s n m k => 
    have : enc (.head s n m k) % 2 = 1 := by unfold enc partsN; cases m <;> simp only [if_true, Bool.false_eq_true, if_false] <;> omega
    simp [this, isPtr]
  | ptr a => 
    have : ¬ enc (.ptr a) % 2 = 1 := by show ¬ ((a : Int) * 2) % 2 = 1; omega
    simp [this, isPtr]
  | imm w => 
    have : enc (.imm w) % 2 = 1 := h.1
    simp [this, isPtr]
  | raw w => cases hr
def fl (lays : List (Int × Int)) (s n : Int) : Nat := if kindAt lays s = 3 then 0 else n.toNat
theorem fl_le (s n : Int) : fl lays s n ≤ n.toNat := by unfold fl; split <;> omega
theorem enc_marked (hl : lays.length ≤ 512) {s n : Int} {m : Bool} {k : Nat} (h : okC lays (.head s n m k)) : decide (enc (.head s n m k) / 2199023255552 % 2 = 1) = m := by
  have := headR hl h
  unfold enc partsN
  cases m <;> simp only [if_true, Bool.false_eq_true, if_false] <;> simp <;> omega
theorem enc_turned (hl : lays.length ≤ 512) {s n : Int} {m : Bool} {k : Nat} (h : okC lays (.head s n m k)) : enc (.head s n m k) / 4398046511104 % 1048576 = k := by
  have := headR hl h
  unfold enc partsN
  cases m <;> simp only [if_true, Bool.false_eq_true, if_false] <;> omega
theorem enc_shape (hl : lays.length ≤ 512) {s n : Int} {m : Bool} {k : Nat} (h : okC lays (.head s n m k)) : enc (.head s n m k) / 2 % 1048576 = s := by
  have := headR hl h
  unfold enc partsN
  cases m <;> simp only [if_true, Bool.false_eq_true, if_false] <;> omega
theorem enc_len (hl : lays.length ≤ 512) {s n : Int} {m : Bool} {k : Nat} (h : okC lays (.head s n m k)) : enc (.head s n m k) / 2097152 % 1048576 = n := by
  have := headR hl h
  unfold enc partsN
  cases m <;> simp only [if_true, Bool.false_eq_true, if_false] <;> omega
theorem enc_mark (hl : lays.length ≤ 512) {s n : Int} {m : Bool} {k : Nat} (h : okC lays (.head s n m k)) (b : Bool) : withN (enc (.head s n m k)) 41 1 (if b then 1 else 0) = enc (.head s n b k) := by
  have := headR hl h
  unfold enc
  rw [mark_parts (by omega) (by omega) (by omega) (by omega) (by split <;> omega) (by split <;> omega) (by omega) (by omega)]
  cases b <;> simp
theorem enc_turn (hl : lays.length ≤ 512) {s n : Int} {m : Bool} {k : Nat} (h : okC lays (.head s n m k)) {j : Nat} (hj : j ≤ 65536) : withN (enc (.head s n m k)) 42 20 (j : Nat) = enc (.head s n m j) := by
  have := headR hl h
  unfold enc
  rw [turn_parts (by omega) (by omega) (by omega) (by omega) (by split <;> omega) (by split <;> omega) (by omega) (by omega)]
  congr 1; omega
theorem enc_at {a : Nat} : enc (.ptr a) / 2 = a := by show (a : Int) * 2 / 2 = a; omega
end
def encW (m : CM) (n : Nat) : List Int := (List.range n).map fun i => enc (m i)
def encR (m : CM) (sz nr : Nat) : List Int := (List.range nr).map fun i => enc (m (sz + i))
theorem encW_len (m : CM) (n : Nat) : (encW m n).length = n := by simp [encW]
theorem encR_len (m : CM) (sz n : Nat) : (encR m sz n).length = n := by simp [encR]
theorem encW_get {m : CM} {n i : Nat} (h : i < n) : (encW m n)[i]? = some (enc (m i)) := by simp [encW, h]
theorem encR_get {m : CM} {sz n i : Nat} (h : i < n) : (encR m sz n)[i]? = some (enc (m (sz + i))) := by simp [encR, h]
theorem encW_set {m : CM} {n i : Nat} (c : Cell) (h : i < n) : (encW m n).set i (enc c) = encW (cupd m i c) n := by
  apply List.ext_getElem?
  intro j
  rw [List.getElem?_set]
  by_cases hj : j < n
  · rw [encW_get hj, encW_get hj]
    by_cases e : i = j
    · subst e; rw [if_pos rfl, if_pos (by rw [encW_len]; exact h), cupd_same]
    · rw [if_neg e, cupd_other _ _ (fun q => e q.symm)]
  · rw [List.getElem?_eq_none (by rw [encW_len]; omega), List.getElem?_eq_none (by rw [encW_len]; omega), if_neg (by omega)]
theorem encW_out {m : CM} {n i : Nat} (c : Cell) (h : n ≤ i) : encW (cupd m i c) n = encW m n := by
  apply List.map_congr_left
  intro j hj
  rw [cupd_other _ _ (by have := List.mem_range.1 hj; omega)]
theorem encR_set {m : CM} {sz n i : Nat} (c : Cell) (h : i < n) : (encR m sz n).set i (enc c) = encR (cupd m (sz + i) c) sz n := by
  apply List.ext_getElem?
  intro j
  rw [List.getElem?_set]
  by_cases hj : j < n
  · rw [encR_get hj, encR_get hj]
    by_cases e : i = j
    · subst e; rw [if_pos rfl, if_pos (by rw [encR_len]; exact h), cupd_same]
    · rw [if_neg e, cupd_other _ _ (by omega)]
  · rw [List.getElem?_eq_none (by rw [encR_len]; omega), List.getElem?_eq_none (by rw [encR_len]; omega), if_neg (by omega)]
theorem encR_out {m : CM} {sz n i : Nat} (c : Cell) (h : i < sz) : encR (cupd m i c) sz n = encR m sz n := by
  apply List.map_congr_left
  intro j hj
  rw [cupd_other _ _ (by omega)]
structure GAt (h : H) (sb b bw bd : Nat) (B : List Nat) (rv : AV) (Br : List Nat) (s : Hs) (nr : Nat) (m : CM) : Prop where
  st : h.get sb = some (.live [.ptr b 0, rv, .int .i64 s.top] 137 true)
  hh : HeapAt h b bw bd B { s with words := encW m s.words.length }
  rt : SlV h 25 1 rv Br nr (wc (encR m s.words.length nr))
  ok : ∀ i, i < s.words.length + nr → okC s.lays (m i)
  g : s.good
  ap : ∀ c ∈ sb :: Br, c ∉ b :: bw :: bd :: B
  sr : sb ∉ Br
  nl : nr ≤ 65536
section
variable {h : H} {sb b bw bd : Nat} {B Br : List Nat} {rv : AV} {s : Hs} {nr : Nat} {m : CM}
theorem GAt.good (G : GAt h sb b bw bd B rv Br s nr m) : Hs.good { s with words := encW m s.words.length } := by
  have g := G.g
  refine ⟨by show (encW _ _).length ≤ _; rw [encW_len]; exact g.wlen, by show _ = (encW _ _).length / 64 + 1; rw [encW_len]; exact g.hlen, g.llen, g.kinds, fun w hw => ?_, g.hrange, by show _ ≤ (encW _ _).length; rw [encW_len]; exact g.top⟩
  obtain ⟨i, hi, rfl⟩ := List.mem_map.1 (show w ∈ encW m s.words.length from hw)
  exact enc_range g.llen (G.ok i (by have := List.mem_range.1 hi; omega))
theorem GAt.fr {h' : H} (G : GAt h sb b bw bd B rv Br s nr m) (f : Fr [] h h') : GAt h' sb b bw bd B rv Br s nr m := ⟨f sb _ (by simp) G.st, G.hh.fr0 f, G.rt.fr f (by simp), G.ok, G.g, G.ap, G.sr, G.nl⟩
theorem GAt.rng (G : GAt h sb b bw bd B rv Br s nr m) {i : Nat} (hi : i < s.words.length + nr) : 0 ≤ enc (m i) ∧ enc (m i) < 18446744073709551616 := enc_range G.g.llen (G.ok i hi)
theorem load_g (G : GAt h sb b bw bd B rv Br s nr m) {i : Nat} (hi : i < s.words.length + nr) (K : AV → H → Prop) : C 115 [.ptr sb 0, .int .i64 i] h K = K (.int .u64 (enc (m i))) h := by
  refine callA_eq (run115 ?_) K
  have c0 : h.cell sb 0 = some (.ptr b 0) := by rw [cell_of G.st]; rfl
  have c1 : h.cell sb 1 = some rv := by rw [cell_of G.st]; rfl
  have w1 := G.g.wlen
  have wl : (encW m s.words.length).length = s.words.length := encW_len ..
  by_cases q : (s.words.length : Int) ≤ i
  · have hn := G.nl
    have e1 : IntKind.i64.wrap ((i : Int) - s.words.length) = ((i - s.words.length : Nat) : Int) := by rw [i64_id (by omega) (by omega)]; omega
    have hir : i - s.words.length < nr := by omega
    obtain ⟨bo, oo, t1, t2⟩ := G.rt.row.at (i := ((i - s.words.length : Nat) : Int)) (x := .int .u64 (enc (m i))) (by omega) (by omega) (by
      rw [Int.toNat_natCast, wc_get, encR_get hir]; simp only [Option.map_some]; rw [show s.words.length + (i - s.words.length) = i by omega])
    simp only [sh115, go_sem, reduceIte, Nat.reduceAdd, Nat.reduceSub, Nat.reduceMul, Nat.reducePow, Nat.reduceLT, Nat.reduceLeDiff, Nat.reduceEqDiff, Int.reduceAdd, Int.reduceSub, Int.reduceMul, Int.reduceNeg, Int.reducePow, Int.reduceLT, Int.reduceLE, Int.reduceEq, Int.reduceNe, Int.reduceToNat, Int.toNat_natCast, Nat.zero_add, Nat.add_zero, Nat.mul_one, Nat.one_mul, Bool.not_true, Bool.not_false, ne_eq, not_true_eq_false, not_false_eq_true, Bool.false_eq_true, c0, c1, size_c G.hh, wl, q, e1, t1, t2, and_self]
  · have a2 : ¬ (i : Int) < 0 := by omega
    have a3 : Hs.wd { s with words := encW m s.words.length } (i : Int) = enc (m i) := by
      unfold Hs.wd
      rw [Int.toNat_natCast, List.getD_eq_getElem?_getD]
      show ((encW m s.words.length)[i]?).getD 0 = _
      rw [encW_get (by omega)]; rfl
    simp only [sh115, go_sem, reduceIte, Nat.reduceAdd, Nat.reduceSub, Nat.reduceMul, Nat.reducePow, Nat.reduceLT, Nat.reduceLeDiff, Nat.reduceEqDiff, Int.reduceAdd, Int.reduceSub, Int.reduceMul, Int.reduceNeg, Int.reducePow, Int.reduceLT, Int.reduceLE, Int.reduceEq, Int.reduceNe, Int.reduceToNat, Int.toNat_natCast, Nat.zero_add, Nat.add_zero, Nat.mul_one, Nat.one_mul, Bool.not_true, Bool.not_false, ne_eq, not_true_eq_false, not_false_eq_true, Bool.false_eq_true, c0, size_c G.hh, wl, q, load_c G.hh, a2, a3, and_self, or_self]
end
end Go.Proofs.Ytljkkfcokpimkaa.X
set_option linter.unusedVariables false
set_option linter.unusedSimpArgs false
set_option maxRecDepth 20000
namespace Go.Proofs.Ytljkkfcokpimkaa.X
open Go Go.RowKit
section
variable {h : H} {sb b bw bd : Nat} {B Br : List Nat} {rv : AV} {s : Hs} {nr : Nat} {m : CM}
theorem okC_upd {lays : List (Int × Int)} {n : Nat} {m : CM} (h : ∀ i, i < n → okC lays (m i)) {j : Nat} {c : Cell} (hc : okC lays c) : ∀ i, i < n → okC lays (cupd m j c i) := fun i hi => by
  by_cases e : i = j
  · rw [e, cupd_same]; exact hc
  · rw [cupd_other _ _ e]; exact h i hi
theorem store_g (G : GAt h sb b bw bd B rv Br s nr m) {i : Nat} (hi : i < s.words.length + nr) {c : Cell} (hc : okC s.lays c) {K : AV → H → Prop}
    (hK : ∀ h', Fr (bw :: Br) h h' → GAt h' sb b bw bd B rv Br s nr (cupd m i c) → K (.tup []) h') : C 114 [.ptr sb 0, .int .i64 i, .int .u64 (enc c)] h K := by
  refine run114 ?_
  have c0 : h.cell sb 0 = some (.ptr b 0) := by rw [cell_of G.st]; rfl
  have c1 : h.cell sb 1 = some rv := by rw [cell_of G.st]; rfl
  have w1 := G.g.wlen
  have wl : (encW m s.words.length).length = s.words.length := encW_len ..
  have ok' := okC_upd (j := i) G.ok hc
  by_cases q : (s.words.length : Int) ≤ i
  · have hn := G.nl
    have e1 : IntKind.i64.wrap ((i : Int) - s.words.length) = ((i - s.words.length : Nat) : Int) := by rw [i64_id (by omega) (by omega)]; omega
    have hir : i - s.words.length < nr := by omega
    rcases G.rt.2 with ⟨z, _, _⟩ | ⟨br, rfl, e2, hg⟩
    · omega
    · have b0 : (0 : Int) ≤ ((i - s.words.length : Nat) : Int) := by omega
      have b1 : ((i - s.words.length : Nat) : Int) < (nr : Nat) := by omega
      have st := st_one (k := .u64) (n := enc c) hg (off := i - s.words.length) (by rw [wc_length, encR_len]; exact hir)
      rw [wc_set, encR_set c hir, show s.words.length + (i - s.words.length) = i by omega] at st
      have hbr : br ∈ sb :: Br := by rw [e2]; simp
      have nb := G.ap br hbr
      have f : Fr [br] h (h.set br (.live (wc (encR (cupd m i c) s.words.length nr)) 25 true)) := Fr.put (by simp)
      have hsb : sb ≠ br := fun e => G.sr (by rw [e2, e]; simp)
      simp only [sh114, go_sem, reduceIte, Nat.reduceAdd, Nat.reduceSub, Nat.reduceMul, Nat.reducePow, Nat.reduceLT, Nat.reduceLeDiff, Nat.reduceEqDiff, Int.reduceAdd, Int.reduceSub, Int.reduceMul, Int.reduceNeg, Int.reducePow, Int.reduceLT, Int.reduceLE, Int.reduceEq, Int.reduceNe, Int.reduceToNat, Int.toNat_natCast, Nat.zero_add, Nat.add_zero, Nat.mul_one, Nat.one_mul, Bool.not_true, Bool.not_false, ne_eq, not_true_eq_false, not_false_eq_true, Bool.false_eq_true, c0, c1, size_c G.hh, wl, q, e1, b0, b1, st, and_self]
      refine hK _ (f.weaken (fun k hk => by simp at hk; rw [hk, e2]; simp)) ⟨f sb _ (by simpa using hsb) G.st, ?_, ⟨by rw [wc_length, encR_len]; omega, .inr ⟨br, rfl, e2, H.get_same ..⟩⟩, ok', G.g, G.ap, G.sr, G.nl⟩
      rw [encW_out c (by omega)]
      exact G.hh.fr f (fun k hk e => nb (by simp at e; rw [← e]; exact hk))
  · have i0 : (0 : Int) ≤ i := by omega
    have i1 : (i : Int) < s.words.length := by omega
    simp only [sh114, go_sem, reduceIte, Nat.reduceAdd, Nat.reduceSub, Nat.reduceMul, Nat.reducePow, Nat.reduceLT, Nat.reduceLeDiff, Nat.reduceEqDiff, Int.reduceAdd, Int.reduceSub, Int.reduceMul, Int.reduceNeg, Int.reducePow, Int.reduceLT, Int.reduceLE, Int.reduceEq, Int.reduceNe, Int.reduceToNat, Int.toNat_natCast, Nat.zero_add, Nat.add_zero, Nat.mul_one, Nat.one_mul, Bool.not_true, Bool.not_false, ne_eq, not_true_eq_false, not_false_eq_true, Bool.false_eq_true, c0, size_c G.hh, wl, q, store_c G.hh, i0, i1, and_self]
    have hp := G.hh.put (i : Int) (enc c)
    have e : (Hs.put { s with words := encW m s.words.length } (i : Int) (enc c)) = { s with words := encW (cupd m i c) s.words.length } := by
      unfold Hs.put
      simp only [Int.toNat_natCast]
      rw [encW_set c (by omega)]
    rw [e] at hp ⊢
    have f : Fr [bw] h (h.set bw (.live (wc (encW (cupd m i c) s.words.length)) 25 true)) := Fr.put (by simp)
    have nsb : sb ≠ bw := fun e => G.ap sb (by simp) (by rw [e]; simp)
    refine hK _ (f.weaken (fun k hk => by simp at hk; rw [hk]; simp)) ⟨f sb _ (by simpa using nsb) G.st, hp, ?_, ok', G.g, G.ap, G.sr, G.nl⟩
    rw [encR_out c (by omega)]
    exact G.rt.fr f (fun k hk e => G.ap k (by simp [hk]) (by simp at e; rw [e]; simp))
theorem bytes_g (G : GAt h sb b bw bd B rv Br s nr m) {s' n : Int} {mk : Bool} {k : Nat} (hc : okC s.lays (.head s' n mk k)) (K : AV → H → Prop) : C 121 [.ptr sb 0, .int .u64 (enc (.head s' n mk k))] h K = K (.bool (decide (kindAt s.lays s' = 3))) h := by
  refine callA_eq (run121 ?_) K
  have c0 : h.cell sb 0 = some (.ptr b 0) := by rw [cell_of G.st]; rfl
  have hr := enc_range G.g.llen hc
  have hp := need_pos hc.1
  have e : ¬ (s' < 0) := by omega
  have e2 : ¬ ((s.lays.length : Int) ≤ s') := by omega
  simp only [sh121, go_sem, reduceIte, Nat.reduceAdd, Nat.reduceSub, Nat.reduceMul, Nat.reducePow, Nat.reduceLT, Nat.reduceLeDiff, Nat.reduceEqDiff, Int.reduceAdd, Int.reduceSub, Int.reduceMul, Int.reduceNeg, Int.reducePow, Int.reduceLT, Int.reduceLE, Int.reduceEq, Int.reduceNe, Int.reduceToNat, Int.toNat_natCast, Nat.zero_add, Nat.add_zero, Nat.mul_one, Nat.one_mul, Bool.not_true, Bool.not_false, ne_eq, not_true_eq_false, not_false_eq_true, Bool.false_eq_true, c0, shape_c hr.1 hr.2, enc_shape G.g.llen hc, kind_c G.hh, e, e2, or_self, and_self]
theorem size_g (G : GAt h sb b bw bd B rv Br s nr m) {s' n : Int} {mk : Bool} {k : Nat} (hc : okC s.lays (.head s' n mk k)) {K : AV → H → Prop} (hK : ∀ h', Fr [] h h' → K (.tup [.int .i64 (needN s.lays s' n).1, .int .i64 (fl s.lays s' n : Nat)]) h') :
    C 112 [.ptr sb 0, .int .u64 (enc (.head s' n mk k))] h K := by
  refine run112 ?_
  have c0 : h.cell sb 0 = some (.ptr b 0) := by rw [cell_of G.st]; rfl
  have hr := enc_range G.g.llen hc
  have hp := need_pos hc.1
  unfold sh112
  simp only [len_c hr.1 hr.2, enc_len G.g.llen hc, nilcA_p, valA_some, faA_p, ldA_n, Nat.zero_add, c0, shape_c hr.1 hr.2, enc_shape G.g.llen hc, againK_t]
  refine need_c G.hh G.good s' n fun h' f => ?_
  have G' := G.fr f
  have e1 : IntKind.i64.wrap (1 + n) = 1 + n := i64_id (by omega) (by omega)
  have hl := hp.2.2.2.2.2
  by_cases k3 : kindAt s.lays s' = 3
  · rw [if_pos k3] at hl
    have hfl : fl s.lays s' n = 0 := by unfold fl; rw [if_pos k3]
    rw [hfl] at hK
    by_cases q : (needN s.lays s' n).1 = 1 + n
    · simp only [go_sem, reduceIte, Nat.reduceAdd, Nat.reduceSub, Nat.reduceMul, Nat.reducePow, Nat.reduceLT, Nat.reduceLeDiff, Nat.reduceEqDiff, Int.reduceAdd, Int.reduceSub, Int.reduceMul, Int.reduceNeg, Int.reducePow, Int.reduceLT, Int.reduceLE, Int.reduceEq, Int.reduceNe, Int.reduceToNat, Int.toNat_natCast, Nat.zero_add, Nat.add_zero, Nat.mul_one, Nat.one_mul, Bool.not_true, Bool.not_false, ne_eq, not_true_eq_false, not_false_eq_true, Bool.false_eq_true, e1, q, bytes_g G' hc, k3]
      rw [← q]; exact hK h' f
    · simp only [go_sem, reduceIte, Nat.reduceAdd, Nat.reduceSub, Nat.reduceMul, Nat.reducePow, Nat.reduceLT, Nat.reduceLeDiff, Nat.reduceEqDiff, Int.reduceAdd, Int.reduceSub, Int.reduceMul, Int.reduceNeg, Int.reducePow, Int.reduceLT, Int.reduceLE, Int.reduceEq, Int.reduceNe, Int.reduceToNat, Int.toNat_natCast, Nat.zero_add, Nat.add_zero, Nat.mul_one, Nat.one_mul, Bool.not_true, Bool.not_false, ne_eq, not_true_eq_false, not_false_eq_true, Bool.false_eq_true, e1, q]
      exact hK h' f
  · rw [if_neg k3] at hl
    have hfl : ((fl s.lays s' n : Nat) : Int) = n := by unfold fl; rw [if_neg k3]; omega
    rw [hfl] at hK
    have hK := hK h' f
    rw [hl] at hK
    simp only [go_sem, reduceIte, Nat.reduceAdd, Nat.reduceSub, Nat.reduceMul, Nat.reducePow, Nat.reduceLT, Nat.reduceLeDiff, Nat.reduceEqDiff, Int.reduceAdd, Int.reduceSub, Int.reduceMul, Int.reduceNeg, Int.reducePow, Int.reduceLT, Int.reduceLE, Int.reduceEq, Int.reduceNe, Int.reduceToNat, Int.toNat_natCast, Nat.zero_add, Nat.add_zero, Nat.mul_one, Nat.one_mul, Bool.not_true, Bool.not_false, ne_eq, not_true_eq_false, not_false_eq_true, Bool.false_eq_true, e1, hl, bytes_g G' hc, k3]
    exact hK
theorem Fr.tr {S : List Nat} {a b c : H} (f : Fr [] a b) (g : Fr S b c) : Fr S a c := f.more.trans g
theorem thread_g (G : GAt h sb b bw bd B rv Br s nr m) {i : Nat} (hi : thrOk (s.words.length + nr) m i) {K : AV → H → Prop}
    (hK : ∀ h', Fr (bw :: Br) h h' → GAt h' sb b bw bd B rv Br s nr (thr m i) → K (.tup []) h') : C 109 [.ptr sb 0, .int .i64 i] h K := by
  refine run109 ?_
  obtain ⟨hl, hm⟩ := hi
  have hr := G.rng hl
  have ho := G.ok i hl
  have hw := G.g.wlen
  have hn := G.nl
  unfold sh109
  rw [load_g G hl, isImm_c hr.1 hr.2]
  rcases hm with ⟨w, e⟩ | ⟨a, e, ha⟩
  · have e2 : thr m i = m := by unfold thr; rw [e]
    rw [e2] at hK
    rw [e] at ho ⊢
    rw [enc_imm ho rfl]
    simp only [isPtr, Bool.not_false, condA_t]
    exact hK h (Fr.refl _ _) G
  · have e2 : thr m i = cupd (cupd m i (m a)) a (.ptr i) := by unfold thr; rw [e]
    rw [e2] at hK
    have oa := G.ok a ha
    have oi : okC s.lays (.ptr i) := by show i < _; omega
    have ei : ((i : Int) * 2 % 18446744073709551616) = enc (.ptr i) := by show _ = (i : Int) * 2; omega
    rw [e] at ho hr ⊢
    rw [enc_imm ho rfl, at_c hr.1 hr.2, enc_at]
    simp only [isPtr, Bool.not_true, condA_f]
    rw [load_g G ha]
    refine store_g G hl oa fun h1 f1 G1 => ?_
    rw [ptr_c, ei]
    refine store_g G1 ha oi fun h2 f2 G2 => ?_
    exact hK h2 (f1.trans f2) G2
end
end Go.Proofs.Ytljkkfcokpimkaa.X
set_option linter.unusedVariables false
set_option linter.unusedSimpArgs false
set_option maxRecDepth 20000
namespace Go.Proofs.Ytljkkfcokpimkaa.X
open Go Go.RowKit
section
variable {h : H} {sb b bw bd : Nat} {B Br : List Nat} {rv : AV} {s : Hs} {nr : Nat} {m m' : CM}
theorem mark_imm {lays : List (Int × Int)} {w : Int} (hc : okC lays (.imm w)) (s0 : AV) {K : AV → H → Prop} (hK : K (.tup []) h) : C 119 [s0, .int .u64 (enc (.imm w))] h K := by
  refine run119 ?_
  unfold sh119
  have hr : 0 ≤ enc (.imm w) ∧ enc (.imm w) < 18446744073709551616 := ⟨hc.2.1, hc.2.2⟩
  rw [isImm_c hr.1 hr.2, enc_imm hc rfl]
  simp only [isPtr, Bool.not_false, whenA_tf, pickA_b, if_true, valA_some, condA_t]
  exact hK
theorem mark_seen (G : GAt h sb b bw bd B rv Br s nr m) {a : Nat} (ha : a < s.words.length + nr) {x y : Int} {k : Nat} (hm : m a = .head x y true k) {K : AV → H → Prop} (hK : K (.tup []) h) : C 119 [.ptr sb 0, .int .u64 (enc (.ptr a))] h K := by
  refine run119 ?_
  have hw := G.g.wlen
  have hn := G.nl
  have hc : okC s.lays (.ptr a) := by show a < _; omega
  have hr := enc_range G.g.llen hc
  have ho := G.ok a ha
  have hq := G.rng ha
  rw [hm] at ho hq
  unfold sh119
  rw [isImm_c hr.1 hr.2, enc_imm hc rfl]
  simp only [isPtr, Bool.not_true, whenA_ff, at_c hr.1 hr.2, enc_at, load_g G ha, hm, marked_c hq.1 hq.2, enc_marked G.g.llen ho, pickA_b, Bool.false_eq_true, if_false, valA_some, condA_t]
  exact hK
theorem mark_new (G : GAt h sb b bw bd B rv Br s nr m) {a : Nat} (ha : a < s.words.length) {x y : Int} {k : Nat} (hm : m a = .head x y false k) {q : Nat} (hq : mrun (fl s.lays) s.words.length q ⟨m, a, .imm 1⟩ = some m') {K : AV → H → Prop}
    (hK : ∀ h', Fr (bw :: Br) h h' → GAt h' sb b bw bd B rv Br s nr m' → K (.tup []) h') : C 119 [.ptr sb 0, .int .u64 (enc (.ptr a))] h K := by
  refine run119 ?_
  have hw := G.g.wlen
  have hn := G.nl
  have hl := G.g.llen
  have okP : ∀ {i : Nat}, i < s.words.length + nr → okC s.lays (.ptr i) := fun hi => by show _ < _; omega
  have hc : okC s.lays (.ptr a) := okP (by omega)
  have hr := enc_range hl hc
  have ho := G.ok a (by omega)
  have hz := G.rng (i := a) (by omega)
  rw [hm] at ho hz
  unfold sh119
  rw [isImm_c hr.1 hr.2, enc_imm hc rfl]
  simp only [isPtr, Bool.not_true, whenA_ff, at_c hr.1 hr.2, enc_at, load_g G (show a < s.words.length + nr by omega), hm, marked_c hz.1 hz.2, enc_marked hl ho, pickA_b, Bool.false_eq_true, if_false, valA_some, condA_f]
  refine loop_r q (fun n ls h' => ∃ (M : CM) (a : Nat) (back : Cell), ls = [.int .i64 a, .int .u64 (enc back)] ∧ GAt h' sb b bw bd B rv Br s nr M ∧ okC s.lays back ∧ Fr (bw :: Br) h h' ∧ mrun (fl s.lays) s.words.length n ⟨M, a, back⟩ = some m') ⟨m, a, .imm 1, rfl, G, by show _ ∧ _; decide, Fr.refl _ _, hq⟩ ?_
  clear hq hm ho hz G
  rintro n ls h1 ⟨M, a, back, rfl, G, hb, f1, hrun⟩
  cases n with
  | zero => cases hrun
  | succ n =>
    simp only [mrun, mstep] at hrun
    cases hM : M a with
    | ptr _ => rw [hM] at hrun; cases hrun
    | imm _ => rw [hM] at hrun; cases hrun
    | raw _ => rw [hM] at hrun; cases hrun
    | head x y mk k =>
      rw [hM] at hrun
      simp only at hrun
      -- the place is within the words
      have ha : a < s.words.length := by
        by_cases q1 : k < fl s.lays x y
        · rw [if_pos q1] at hrun
          by_cases q2 : a + 1 + k < s.words.length
          · omega
          · rw [if_neg q2] at hrun; cases hrun
        · rw [if_neg q1] at hrun
          by_cases q2 : a < s.words.length
          · exact q2
          · rw [if_neg q2] at hrun; cases hrun
      have ho := G.ok a (by omega)
      rw [hM] at ho
      have ho2 : okC s.lays (.head x y true k) := ho
      have hz := enc_range hl ho
      have hz2 := enc_range hl ho2
      have hfl := fl_le (lays := s.lays) x y
      have hp := need_pos ho.1
      simp only [argA_0, argA_1]
      rw [load_g G (show a < s.words.length + nr by omega), hM, mark_c hz.1 hz.2, enc_mark hl ho true]
      refine size_g G ho2 fun h2 f2 => ?_
      have G2 := G.fr f2
      have f12 := f1.trans f2.more
      have t0 : extA (.tup [.int .i64 (needN s.lays x y).1, .int .i64 (fl s.lays x y : Nat)]) 0 = some (.int .i64 (needN s.lays x y).1) := rfl
      have t1 : extA (.tup [.int .i64 (needN s.lays x y).1, .int .i64 (fl s.lays x y : Nat)]) 1 = some (.int .i64 (fl s.lays x y : Nat)) := rfl
      rw [t0, valA_some, t1, valA_some, turned_c hz2.1 hz2.2, enc_turned hl ho2, b_lss, valA_some]
      by_cases q1 : k < fl s.lays x y
      · -- a field more
        rw [if_pos q1] at hrun
        have q1' : ((k : Nat) : Int) < (fl s.lays x y : Nat) := by omega
        have hk : (k + 1 : Nat) ≤ 65536 := by omega
        have e1 : IntKind.i64.wrap ((k : Int) + 1) = ((k + 1 : Nat) : Int) := by rw [i64_id (by omega) (by omega)]; rfl
        have ho3 : okC s.lays (.head x y true (k + 1)) := ⟨ho.1, hk⟩
        by_cases q2 : a + 1 + k < s.words.length
        · rw [if_pos q2] at hrun
          have e2 : IntKind.i64.wrap ((a : Int) + 1) = ((a + 1 : Nat) : Int) := by rw [i64_id (by omega) (by omega)]; rfl
          have e3 : IntKind.i64.wrap (((a + 1 : Nat) : Int) + k) = ((a + 1 + k : Nat) : Int) := by rw [i64_id (by omega) (by omega)]; rfl
          simp only [q1', decide_true, condA_t, b_add, e1, valA_some, turn_c hz2.1 hz2.2]
          rw [enc_turn hl ho2 hk]
          refine store_g G2 (by omega) ho3 fun h3 f3 G3 => ?_
          have f13 := f12.trans f3
          simp only [e2, valA_some, e3]
          rw [load_g G3 (show a + 1 + k < s.words.length + nr by omega)]
          simp only [joinA]
          have oc := G3.ok (a + 1 + k) (by omega)
          have rc := G3.rng (i := a + 1 + k) (by omega)
          cases hc : cupd M a (.head x y true (k + 1)) (a + 1 + k) with
          | head _ _ _ _ => rw [hc] at hrun; cases hrun
          | raw _ => rw [hc] at hrun; cases hrun
          | imm w =>
            rw [hc] at hrun oc rc
            simp only at hrun
            rw [isImm_c rc.1 rc.2, enc_imm oc rfl]
            simp only [isPtr, Bool.not_false, u_not, Bool.not_true, valA_some, whenA_ft, whenA_u, pickA_b, Bool.false_eq_true, if_false, condA_f]
            exact ⟨n, by omega, _, a, back, rfl, G3, hb, f13, hrun⟩
          | ptr c =>
            rw [hc] at hrun oc rc
            simp only at hrun
            by_cases q3 : c < s.words.length
            · rw [if_pos q3] at hrun
              rw [isImm_c rc.1 rc.2, enc_imm oc rfl]
              simp only [isPtr, Bool.not_true, u_not, Bool.not_false, valA_some, whenA_tt]
              rw [at_c rc.1 rc.2, enc_at, load_g G3 (show c < s.words.length + nr by omega)]
              have od := G3.ok c (by omega)
              have rd := G3.rng (i := c) (by omega)
              cases hd : cupd M a (.head x y true (k + 1)) c with
              | ptr _ => rw [hd] at hrun; cases hrun
              | raw _ => rw [hd] at hrun; cases hrun
              | imm _ => rw [hd] at hrun; cases hrun
              | head x' y' mk' k' =>
                rw [hd] at hrun od rd
                simp only [marked_c rd.1 rd.2, enc_marked hl od]
                cases mk' with
                | true =>
                  simp only [whenA_tt, u_not, Bool.not_true, valA_some, pickA_b, if_true, condA_f] at hrun ⊢
                  exact ⟨n, by omega, _, a, back, rfl, G3, hb, f13, hrun⟩
                | false =>
                  simp only [whenA_tt, u_not, Bool.not_false, valA_some, pickA_b, if_true, condA_t, b_add, e2, e3] at hrun ⊢
                  refine store_g G3 (by omega) hb fun h4 f4 G4 => ?_
                  have ep : ((a : Int) * 2 % 18446744073709551616) = enc (.ptr a) := by show _ = (a : Int) * 2; omega
                  rw [at_c rc.1 rc.2, enc_at, ptr_c, ep]
                  exact ⟨n, by omega, _, c, .ptr a, rfl, G4, okP (by omega), f13.trans f4, hrun⟩
            · rw [if_neg q3] at hrun; cases hrun
        · rw [if_neg q2] at hrun; cases hrun
      · -- back
        rw [if_neg q1] at hrun
        have q1' : ¬ ((k : Nat) : Int) < (fl s.lays x y : Nat) := by omega
        rw [if_pos ha] at hrun
        simp only [q1', decide_false, condA_f]
        refine store_g G2 (by omega) ho2 fun h3 f3 G3 => ?_
        have f13 := f12.trans f3
        rw [b_eql, valA_some]
        cases hbk : back with
        | head _ _ _ _ => rw [hbk] at hrun; cases hrun
        | raw _ => rw [hbk] at hrun; cases hrun
        | imm w =>
          rw [hbk] at hrun
          simp only at hrun
          by_cases hw1 : w = 1
          · rw [if_pos hw1] at hrun
            simp only [Option.some.injEq] at hrun
            subst hw1
            have : (enc (.imm 1) = (1 : Int)) := rfl
            simp only [this, decide_true, condA_t]
            rw [hrun] at G3
            exact hK h3 f13 G3
          · rw [if_neg hw1] at hrun; cases hrun
        | ptr f =>
          rw [hbk] at hrun hb
          simp only at hrun
          have rb := enc_range hl hb
          have nq : ¬ enc (.ptr f) = (1 : Int) := by show ¬ (f : Int) * 2 = 1; omega
          simp only [nq, decide_false, condA_f]
          rw [at_c rb.1 rb.2, enc_at]
          cases hd : cupd M a (.head x y true k) f with
          | ptr _ => rw [hd] at hrun; cases hrun
          | raw _ => rw [hd] at hrun; cases hrun
          | imm _ => rw [hd] at hrun; cases hrun
          | head x' y' mk' j =>
            rw [hd] at hrun
            simp only at hrun
            by_cases q3 : f + j < s.words.length
            · rw [if_pos q3] at hrun
              have hf : f < s.words.length + nr := by omega
              have od := G3.ok f hf
              have rd := G3.rng hf
              rw [hd] at od rd
              rw [load_g G3 hf, hd, turned_c rd.1 rd.2, enc_turned hl od]
              have e4 : IntKind.i64.wrap ((f : Int) + j) = ((f + j : Nat) : Int) := by rw [i64_id (by omega) (by omega)]; rfl
              rw [b_add, e4, valA_some]
              have ep : ((a : Int) * 2 % 18446744073709551616) = enc (.ptr a) := by show _ = (a : Int) * 2; omega
              rw [ptr_c, ep, load_g G3 (show f + j < s.words.length + nr by omega)]
              refine store_g G3 (by omega) (okP (by omega)) fun h4 f4 G4 => ?_
              exact ⟨n, by omega, _, f, _, rfl, G4, G3.ok _ (by omega), f13.trans f4, hrun⟩
            · rw [if_neg q3] at hrun; cases hrun
end
end Go.Proofs.Ytljkkfcokpimkaa.X
set_option linter.unusedVariables false
set_option linter.unusedSimpArgs false
set_option maxRecDepth 20000
namespace Go.Proofs.Ytljkkfcokpimkaa.X
open Go Go.RowKit
section
variable {h : H} {sb b bw bd : Nat} {B Br : List Nat} {rv : AV} {s : Hs} {nr : Nat} {m m' : CM}
theorem GAt.fr' {h' : H} {S : List Nat} (G : GAt h sb b bw bd B rv Br s nr m) (f : Fr S h h') (hs : ∀ c ∈ sb :: Br, c ∉ S) (hs2 : ∀ c ∈ b :: bw :: bd :: B, c ∉ S) : GAt h' sb b bw bd B rv Br s nr m :=
  ⟨f sb _ (hs sb (by simp)) G.st, G.hh.fr f hs2, G.rt.fr f fun c hc => hs c (by simp [hc]), G.ok, G.g, G.ap, G.sr, G.nl⟩
theorem marked_g {A R : Nat → Prop} {m0 : CM} (G : GAt h sb b bw bd B rv Br s nr m0) (w : Wf (fl s.lays) s.words.length A m0) {As : List Nat} (hAs : ∀ a, A a → a ∈ As) (hR : Goes (fl s.lays) A m0 R)
    (hr : ∀ j, j < nr → (∃ x, m0 (s.words.length + j) = .imm x) ∨ ∃ a, m0 (s.words.length + j) = .ptr a ∧ A a ∧ R a) {K : AV → H → Prop}
    (hK : ∀ h' m' V, Fr (bw :: Br) h h' → GAt h' sb b bw bd B rv Br s nr m' → Mk (fl s.lays) A m0 V m' → Closed (fl s.lays) A m0 V → (∀ b, A b → V b = true → R b) → (∀ j, j < nr → ∀ a, m0 (s.words.length + j) = .ptr a → V a = true) → K (.tup []) h') :
    C 108 [.ptr sb 0] h K := by
  refine run108 ?_
  have c1 : h.cell sb 1 = some rv := by rw [cell_of G.st]; rfl
  have hn := G.nl
  have hrl := G.rt.row.len
  simp only [sh108, go_sem, reduceIte, Nat.reduceAdd, Nat.reduceSub, Nat.reduceMul, Nat.reducePow, Nat.reduceLT, Nat.reduceLeDiff, Nat.reduceEqDiff, Int.reduceAdd, Int.reduceSub, Int.reduceMul, Int.reduceNeg, Int.reducePow, Int.reduceLT, Int.reduceLE, Int.reduceEq, Int.reduceNe, Int.reduceToNat, Int.toNat_natCast, Nat.zero_add, Nat.add_zero, Nat.mul_one, Nat.one_mul, Bool.not_true, Bool.not_false, ne_eq, not_true_eq_false, not_false_eq_true, Bool.false_eq_true, c1, hrl]
  have M0 : Mk (fl s.lays) A m0 (fun _ => false) m0 := ⟨fun b x y _ e => by rw [e]; rfl, fun _ _ => rfl⟩
  refine loop_r (nr + 1) (fun c ls h' => ∃ (i : Nat) (m : CM) (V : Nat → Bool), ls = [.int .i64 i] ∧ i ≤ nr ∧ Fr (bw :: Br) h h' ∧ GAt h' sb b bw bd B rv Br s nr m ∧ Mk (fl s.lays) A m0 V m ∧ Closed (fl s.lays) A m0 V ∧ (∀ b, A b → V b = true → R b) ∧
    (∀ j, j < i → ∀ a, m0 (s.words.length + j) = .ptr a → V a = true) ∧ c = nr + 1 - i) ⟨0, m0, fun _ => false, rfl, by omega, Fr.refl _ _, G, M0, fun b _ h => (by cases h), fun b _ h => (by cases h), fun j hj => by omega, rfl⟩ ?_
  rintro c ls h1 ⟨i, m, V, rfl, hi, f1, G1, M, hC, hV, hd, rfl⟩
  by_cases q : (i : Int) < nr
  · have hi' : i < nr := by omega
    have en : IntKind.i64.wrap ((i : Int) + 1) = ((i + 1 : Nat) : Int) := by rw [i64_id (by omega) (by omega)]; rfl
    have hnA : ¬ A (s.words.length + i) := fun hA => by have := w.lt _ hA; omega
    have em : m (s.words.length + i) = m0 (s.words.length + i) := M.mo _ hnA
    obtain ⟨bo, oo, t1, t2⟩ := G1.rt.row.at (i := (i : Int)) (x := .int .u64 (enc (m0 (s.words.length + i)))) (by omega) q (by
      rw [Int.toNat_natCast, wc_get, encR_get hi', em]; rfl)
    simp only [go_sem, reduceIte, Nat.reduceAdd, Nat.reduceSub, Nat.reduceMul, Nat.reducePow, Nat.reduceLT, Nat.reduceLeDiff, Nat.reduceEqDiff, Int.reduceAdd, Int.reduceSub, Int.reduceMul, Int.reduceNeg, Int.reducePow, Int.reduceLT, Int.reduceLE, Int.reduceEq, Int.reduceNe, Int.reduceToNat, Int.toNat_natCast, Nat.zero_add, Nat.add_zero, Nat.mul_one, Nat.one_mul, Bool.not_true, Bool.not_false, ne_eq, not_true_eq_false, not_false_eq_true, Bool.false_eq_true, q, t1, t2]
    have next : ∀ h2 m2 V2, Fr (bw :: Br) h1 h2 → GAt h2 sb b bw bd B rv Br s nr m2 → Mk (fl s.lays) A m0 V2 m2 → Closed (fl s.lays) A m0 V2 → (∀ b, A b → V2 b = true → R b) → (∀ b, V b = true → V2 b = true) → (∀ a, m0 (s.words.length + i) = .ptr a → V2 a = true) →
        ∃ c, c < nr + 1 - i ∧ ∃ (i' : Nat) (m : CM) (V : Nat → Bool), [AV.int .i64 ((i + 1 : Nat) : Int)] = [.int .i64 i'] ∧ i' ≤ nr ∧ Fr (bw :: Br) h h2 ∧ GAt h2 sb b bw bd B rv Br s nr m ∧ Mk (fl s.lays) A m0 V m ∧ Closed (fl s.lays) A m0 V ∧ (∀ b, A b → V b = true → R b) ∧
          (∀ j, j < i' → ∀ a, m0 (s.words.length + j) = .ptr a → V a = true) ∧ c = nr + 1 - i' := fun h2 m2 V2 f2 G2 M2 C2 S2 L2 N2 =>
      ⟨nr + 1 - (i + 1), by omega, i + 1, m2, V2, rfl, by omega, f1.trans f2, G2, M2, C2, S2, fun j hj a ha => by
        by_cases e : j = i
        · subst e; exact N2 a ha
        · exact L2 a (hd j (by omega) a ha), rfl⟩
    rcases hr i hi' with ⟨x, e⟩ | ⟨a, e, hA, hRa⟩
    · have ho := G1.ok (s.words.length + i) (by omega)
      rw [em, e] at ho
      rw [e]
      refine mark_imm ho _ ?_
      simp only [go_sem, reduceIte, Nat.reduceAdd, Nat.reduceSub, Nat.reduceMul, Nat.reducePow, Nat.reduceLT, Nat.reduceLeDiff, Nat.reduceEqDiff, Int.reduceAdd, Int.reduceSub, Int.reduceMul, Int.reduceNeg, Int.reducePow, Int.reduceLT, Int.reduceLE, Int.reduceEq, Int.reduceNe, Int.reduceToNat, Int.toNat_natCast, Nat.zero_add, Nat.add_zero, Nat.mul_one, Nat.one_mul, Bool.not_true, Bool.not_false, ne_eq, not_true_eq_false, not_false_eq_true, Bool.false_eq_true, en]
      exact next h1 m V (Fr.refl _ _) G1 M hC hV (fun _ h => h) fun a ha => by rw [e] at ha; cases ha
    · rw [e]
      obtain ⟨x, y, ea⟩ := w.hd a hA
      have ha : a < s.words.length := by have := w.lt a hA; omega
      have ma := M.mh a x y hA ea
      cases hv : V a with
      | true =>
        rw [hv] at ma
        refine mark_seen G1 (by omega) ma ?_
        simp only [go_sem, reduceIte, Nat.reduceAdd, Nat.reduceSub, Nat.reduceMul, Nat.reducePow, Nat.reduceLT, Nat.reduceLeDiff, Nat.reduceEqDiff, Int.reduceAdd, Int.reduceSub, Int.reduceMul, Int.reduceNeg, Int.reducePow, Int.reduceLT, Int.reduceLE, Int.reduceEq, Int.reduceNe, Int.reduceToNat, Int.toNat_natCast, Nat.zero_add, Nat.add_zero, Nat.mul_one, Nat.one_mul, Bool.not_true, Bool.not_false, ne_eq, not_true_eq_false, not_false_eq_true, Bool.false_eq_true, en]
        exact next h1 m V (Fr.refl _ _) G1 M hC hV (fun _ h => h) fun a' ha' => by rw [e] at ha'; injection ha' with ha'; rw [← ha']; exact hv
      | false =>
        rw [hv] at ma
        obtain ⟨k, m2, V2, g1, g2, g3, g4, g5⟩ := mark_one w hR hAs M hC hV hA hRa
        refine mark_new G1 ha ma g1 fun h2 f2 G2 => ?_
        simp only [go_sem, reduceIte, Nat.reduceAdd, Nat.reduceSub, Nat.reduceMul, Nat.reducePow, Nat.reduceLT, Nat.reduceLeDiff, Nat.reduceEqDiff, Int.reduceAdd, Int.reduceSub, Int.reduceMul, Int.reduceNeg, Int.reducePow, Int.reduceLT, Int.reduceLE, Int.reduceEq, Int.reduceNe, Int.reduceToNat, Int.toNat_natCast, Nat.zero_add, Nat.add_zero, Nat.mul_one, Nat.one_mul, Bool.not_true, Bool.not_false, ne_eq, not_true_eq_false, not_false_eq_true, Bool.false_eq_true, en]
        exact next h2 m2 V2 f2 G2 g2 g3 g4 (fun b hb => g5 b (.inl hb)) fun a' ha' => by rw [e] at ha'; injection ha' with ha'; exact g5 a' (.inr ha'.symm)
  · simp only [go_sem, reduceIte, Nat.reduceAdd, Nat.reduceSub, Nat.reduceMul, Nat.reducePow, Nat.reduceLT, Nat.reduceLeDiff, Nat.reduceEqDiff, Int.reduceAdd, Int.reduceSub, Int.reduceMul, Int.reduceNeg, Int.reducePow, Int.reduceLT, Int.reduceLE, Int.reduceEq, Int.reduceNe, Int.reduceToNat, Int.toNat_natCast, Nat.zero_add, Nat.add_zero, Nat.mul_one, Nat.one_mul, Bool.not_true, Bool.not_false, ne_eq, not_true_eq_false, not_false_eq_true, Bool.false_eq_true, q]
    exact hK h1 m V f1 G1 M hC hV fun j hj => hd j (by omega)
theorem unthread_g (G : GAt h sb b bw bd B rv Br s nr m) {a to : Nat} {l : List Nat} {hd : Cell} (ha : a < s.words.length + nr) (hto : to ≤ 65536) (hc : chain m (m a) l hd) (hn : l.Nodup) (hl : ∀ i ∈ l, i < s.words.length + nr) (hal : a ∉ l) (hok : okC s.lays hd) (hp : isPtr hd = false ∧ isRaw hd = false) {K : AV → H → Prop}
    (hK : ∀ h', Fr (bw :: Br) h h' → GAt h' sb b bw bd B rv Br s nr (cupd (setl m l (.ptr to)) a hd) → K (.int .u64 (enc hd)) h') : C 120 [.ptr sb 0, .int .i64 a, .int .i64 to] h K := by
  refine run120 ?_
  have hlay := G.g.llen
  have hw := G.g.wlen
  have hnl := G.nl
  have okP : ∀ {i : Nat}, i < s.words.length + nr → okC s.lays (.ptr i) := fun hi => by show _ < _; omega
  unfold sh120
  rw [load_g G ha]
  refine join_r (fun (J : AV → H → Prop) => ∀ h', Fr (bw :: Br) h h' → GAt h' sb b bw bd B rv Br s nr (setl m l (.ptr to)) → J (.int .u64 (enc hd)) h') (fun h1 f1 G1 => ?_) fun J hJ => ?_
  · refine store_g G1 ha hok fun h2 f2 G2 => ?_
    exact hK h2 (f1.trans f2) G2
  · have okR : ∀ {c : Cell} {r : List Nat}, (∀ i ∈ r, i < s.words.length + nr) → chain m c r hd → okC s.lays c ∧ isRaw c = false := fun {c r} hr hcr => by
      cases r with
      | nil => have e : c = hd := hcr; rw [e]; exact ⟨hok, hp.2⟩
      | cons i r => rw [hcr.1]; exact ⟨okP (hr i (by simp)), rfl⟩
    refine loop_r l.length (fun n ls h' => ∃ (c : Cell) (dn r : List Nat), ls = [.int .u64 (enc c)] ∧ l = dn ++ r ∧ chain m c r hd ∧ Fr (bw :: Br) h h' ∧ GAt h' sb b bw bd B rv Br s nr (setl m dn (.ptr to)) ∧ n = r.length) ⟨m a, [], l, rfl, rfl, hc, Fr.refl _ _, by
      have : setl m [] (.ptr to) = m := funext fun x => setl_out (by simp)
      rw [this]; exact G, rfl⟩ ?_
    rintro n ls h1 ⟨c, dn, r, rfl, e, hcr, f1, G1, rfl⟩
    obtain ⟨oc, nr'⟩ := okR (fun i hi => hl i (by rw [e]; simp [hi])) hcr
    have rc := enc_range hlay oc
    rw [argA_0, isImm_c rc.1 rc.2, enc_imm oc nr', u_not, valA_some, Bool.not_not]
    cases r with
    | nil =>
      have ec : c = hd := hcr
      have el : dn = l := by rw [e]; simp
      rw [el] at G1
      rw [ec, hp.1, condA_f]
      exact hJ h1 f1 G1
    | cons i r =>
      obtain ⟨ec, hcr⟩ := hcr
      subst ec
      have hi : i < s.words.length + nr := hl i (by rw [e]; simp)
      have hid : i ∉ dn := fun h => by
        rw [e, List.nodup_append] at hn
        exact hn.2.2 i h i (by simp) rfl
      have ep : ((to : Int) * 2 % 18446744073709551616) = enc (.ptr to) := by show _ = (to : Int) * 2; omega
      simp only [isPtr, condA_t]
      rw [at_c rc.1 rc.2, enc_at, load_g G1 hi, ptr_c, ep]
      refine store_g G1 hi (by show to < _; omega) fun h2 f2 G2 => ?_
      have e2 : cupd (setl m dn (.ptr to)) i (.ptr to) = setl m (dn ++ [i]) (.ptr to) := funext fun x => by
        by_cases hx : x = i
        · rw [hx, cupd_same, setl_in (by simp)]
        · rw [cupd_other _ _ hx]
          by_cases hd : x ∈ dn
          · rw [setl_in hd, setl_in (by simp [hd])]
          · rw [setl_out hd, setl_out (by simp [hd, hx])]
      rw [e2] at G2
      rw [setl_out hid]
      exact ⟨r.length, by simp, m i, dn ++ [i], r, rfl, by rw [e]; simp, hcr, f1.trans f2, G2, rfl⟩
def oaOk (lays : List (Int × Int)) (o : OA) : Prop := needN lays o.s o.n = ((o.k : Int), 0) ∧ o.f = fl lays o.s o.n
theorem oaOk.okC {lays : List (Int × Int)} {o : OA} (h : oaOk lays o) (mk : Bool) {k : Nat} (hk : k ≤ o.f) : okC lays (.head o.s o.n mk k) := by
  have e : (needN lays o.s o.n).2 = 0 := by rw [h.1]
  have := need_pos e
  have h2 := fl_le (lays := lays) o.s o.n
  have := h.2
  exact ⟨e, by omega⟩
def isDead : Cell → Bool
  | .head _ _ m _ => !m
  | _ => false
theorem test_dead {lays : List (Int × Int)} (hl : lays.length ≤ 512) {c : Cell} (hc : okC lays c) (hr : isRaw c = false) (hi : ∀ w, c ≠ .imm w) {X : AV → H → Prop} :
    (C 48 [.int .u64 (enc c)] h fun t22 h => whenA t22 true (fun K => K (.int .u64 (enc c)) h) h fun t24 h => whenA t22 true (fun K => C 36 [t24] h K) h fun t25 h => whenA t22 true (fun K => valA (unOp .not t25) h K) h fun t26 h => valA (pickA t22 t26 (.bool false)) h X) = X (.bool (isDead c)) h := by
  have r := enc_range hl hc
  rw [isImm_c r.1 r.2, enc_imm hc hr]
  cases c with
  | imm w => exact absurd rfl (hi w)
  | raw w => cases hr
  | ptr a => simp only [isPtr, Bool.not_true, whenA_ft, whenA_u, pickA_b, Bool.false_eq_true, if_false, valA_some, isDead]
  | head a b c d => simp only [isPtr, Bool.not_false, whenA_tt, marked_c r.1 r.2, enc_marked hl hc, u_not, valA_some, pickA_b, if_true, isDead]
theorem live_g {R : Nat → Bool} {ok : OA → Nat → CM → Prop} {act : OA → Nat → CM → CM} {F x : Nat} (hx : x ∉ bw :: Br) (hF : ∀ (h1 : H) (m1 : CM) (o : OA) (to : Nat) (K : AV → H → Prop), GAt h1 sb b bw bd B rv Br s nr m1 → h1.get x = some (.live [.ptr sb 0] 133 true) → oaOk s.lays o → o.a + o.k ≤ s.words.length → to ≤ 65536 → ok o to m1 →
      (∀ h2, Fr (bw :: Br) h1 h2 → GAt h2 sb b bw bd B rv Br s nr (act o to m1) → K (.tup []) h2) → C F [.int .i64 o.a, .int .i64 to, .int .u64 (enc (.head o.s o.n true o.f)), .ptr x 0] h1 K)
    {os : List OA} (G : GAt h sb b bw bd B rv Br s nr m) (gx : h.get x = some (.live [.ptr sb 0] 133 true)) (hos : ∀ o ∈ os, oaOk s.lays o) (hl : LayO 0 os) (he : endO 0 os = s.top) {to' : Nat} (hp : PG R (s.words.length + nr) ok act os 0 m m' to') (hto : ∀ o ∈ os, o.a + o.k ≤ s.words.length) {K : AV → H → Prop}
    (hK : ∀ h', Fr (bw :: Br) h h' → GAt h' sb b bw bd B rv Br s nr m' → K (.int .i64 to') h') : C 110 [.ptr sb 0, .fn F [] [.ptr x 0]] h K := by
  refine run110 ?_
  have hw := G.g.wlen
  have hnl := G.nl
  have hlay := G.g.llen
  have ht := G.g.top
  unfold sh110
  refine join_r (fun (J : AV → H → Prop) => ∀ h', Fr (bw :: Br) h h' → GAt h' sb b bw bd B rv Br s nr m' → J (.int .i64 to') h') (fun h' f g => hK h' f g) fun J hJ => ?_
  refine loop_r (os.length + 1) (fun n ls h' => ∃ (r : List OA) (p to : Nat) (m1 : CM), ls = [.int .i64 to, .int .i64 p] ∧ (∀ o ∈ r, o ∈ os) ∧ LayO p r ∧ endO p r = s.top ∧ to ≤ p ∧ PG R (s.words.length + nr) ok act r to m1 m' to' ∧ Fr (bw :: Br) h h' ∧ GAt h' sb b bw bd B rv Br s nr m1 ∧ n = r.length + 1)
    ⟨os, 0, 0, m, rfl, fun _ h => h, hl, he, Nat.le_refl _, hp, Fr.refl _ _, G, rfl⟩ ?_
  rintro n ls h1 ⟨r, p, to, m1, rfl, hsub, hlr, her, htp, hpr, f1, G1, rfl⟩
  have c2 : h1.cell sb 2 = some (.int .i64 s.top) := by rw [cell_of G1.st]; rfl
  simp only [argA_0, argA_1, nilcA_p, valA_some, faA_p, ldA_n, Nat.zero_add, c2, b_lss]
  cases r with
  | nil =>
    obtain ⟨rfl, rfl⟩ := hpr
    have hps : p = s.top := her
    have q : ¬ ((p : Int) < s.top) := by omega
    simp only [q, decide_false, condA_f]
    exact hJ h1 f1 G1
  | cons o r =>
    obtain ⟨ea, ek, ef, hlr2⟩ := hlr
    have her2 : endO (p + o.k) r = s.top := her
    have hoo := hos o (hsub o (by simp))
    have hok := hto o (hsub o (by simp))
    have hge := LayO.ge (os := o :: r) (p := p) ⟨ea, ek, ef, hlr2⟩ o (by simp)
    have q : (p : Int) < s.top := by have := hge.2.1; rw [her] at this; omega
    have hp1 : p < s.words.length + nr := by omega
    have oc := G1.ok p hp1
    have rc := G1.rng hp1
    have ek2 : (needN s.lays o.s o.n).1 = (o.k : Int) := by rw [hoo.1]
    have e1 : IntKind.i64.wrap ((p : Int) + o.k) = ((p + o.k : Nat) : Int) := by rw [i64_id (by omega) (by omega)]; omega
    have e2 : IntKind.i64.wrap ((to : Int) + o.k) = ((to + o.k : Nat) : Int) := by rw [i64_id (by omega) (by omega)]; omega
    simp only [q, decide_true, condA_t]
    rw [load_g G1 hp1]
    have t0 : extA (.tup [.int .i64 (needN s.lays o.s o.n).1, .int .i64 (fl s.lays o.s o.n : Nat)]) 0 = some (.int .i64 o.k) := by rw [← ek2]; rfl
    have t1 : extA (.tup [.int .i64 (needN s.lays o.s o.n).1, .int .i64 (fl s.lays o.s o.n : Nat)]) 1 = some (.int .i64 (fl s.lays o.s o.n : Nat)) := rfl
    have next : ∀ (h2 : H) (to2 : Nat) (m2 : CM), Fr (bw :: Br) h1 h2 → GAt h2 sb b bw bd B rv Br s nr m2 → to2 ≤ p + o.k → PG R (s.words.length + nr) ok act r to2 m2 m' to' →
        ∃ n', n' < (o :: r).length + 1 ∧ ∃ (r : List OA) (p' to : Nat) (m1 : CM), [AV.int .i64 to2, .int .i64 ((p + o.k : Nat) : Int)] = [AV.int .i64 to, .int .i64 p'] ∧ (∀ o ∈ r, o ∈ os) ∧ LayO p' r ∧ endO p' r = s.top ∧ to ≤ p' ∧ PG R (s.words.length + nr) ok act r to m1 m' to' ∧ Fr (bw :: Br) h h2 ∧ GAt h2 sb b bw bd B rv Br s nr m1 ∧ n' = r.length + 1 :=
      fun h2 to2 m2 f2 G2 ht2 hp2 => ⟨r.length + 1, by simp, r, p + o.k, to2, m2, rfl, fun y hy => hsub y (by simp [hy]), hlr2, her2, ht2, hp2, f1.trans f2, G2, rfl⟩
    have hhd := hoo.okC true (Nat.le_refl o.f)
    rcases hpr with ⟨hR, l, g1, g2, g3, g4, g5, g6⟩ | ⟨hR, g1, g2⟩
    · -- it is reached
      have hlive : isDead (m1 p) = false ∧ isRaw (m1 p) = false ∧ (∀ w, m1 p ≠ .imm w) := by
        rw [ea] at g1
        cases l with
        | nil => have e : m1 p = .head o.s o.n true o.f := g1; rw [e]; exact ⟨rfl, rfl, fun w h => (by cases h)⟩
        | cons i l => rw [g1.1]; exact ⟨rfl, rfl, fun w h => (by cases h)⟩
      rw [test_dead hlay oc hlive.2.1 hlive.2.2, hlive.1, condA_f]
      rw [ea] at g1 g4 g5 g6
      refine unthread_g G1 hp1 (by omega) g1 g2 g3 g4 hhd ⟨rfl, rfl⟩ fun h2 f2 G2 => ?_
      refine size_g G2 hhd fun h3 f3 => ?_
      have G3 := G2.fr f3
      have f13 := f2.trans (f3.more (S := bw :: Br))
      have gx1 := f1 x _ hx gx
      have gx3 := f13 x _ hx gx1
      rw [t0, valA_some, t1, valA_some, callvA_f]
      simp only [List.nil_append, List.cons_append]
      rw [← ea]
      refine hF h3 _ o to _ G3 gx3 hoo hok (by omega) g5 fun h4 f4 G4 => ?_
      rw [ea, b_add, e1, valA_some, b_add, e2, valA_some]
      exact next h4 (to + o.k) _ (f13.trans f4) G4 (by omega) g6
    · rw [ea] at g1
      have hdd := hoo.okC false (Nat.zero_le o.f)
      rw [test_dead hlay oc (by rw [g1]; rfl) (fun w h => by rw [g1] at h; cases h), g1]
      simp only [isDead, condA_t, Bool.not_false]
      refine size_g G1 hdd fun h2 f2 => ?_
      rw [t0, valA_some, t1, valA_some, b_add, e1, valA_some]
      exact next h2 to m1 f2.more (G1.fr f2) (by omega) g2
end
end Go.Proofs.Ytljkkfcokpimkaa.X
set_option linter.unusedVariables false
set_option linter.unusedSimpArgs false
set_option maxRecDepth 20000
namespace Go.Proofs.Ytljkkfcokpimkaa.X
open Go Go.RowKit
def fieldC (w : Int) : Cell := if w % 2 = 1 then .imm w else .ptr (w / 2).toNat
def bodyC (lays : List (Int × Int)) (o : Ob) : List Cell := o.body.map (if kindAt lays o.sh = 3 then Cell.raw else fieldC)
def cellsO (lays : List (Int × Int)) (os : List Ob) : List Cell := os.flatMap fun o => Cell.head o.sh o.n false 0 :: bodyC lays o
def memO (lays : List (Int × Int)) (os : List Ob) (sz : Nat) (rts : List Int) : CM := fun i => if i < sz then (cellsO lays os).getD i (.raw 0) else fieldC (rts.getD (i - sz) 1)
theorem cellsO_cons (lays : List (Int × Int)) (o : Ob) (os : List Ob) : cellsO lays (o :: os) = (Cell.head o.sh o.n false 0 :: bodyC lays o) ++ cellsO lays os := by simp [cellsO]
theorem cellsO_append (lays : List (Int × Int)) (a b : List Ob) : cellsO lays (a ++ b) = cellsO lays a ++ cellsO lays b := by simp [cellsO]
theorem cellsO_len (lays : List (Int × Int)) (os : List Ob) : (cellsO lays os).length = (rowOf os).length := by
  induction os with
  | nil => rfl
  | cons o os ih => rw [cellsO_cons, rowOf_cons, List.length_append, List.length_append, ih]; simp [bodyC, Ob.row]
theorem enc_field {w : Int} (h0 : 0 ≤ w) : enc (fieldC w) = w := by
  unfold fieldC
  split
  · rfl
  · show ((w / 2).toNat : Int) * 2 = w; omega
theorem field_ok {lays : List (Int × Int)} {w : Int} (h0 : 0 ≤ w) (h1 : w < 18446744073709551616) (h2 : w % 2 = 1 ∨ (w / 2).toNat < 4611686018427387904) : okC lays (fieldC w) := by
  unfold fieldC
  split
  · rename_i h; exact ⟨h, h0, h1⟩
  · rename_i h; rcases h2 with h2 | h2
    · exact absurd h2 h
    · exact h2
section
variable {lays : List (Int × Int)} {os : List Ob} {sz : Nat} {rts : List Int}
theorem cells_at {a : Int} {o : Ob} (h : findO os a = some o) (j : Nat) (hj : j < o.row.length) : (cellsO lays os).getD (a.toNat + j) (.raw 0) = (Cell.head o.sh o.n false 0 :: bodyC lays o).getD j (.raw 0) := by
  obtain ⟨pre, post, rfl, rfl⟩ := findO_split os a o h
  have hl := cellsO_len lays pre
  rw [cellsO_append, cellsO_cons, Int.toNat_natCast, List.getD_eq_getElem?_getD, List.getD_eq_getElem?_getD, List.getElem?_append_right (by omega), List.getElem?_append_left (by simp [bodyC, Ob.row] at hj ⊢; omega)]
  congr 2; omega
theorem memO_head {a : Int} {o : Ob} (h : findO os a = some o) (hs : (rowOf os).length ≤ sz) : memO lays os sz rts a.toNat = .head o.sh o.n false 0 := by
  have hl := findO_lt os a o h
  have := row_pos o
  unfold memO
  rw [if_pos (by omega)]
  exact cells_at h 0 (row_pos o)
theorem memO_body {a : Int} {o : Ob} (h : findO os a = some o) (hs : (rowOf os).length ≤ sz) {j : Nat} (hj : j < o.body.length) : memO lays os sz rts (a.toNat + 1 + j) = if kindAt lays o.sh = 3 then .raw (o.body.getD j 0) else fieldC (o.body.getD j 0) := by
  have hl := findO_lt os a o h
  have hr : o.row.length = o.body.length + 1 := by simp [Ob.row]
  unfold memO
  rw [if_pos (by omega), show a.toNat + 1 + j = a.toNat + (j + 1) by omega, cells_at h (j + 1) (by omega)]
  rw [List.getD_eq_getElem?_getD, List.getElem?_cons_succ, bodyC, List.getElem?_map, List.getD_eq_getElem?_getD, List.getElem?_eq_getElem hj]
  simp only [Option.map_some, Option.getD_some]
  split <;> rfl
theorem memO_root {j : Nat} : memO lays os sz rts (sz + j) = fieldC (rts.getD j 1) := by
  unfold memO
  rw [if_neg (by omega), Nat.add_sub_cancel_left]
def AtO (os : List Ob) (a : Nat) : Prop := (findO os a).isSome = true
theorem enc_cells {lays : List (Int × Int)} (hl : lays.length ≤ 512) : ∀ {os : List Ob}, (∀ o ∈ os, needN lays o.sh o.n = ((o.row.length : Int), 0)) → (∀ o ∈ os, ∀ w ∈ o.body, 0 ≤ w) → (cellsO lays os).map enc = rowOf os
  | [], _, _ => rfl
  | o :: os, he, hw => by
    have p := need_pos (lays := lays) (i := o.sh) (n := o.n) (by rw [he o (by simp)])
    rw [cellsO_cons, rowOf_cons, List.map_append, enc_cells hl (fun x hx => he x (by simp [hx])) (fun x hx => hw x (by simp [hx]))]
    congr 1
    simp only [List.map_cons, Ob.row]
    congr 1
    · show partsN o.sh o.n 0 0 = _
      rw [headN_parts, Int.emod_eq_of_lt (by omega) (by omega), Int.emod_eq_of_lt (by omega) (by omega)]
    · unfold bodyC
      rw [List.map_map]
      conv => rhs; rw [← List.map_id o.body]
      apply List.map_congr_left
      intro w hwm
      have := hw o (by simp) w hwm
      simp only [Function.comp]
      split
      · rfl
      · exact enc_field this
theorem Abs.nonneg {s : Hs} (A : Abs s os) : ∀ o ∈ os, ∀ w ∈ o.body, 0 ≤ w ∧ w < 18446744073709551616 := fun o ho w hw => by
  refine A.good.wrange w ?_
  rw [A.words]
  refine List.mem_append_left _ ?_
  obtain ⟨p, q, rfl⟩ := List.append_of_mem ho
  rw [rowOf_append, rowOf_cons]
  simp [Ob.row, hw]
theorem memO_words {s : Hs} (A : Abs s os) : encW (memO s.lays os s.words.length rts) s.words.length = s.words := by
  have hle : (rowOf os).length ≤ s.words.length := by rw [← A.top]; exact A.good.top
  have e := enc_cells A.good.llen A.each fun o ho w hw => (A.nonneg o ho w hw).1
  apply List.ext_getElem?
  intro i
  by_cases hi : i < s.words.length
  · rw [encW_get hi]
    unfold memO
    rw [if_pos hi, A.words]
    by_cases h2 : i < (rowOf os).length
    · rw [List.getElem?_append_left h2, ← e, List.getElem?_map, List.getD_eq_getElem?_getD, List.getElem?_eq_getElem (by rw [cellsO_len]; exact h2)]
      rfl
    · rw [List.getElem?_append_right (by omega), List.getElem?_replicate, if_pos (by omega), List.getD_eq_getElem?_getD, List.getElem?_eq_none (by rw [cellsO_len]; omega)]
      rfl
  · rw [List.getElem?_eq_none (by rw [encW_len]; omega), List.getElem?_eq_none (by omega)]
theorem memO_roots (hr : ∀ w ∈ rts, 0 ≤ w) : encR (memO lays os sz rts) sz rts.length = rts := by
  apply List.ext_getElem?
  intro i
  by_cases hi : i < rts.length
  · rw [encR_get hi, memO_root, List.getD_eq_getElem?_getD, List.getElem?_eq_getElem hi]
    simp only [Option.getD_some]
    rw [enc_field (hr _ (List.getElem_mem hi))]
  · rw [List.getElem?_eq_none (by rw [encR_len]; omega), List.getElem?_eq_none (by omega)]
theorem fits_lt {w : Int} (h : fitsO os w = true) (hs : (rowOf os).length ≤ 65536) : w % 2 = 1 ∨ (w / 2).toNat < 4611686018427387904 := by
  unfold fitsO at h
  rcases Bool.or_eq_true_iff.1 h with h | h
  · exact .inl (by simpa using h)
  · obtain ⟨o, ho⟩ := Option.isSome_iff_exists.1 h
    have := findO_lt os _ o ho
    right; omega
theorem mem_find {o : Ob} (ho : o ∈ os) : ∃ a : Nat, findO os a = some o := by
  obtain ⟨p, q, rfl⟩ := List.append_of_mem ho
  exact ⟨(rowOf p).length, findO_at p q o⟩
theorem find_cell : ∀ (os : List Ob) (i : Nat), i < (rowOf os).length → ∃ (a : Nat) (o : Ob) (j : Nat), findO os a = some o ∧ i = a + j ∧ j < o.row.length
  | [], i, h => by simp [rowOf] at h
  | o :: os, i, h => by
    rw [rowOf_cons, List.length_append] at h
    by_cases hi : i < o.row.length
    · exact ⟨0, o, i, by simp [findO], by omega, hi⟩
    · obtain ⟨a, o', j, h1, h2, h3⟩ := find_cell os (i - o.row.length) (by omega)
      refine ⟨o.row.length + a, o', j, ?_, by omega, h3⟩
      have := row_pos o
      rw [findO, if_neg (by omega)]
      have e : (((o.row.length + a : Nat) : Int) - (o.row.length : Int)) = a := by omega
      rw [e]; exact h1
theorem memO_ok {s : Hs} (A : Abs s os) (fit : fitAll s.lays os) (hr : ∀ w ∈ rts, 0 ≤ w ∧ w < 18446744073709551616) (hf : ∀ w ∈ rts, fitsO os w = true) : ∀ i, i < s.words.length + rts.length → okC s.lays (memO s.lays os s.words.length rts i) := fun i hi => by
  have hle : (rowOf os).length ≤ s.words.length := by rw [← A.top]; exact A.good.top
  have h65 := A.good.wlen
  by_cases h1 : i < s.words.length
  · by_cases h2 : i < (rowOf os).length
    · obtain ⟨a, o, j, e1, e2, e3⟩ := find_cell os i h2
      have ho : o ∈ os := by obtain ⟨p, q, rfl, _⟩ := findO_split os _ o e1; simp
      cases j with
      | zero =>
        have := memO_head (lays := s.lays) (rts := rts) e1 hle
        rw [Int.toNat_natCast] at this
        rw [e2, Nat.add_zero, this]
        exact ⟨by rw [A.each o ho], by omega⟩
      | succ j =>
        have hj : j < o.body.length := by simp [Ob.row] at e3; omega
        have := memO_body (lays := s.lays) (rts := rts) e1 hle hj
        rw [Int.toNat_natCast] at this
        rw [e2, show a + (j + 1) = a + 1 + j by omega, this]
        have hm : o.body.getD j 0 ∈ o.body := by rw [List.getD_eq_getElem?_getD, List.getElem?_eq_getElem hj]; exact List.getElem_mem hj
        have hw := A.nonneg o ho _ hm
        split
        · exact hw
        · rename_i k3
          exact field_ok hw.1 hw.2 (fits_lt (fit o ho k3 _ hm) (by omega))
    · unfold memO
      rw [if_pos h1, List.getD_eq_getElem?_getD, List.getElem?_eq_none (by rw [cellsO_len]; omega)]
      exact ⟨by decide, by decide⟩
  · obtain ⟨j, rfl⟩ : ∃ j, i = s.words.length + j := ⟨i - s.words.length, by omega⟩
    rw [memO_root]
    have hm : rts.getD j 1 ∈ rts := by rw [List.getD_eq_getElem?_getD, List.getElem?_eq_getElem (by omega)]; exact List.getElem_mem _
    exact field_ok (hr _ hm).1 (hr _ hm).2 (fits_lt (hf _ hm) (by omega))
theorem memO_fields {s : Hs} (A : Abs s os) {a : Nat} {o : Ob} (h : findO os a = some o) : flds (fl s.lays) (memO s.lays os s.words.length rts a) = fl s.lays o.sh o.n ∧ fl s.lays o.sh o.n + 1 ≤ o.row.length ∧ (kindAt s.lays o.sh ≠ 3 → fl s.lays o.sh o.n = o.body.length) ∧ (kindAt s.lays o.sh = 3 → fl s.lays o.sh o.n = 0) := by
  have hle : (rowOf os).length ≤ s.words.length := by rw [← A.top]; exact A.good.top
  have := memO_head (lays := s.lays) (rts := rts) h hle
  rw [Int.toNat_natCast] at this
  have hb := A.body h
  have hr : o.row.length = o.body.length + 1 := by simp [Ob.row]
  refine ⟨by rw [this]; rfl, ?_, ?_, ?_⟩
  · unfold fl; split
    · omega
    · rename_i k; rw [if_neg k] at hb; omega
  · intro k; unfold fl; rw [if_neg k] at hb ⊢; omega
  · intro k; unfold fl; rw [if_pos k]
theorem findO_apart {a b : Nat} {o o' : Ob} (h : findO os a = some o) (h' : findO os b = some o') (hab : a < b) : a + o.row.length ≤ b := by
  obtain ⟨pre, post, rfl, e⟩ := findO_split os _ o h
  have ea : a = (rowOf pre).length := by omega
  obtain ⟨pre2, post2, e2, e3⟩ := findO_split _ _ o' h'
  have eb : b = (rowOf pre2).length := by omega
  -- where the second splits, the first is ahead
  have key : ∀ (pre post pre2 post2 : List Ob), pre ++ o :: post = pre2 ++ o' :: post2 → (rowOf pre).length < (rowOf pre2).length → (rowOf pre).length + o.row.length ≤ (rowOf pre2).length := by
    intro pre
    induction pre with
    | nil =>
      intro post pre2 post2 e hlt
      cases pre2 with
      | nil => simp [rowOf] at hlt
      | cons y pre2 =>
        injection e with e1 e2
        subst e1
        rw [rowOf_cons]; simp [rowOf]
    | cons x pre ih =>
      intro post pre2 post2 e hlt
      cases pre2 with
      | nil => simp [rowOf] at hlt
      | cons y pre2 =>
        injection e with e1 e2
        subst e1
        have := ih post pre2 post2 e2 (by rw [rowOf_cons, rowOf_cons, List.length_append, List.length_append] at hlt; omega)
        rw [rowOf_cons, rowOf_cons, List.length_append, List.length_append]
        omega
  have := key pre post pre2 post2 e2 (by omega)
  omega
theorem fit_ptr {w : Int} (h : fitsO os w = true) : (fieldC w = .imm w ∧ w % 2 = 1) ∨ (fieldC w = .ptr (w / 2).toNat ∧ w % 2 ≠ 1 ∧ AtO os (w / 2).toNat ∧ ((w / 2).toNat : Int) = w / 2) := by
  unfold fitsO at h
  by_cases q : w % 2 = 1
  · exact .inl ⟨by unfold fieldC; rw [if_pos q], q⟩
  · simp only [q, decide_false, Bool.false_or] at h
    obtain ⟨o, ho⟩ := Option.isSome_iff_exists.1 h
    have h0 := (findO_lt os _ o ho).1
    refine .inr ⟨by unfold fieldC; rw [if_neg q], q, ?_, by omega⟩
    unfold AtO
    rw [show (((w / 2).toNat : Nat) : Int) = w / 2 by omega]
    exact h
theorem memO_wf {s : Hs} (A : Abs s os) (fit : fitAll s.lays os) : Wf (fl s.lays) s.words.length (AtO os) (memO s.lays os s.words.length rts) := by
  have hle : (rowOf os).length ≤ s.words.length := by rw [← A.top]; exact A.good.top
  refine ⟨fun a ha => ?_, fun a ha j hj => ?_, fun a ha => ?_, fun a b ha hb hab => ?_⟩
  · obtain ⟨o, ho⟩ := Option.isSome_iff_exists.1 ha
    have := memO_head (lays := s.lays) (rts := rts) ho hle
    rw [Int.toNat_natCast] at this
    exact ⟨_, _, this⟩
  · obtain ⟨o, ho⟩ := Option.isSome_iff_exists.1 ha
    obtain ⟨f1, f2, f3, f4⟩ := memO_fields (rts := rts) A ho
    rw [f1] at hj
    have k3 : kindAt s.lays o.sh ≠ 3 := fun k => by rw [f4 k] at hj; omega
    rw [f3 k3] at hj
    have := memO_body (lays := s.lays) (rts := rts) ho hle hj
    rw [Int.toNat_natCast] at this
    rw [this, if_neg k3]
    have hm : o.body.getD j 0 ∈ o.body := by rw [List.getD_eq_getElem?_getD, List.getElem?_eq_getElem hj]; exact List.getElem_mem hj
    have hom : o ∈ os := by obtain ⟨p, q, rfl, _⟩ := findO_split os _ o ho; simp
    rcases fit_ptr (fit o hom k3 _ hm) with ⟨e, _⟩ | ⟨e, _, hA, _⟩
    · exact .inl ⟨_, e⟩
    · exact .inr ⟨_, e, hA⟩
  · obtain ⟨o, ho⟩ := Option.isSome_iff_exists.1 ha
    obtain ⟨f1, f2, _⟩ := memO_fields (rts := rts) A ho
    rw [f1]
    have := findO_lt os _ o ho
    omega
  · obtain ⟨o, ho⟩ := Option.isSome_iff_exists.1 ha
    obtain ⟨o', ho'⟩ := Option.isSome_iff_exists.1 hb
    obtain ⟨f1, f2, _⟩ := memO_fields (rts := rts) A ho
    rw [f1]
    have := findO_apart ho ho' hab
    omega
end
inductive Rch (lays : List (Int × Int)) (os : List Ob) (rts : List Int) : Nat → Prop
  | root {w : Int} : w ∈ rts → w % 2 ≠ 1 → Rch lays os rts (w / 2).toNat
  | fld {a : Nat} {o : Ob} {w : Int} : Rch lays os rts a → findO os a = some o → kindAt lays o.sh ≠ 3 → w ∈ o.body → w % 2 ≠ 1 → Rch lays os rts (w / 2).toNat
section
variable {os : List Ob} {rts : List Int}
theorem rch_at {lays : List (Int × Int)} (fit : fitAll lays os) (hf : ∀ w ∈ rts, fitsO os w = true) {a : Nat} (h : Rch lays os rts a) : AtO os a := by
  have one : ∀ w : Int, w % 2 ≠ 1 → fitsO os w = true → AtO os (w / 2).toNat := fun w hq h => by
    rcases fit_ptr h with ⟨_, e⟩ | ⟨_, _, e, _⟩
    · exact absurd e hq
    · exact e
  cases h with
  | root h1 h2 => exact one _ h2 (hf _ h1)
  | fld h1 h2 h3 h4 h5 => exact one _ h5 (fit _ (by obtain ⟨p, q, rfl, _⟩ := findO_split os _ _ h2; simp) h3 _ h4)
theorem rch_goes {s : Hs} (A : Abs s os) : Goes (fl s.lays) (AtO os) (memO s.lays os s.words.length rts) (Rch s.lays os rts) := fun b hb hr j hj c hc => by
  have hle : (rowOf os).length ≤ s.words.length := by rw [← A.top]; exact A.good.top
  obtain ⟨o, ho⟩ := Option.isSome_iff_exists.1 hb
  obtain ⟨f1, f2, f3, f4⟩ := memO_fields (rts := rts) A ho
  have hj : j < fl s.lays o.sh o.n := by rw [← f1]; exact hj
  have k3 : kindAt s.lays o.sh ≠ 3 := fun k => by rw [f4 k] at hj; omega
  rw [f3 k3] at hj
  have := memO_body (lays := s.lays) (rts := rts) ho hle hj
  rw [Int.toNat_natCast] at this
  rw [this, if_neg k3] at hc
  have hm : o.body.getD j 0 ∈ o.body := by rw [List.getD_eq_getElem?_getD, List.getElem?_eq_getElem hj]; exact List.getElem_mem hj
  unfold fieldC at hc
  split at hc
  · cases hc
  · rename_i q
    injection hc with hc
    rw [← hc]
    exact .fld hr ho k3 hm q
theorem rch_least {s : Hs} (A : Abs s os) (fit : fitAll s.lays os) (hf : ∀ w ∈ rts, fitsO os w = true) {V : Nat → Bool} (hc : Closed (fl s.lays) (AtO os) (memO s.lays os s.words.length rts) V) (hv : ∀ j, j < rts.length → ∀ a, memO s.lays os s.words.length rts (s.words.length + j) = .ptr a → V a = true) {a : Nat} (h : Rch s.lays os rts a) : V a = true := by
  have hle : (rowOf os).length ≤ s.words.length := by rw [← A.top]; exact A.good.top
  induction h with
  | root h1 h2 =>
    obtain ⟨j, hj⟩ := List.getElem?_of_mem h1
    have hjl : j < rts.length := (List.getElem?_eq_some_iff.1 hj).1
    refine hv j hjl _ ?_
    rw [memO_root, List.getD_eq_getElem?_getD, hj]
    unfold fieldC
    rw [Option.getD_some, if_neg h2]
  | fld h1 h2 h3 h4 h5 ih =>
    rename_i a o w
    obtain ⟨j, hj⟩ := List.getElem?_of_mem h4
    have hjl : j < o.body.length := (List.getElem?_eq_some_iff.1 hj).1
    obtain ⟨f1, f2, f3, f4⟩ := memO_fields (rts := rts) A h2
    refine hc a (by unfold AtO; rw [h2]; rfl) ih j (by show j < flds _ _; rw [f1, f3 h3]; exact hjl) _ ?_
    have := memO_body (lays := s.lays) (rts := rts) h2 hle hjl
    rw [Int.toNat_natCast] at this
    rw [this, if_neg h3, List.getD_eq_getElem?_getD, hj]
    unfold fieldC
    rw [Option.getD_some, if_neg h5]
theorem reach_bool (lays : List (Int × Int)) (os : List Ob) (rts : List Int) : ∃ R : Nat → Bool, ∀ a, R a = true ↔ Rch lays os rts a :=
  ⟨fun a => @decide _ (Classical.propDecidable (Rch lays os rts a)), fun a => by simp⟩
end
end Go.Proofs.Ytljkkfcokpimkaa.X
