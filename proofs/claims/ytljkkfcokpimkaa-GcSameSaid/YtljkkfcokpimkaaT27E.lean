/- What the law law27 needs: texts of one's own, put together; functions' contracts and plain facts. -/
import Derived.Test.YtljkkfcokpimkaaT27D
set_option linter.unusedVariables false
set_option linter.unusedSimpArgs false
set_option maxRecDepth 20000
namespace Go.Proofs.Ytljkkfcokpimkaa.X
open Go Go.RowKit
def oas (lays : List (Int × Int)) : List Ob → Nat → List OA
  | [], _ => []
  | o :: os, p => ⟨p, o.row.length, fl lays o.sh o.n, o.sh, o.n⟩ :: oas lays os (p + o.row.length)
def fwdN (R : Nat → Bool) : List Ob → Nat → Nat → Nat → Nat
  | [], _, _, _ => 0
  | o :: os, p, to, a => if a = p then to else fwdN R os (p + o.row.length) (if R p then to + o.row.length else to) a
def fwdW (fwd : Nat → Nat) (w : Int) : Int := if w % 2 = 1 then w else (fwd (w / 2).toNat : Int) * 2
def newB (lays : List (Int × Int)) (fwd : Nat → Nat) (o : Ob) : Ob := ⟨o.sh, o.n, if kindAt lays o.sh = 3 then o.body else o.body.map (fwdW fwd)⟩
def newOs (lays : List (Int × Int)) (R : Nat → Bool) (fwd : Nat → Nat) : List Ob → Nat → List Ob
  | [], _ => []
  | o :: os, p => if R p then newB lays fwd o :: newOs lays R fwd os (p + o.row.length) else newOs lays R fwd os (p + o.row.length)
theorem newB_len (lays : List (Int × Int)) (fwd : Nat → Nat) (o : Ob) : (newB lays fwd o).row.length = o.row.length := by
  simp only [newB, Ob.row, List.length_cons]; split <;> simp
section
variable {lays : List (Int × Int)} {R : Nat → Bool} {fwd : Nat → Nat}
theorem oas_mem : ∀ (os : List Ob) (p : Nat) (o : OA), o ∈ oas lays os p ↔ ∃ (a : Nat) (ob : Ob), findO os a = some ob ∧ o = ⟨p + a, ob.row.length, fl lays ob.sh ob.n, ob.sh, ob.n⟩
  | [], p, o => by simp [oas, findO]
  | x :: os, p, o => by
    have hx := row_pos x
    rw [oas, List.mem_cons, oas_mem os]
    constructor
    · rintro (rfl | ⟨a, ob, h1, rfl⟩)
      · exact ⟨0, x, by simp [findO], by simp⟩
      · refine ⟨x.row.length + a, ob, ?_, by rw [Nat.add_assoc]⟩
        rw [findO, if_neg (by omega), show (((x.row.length + a : Nat) : Int) - x.row.length) = a by omega]
        exact h1
    · rintro ⟨a, ob, h1, rfl⟩
      rw [findO] at h1
      split at h1
      · rename_i h0
        injection h1 with h1
        subst h1
        have : a = 0 := by omega
        subst this
        exact .inl (by simp)
      · have h2 := findO_lt os _ ob h1
        refine .inr ⟨a - x.row.length, ob, ?_, by rw [show p + x.row.length + (a - x.row.length) = p + a by omega]⟩
        rw [show ((a - x.row.length : Nat) : Int) = (a : Int) - x.row.length by omega]
        exact h1
theorem oas_lay : ∀ (os : List Ob) (p : Nat), (∀ o ∈ os, fl lays o.sh o.n + 1 ≤ o.row.length) → LayO p (oas lays os p)
  | [], _, _ => trivial
  | o :: os, p, h => by
    have h1 := h o (by simp)
    exact ⟨rfl, by show 1 ≤ o.row.length; omega, by show fl lays o.sh o.n < o.row.length; omega, oas_lay os _ fun x hx => h x (by simp [hx])⟩
theorem oas_end : ∀ (os : List Ob) (p : Nat), endO p (oas lays os p) = p + (rowOf os).length
  | [], p => by simp [oas, endO, rowOf]
  | o :: os, p => by
    rw [oas, endO, oas_end os, rowOf_cons, List.length_append]
    show p + o.row.length + _ = _
    omega
theorem oas_fwd : ∀ (os : List Ob) (p to : Nat), (∀ a, p ≤ a → fwd a = fwdN R os p to a) → FwdO R fwd to (oas lays os p)
  | [], _, _, _ => trivial
  | o :: os, p, to, h => by
    have hp := row_pos o
    refine ⟨fun _ => ?_, ?_⟩
    · rw [h p (Nat.le_refl _), fwdN, if_pos rfl]
    · refine oas_fwd os (p + o.row.length) _ fun a ha => ?_
      rw [h a (by omega), fwdN, if_neg (by omega)]
theorem oas_live : ∀ (os : List Ob) (p to : Nat), liveO R to (oas lays os p) = to + (rowOf (newOs lays R fwd os p)).length
  | [], p, to => by simp [oas, liveO, newOs, rowOf]
  | o :: os, p, to => by
    rw [oas, liveO, oas_live os, newOs]
    cases R p with
    | true => simp only [if_true, rowOf_cons, List.length_append, newB_len]; omega
    | false => simp only [Bool.false_eq_true, if_false]
theorem new_len : ∀ (os : List Ob) (p : Nat), (rowOf (newOs lays R fwd os p)).length ≤ (rowOf os).length
  | [], p => by simp [newOs]
  | o :: os, p => by
    have := new_len os (p + o.row.length)
    rw [newOs, rowOf_cons, List.length_append]
    cases R p with
    | true => simp only [if_true, rowOf_cons, List.length_append, newB_len]; omega
    | false => simp only [Bool.false_eq_true, if_false]; omega
theorem new_find : ∀ (os : List Ob) (p to a : Nat) (o : Ob), findO os a = some o → R (p + a) = true → to ≤ fwdN R os p to (p + a) ∧ findO (newOs lays R fwd os p) ((fwdN R os p to (p + a) : Int) - to) = some (newB lays fwd o)
  | [], p, to, a, o, h, _ => by simp [findO] at h
  | x :: os, p, to, a, o, h, hR => by
    have hx := row_pos x
    rw [findO] at h
    split at h
    · rename_i h0
      injection h with h
      subst h
      have : a = 0 := by omega
      subst this
      rw [Nat.add_zero] at hR ⊢
      rw [fwdN, if_pos rfl, newOs, hR]
      exact ⟨Nat.le_refl _, by simp [findO]⟩
    · have h2 := findO_lt os _ o h
      have e : ((a : Int) - x.row.length) = ((a - x.row.length : Nat) : Int) := by omega
      rw [e] at h
      obtain ⟨q1, q2⟩ := new_find os (p + x.row.length) (if R p then to + x.row.length else to) (a - x.row.length) o h (by rw [show p + x.row.length + (a - x.row.length) = p + a by omega]; exact hR)
      rw [show p + x.row.length + (a - x.row.length) = p + a by omega] at q1 q2
      rw [fwdN, if_neg (by omega), newOs]
      cases hp : R p with
      | true =>
        rw [hp] at q1 q2
        simp only [if_true] at q1 q2 ⊢
        refine ⟨by omega, ?_⟩
        have hl := newB_len lays fwd x
        rw [findO, if_neg (by omega), hl]
        have e2 : ((fwdN R os (p + x.row.length) (to + x.row.length) (p + a) : Int) - to - x.row.length) = (fwdN R os (p + x.row.length) (to + x.row.length) (p + a) : Int) - ((to + x.row.length : Nat) : Int) := by omega
        rw [e2]; exact q2
      | false =>
        rw [hp] at q1 q2
        simp only [Bool.false_eq_true, if_false] at q1 q2 ⊢
        exact ⟨q1, q2⟩
theorem new_mem : ∀ (os : List Ob) (p : Nat) (o' : Ob), o' ∈ newOs lays R fwd os p → ∃ (a : Nat) (o : Ob), findO os a = some o ∧ R (p + a) = true ∧ o' = newB lays fwd o
  | [], _, _, h => by cases h
  | x :: os, p, o', h => by
    have hx := row_pos x
    have rest : o' ∈ newOs lays R fwd os (p + x.row.length) → ∃ (a : Nat) (o : Ob), findO (x :: os) a = some o ∧ R (p + a) = true ∧ o' = newB lays fwd o := fun h => by
      obtain ⟨a, o, h1, h2, h3⟩ := new_mem os _ o' h
      refine ⟨x.row.length + a, o, ?_, by rw [← Nat.add_assoc]; exact h2, h3⟩
      rw [findO, if_neg (by omega), show (((x.row.length + a : Nat) : Int) - x.row.length) = a by omega]
      exact h1
    rw [newOs] at h
    cases hp : R p with
    | true =>
      rw [hp] at h
      simp only [if_true] at h
      rcases List.mem_cons.1 h with rfl | h
      · exact ⟨0, x, by simp [findO], hp, rfl⟩
      · exact rest h
    | false =>
      rw [hp] at h
      simp only [Bool.false_eq_true, if_false] at h
      exact rest h
end
def LO (os : List Ob) (R : Nat → Bool) (a : Nat) : Prop := AtO os a ∧ R a = true
def KO (os : List Ob) (a : Nat) : Nat := match findO os a with | some o => o.row.length | none => 0
section
variable {s : Hs} {os : List Ob} {rts : List Int} {R : Nat → Bool} {m1 : CM}
theorem in_obj (A : Abs s os) {a : Nat} {o : Ob} (h : findO os a = some o) {j : Nat} (hj : j + 1 < o.row.length) : ¬ AtO os (a + 1 + j) := fun hA => by
  obtain ⟨o', ho'⟩ := Option.isSome_iff_exists.1 hA
  have := findO_apart h ho' (by omega); omega
theorem marked_gw (A : Abs s os) (fit : fitAll s.lays os) (hf : ∀ w ∈ rts, fitsO os w = true) (M : Mk (fl s.lays) (AtO os) (memO s.lays os s.words.length rts) R m1) (hc : Closed (fl s.lays) (AtO os) (memO s.lays os s.words.length rts) R)
    (hv : ∀ j, j < rts.length → ∀ a, memO s.lays os s.words.length rts (s.words.length + j) = .ptr a → R a = true) :
    Gw s.words.length rts.length (LO os R) (fun a => flds (fl s.lays) (memO s.lays os s.words.length rts a)) (KO os) m1 := by
  have hle : (rowOf os).length ≤ s.words.length := by rw [← A.top]; exact A.good.top
  have w := memO_wf (rts := rts) A fit
  have key : ∀ {a : Nat}, LO os R a → ∃ o, findO os a = some o ∧ KO os a = o.row.length ∧ flds (fl s.lays) (memO s.lays os s.words.length rts a) = fl s.lays o.sh o.n ∧ fl s.lays o.sh o.n + 1 ≤ o.row.length ∧ (kindAt s.lays o.sh ≠ 3 → fl s.lays o.sh o.n = o.body.length) := fun {a} ha => by
    obtain ⟨o, ho⟩ := Option.isSome_iff_exists.1 ha.1
    obtain ⟨f1, f2, f3, f4⟩ := memO_fields (rts := rts) A ho
    exact ⟨o, ho, by unfold KO; rw [ho], f1, f2, f3⟩
  refine ⟨fun a ha => ?_, fun a ha j hj => ?_, fun i h1 h2 => ?_, fun a ha j h1 h2 => ?_, fun a ha => ?_, fun a ha => ?_, fun a b ha hb hab => ?_⟩
  · obtain ⟨x, y, e⟩ := w.hd a ha.1
    refine ⟨x, y, ?_⟩
    rw [M.mh a x y ha.1 e, ha.2, e]; rfl
  · have hn := w.nohead ha.1 hj
    rw [M.mo _ hn]
    rcases w.fld a ha.1 j hj with h | ⟨b, h1, h2⟩
    · exact .inl h
    · exact .inr ⟨b, h1, h2, hc a ha.1 ha.2 j hj b h1⟩
  · obtain ⟨j, rfl⟩ : ∃ j, i = s.words.length + j := ⟨i - s.words.length, by omega⟩
    have hn : ¬ AtO os (s.words.length + j) := fun h => by have := w.lt _ h; omega
    rw [M.mo _ hn]
    have hm : rts.getD j 1 ∈ rts := by rw [List.getD_eq_getElem?_getD, List.getElem?_eq_getElem (by omega)]; exact List.getElem_mem _
    rw [memO_root]
    rcases fit_ptr (hf _ hm) with ⟨e, _⟩ | ⟨e, _, hA, _⟩
    · exact .inl ⟨_, e⟩
    · exact .inr ⟨_, e, hA, hv j (by omega) _ (by rw [memO_root]; exact e)⟩
  · obtain ⟨o, ho, k1, k2, k3, k4⟩ := key ha
    rw [k1] at h2
    have hn := in_obj A ho h2
    rw [M.mo _ hn]
    have hb : j < o.body.length := by simp [Ob.row] at h2; omega
    have := memO_body (lays := s.lays) (rts := rts) ho hle hb
    rw [Int.toNat_natCast] at this
    have k5 : kindAt s.lays o.sh = 3 := Classical.byContradiction fun k => by have := k4 k; rw [k2] at h1; omega
    rw [this, if_pos k5]; exact ⟨_, rfl⟩
  · obtain ⟨o, ho, k1, k2, k3, k4⟩ := key ha
    rw [k1]; show flds _ _ < _; omega
  · obtain ⟨o, ho, k1, k2, k3, k4⟩ := key ha
    rw [k1]
    have := findO_lt os _ o ho; omega
  · obtain ⟨o, ho, k1, _⟩ := key ha
    obtain ⟨o', ho'⟩ := Option.isSome_iff_exists.1 hb.1
    rw [k1]; exact findO_apart ho ho' hab
theorem marked_rest (A : Abs s os) (fit : fitAll s.lays os) (M : Mk (fl s.lays) (AtO os) (memO s.lays os s.words.length rts) R m1)
    (g : Gw s.words.length rts.length (LO os R) (fun a => flds (fl s.lays) (memO s.lays os s.words.length rts a)) (KO os) m1) :
    Rest (sz := s.words.length) (nr := rts.length) (LO os R) (fun a => flds (fl s.lays) (memO s.lays os s.words.length rts a)) (KO os) R m1 0 (oas s.lays os 0) := by
  have hle : (rowOf os).length ≤ s.words.length := by rw [← A.top]; exact A.good.top
  have w := memO_wf (rts := rts) A fit
  have mem : ∀ o ∈ oas s.lays os 0, ∃ ob, findO os o.a = some ob ∧ o.k = ob.row.length ∧ o.f = fl s.lays ob.sh ob.n ∧ o.s = ob.sh ∧ o.n = ob.n := fun o ho => by
    obtain ⟨a, ob, h1, rfl⟩ := (oas_mem os 0 o).1 ho
    exact ⟨ob, by rw [Nat.zero_add]; exact h1, rfl, rfl, rfl, rfl⟩
  refine ⟨oas_lay os 0 fun o ho => ?_, fun x hx _ => ?_, fun o ho hR => ?_, fun o ho hR => ?_, fun o ho r hs => ?_⟩
  · obtain ⟨a, ha⟩ := mem_find ho
    exact (memO_fields (rts := rts) A ha).2.1
  · obtain ⟨ob, hob⟩ := Option.isSome_iff_exists.1 hx.1
    exact ⟨_, (oas_mem os 0 _).2 ⟨x, ob, hob, rfl⟩, by simp⟩
  · obtain ⟨ob, h1, h2, h3, h4, h5⟩ := mem o ho
    have hA : AtO os o.a := by unfold AtO; rw [h1]; rfl
    obtain ⟨f1, f2, f3, f4⟩ := memO_fields (rts := rts) A h1
    have hh := memO_head (lays := s.lays) (rts := rts) h1 hle
    rw [Int.toNat_natCast] at hh
    refine ⟨⟨hA, hR⟩, by show flds _ _ = _; rw [f1, h3], by unfold KO; rw [h1, h2], ?_⟩
    rw [M.mh _ _ _ hA hh, hR, h4, h5, h3]; rfl
  · obtain ⟨ob, h1, h2, h3, h4, h5⟩ := mem o ho
    have hA : AtO os o.a := by unfold AtO; rw [h1]; rfl
    have hh := memO_head (lays := s.lays) (rts := rts) h1 hle
    rw [Int.toNat_natCast] at hh
    refine ⟨fun h => ?_, ?_⟩
    · have := h.2; rw [hR] at this; cases this
    · rw [M.mh _ _ _ hA hh, hR, h4, h5]; rfl
  · obtain ⟨ob, h1, _⟩ := mem o ho
    have hA : AtO os o.a := by unfold AtO; rw [h1]; rfl
    have hlt := findO_lt os _ ob h1
    have := row_pos ob
    rcases hs with ⟨q1, q2, _⟩ | ⟨a, j, ha, hj, e, _⟩
    · omega
    · have := w.nohead ha.1 hj
      rw [← e] at this
      exact this hA
theorem moved_words {fwd : Nat → Nat} (A : Abs s os) (M : Mk (fl s.lays) (AtO os) (memO s.lays os s.words.length rts) R m1) {m3 : CM} (V : Moved (LO os R) (KO os) m1 fwd (rowOf os).length m3) :
    ∀ (r : List Ob) (p to : Nat), (∀ (a : Nat) o, findO r a = some o → findO os ((p + a : Nat) : Int) = some o) → FwdO R fwd to (oas s.lays r p) → ∀ j, j < (rowOf (newOs s.lays R fwd r p)).length → enc (m3 (to + j)) = (rowOf (newOs s.lays R fwd r p)).getD j 0
  | [], p, to, _, _, j, hj => by simp [newOs, rowOf] at hj
  | o :: r, p, to, hr, hf, j, hj => by
    have hle : (rowOf os).length ≤ s.words.length := by rw [← A.top]; exact A.good.top
    have ho : findO os (p : Int) = some o := hr 0 o (by simp [findO])
    have hA : AtO os p := by unfold AtO; rw [ho]; rfl
    have hx := row_pos o
    have hr' : ∀ (a : Nat) o', findO r a = some o' → findO os ((p + o.row.length + a : Nat) : Int) = some o' := fun a o' h => by
      rw [Nat.add_assoc]
      refine hr (o.row.length + a) o' ?_
      rw [findO, if_neg (by omega), show (((o.row.length + a : Nat) : Int) - o.row.length) = a by omega]
      exact h
    obtain ⟨hf1, hf2⟩ := hf
    rw [newOs] at hj ⊢
    cases hp : R p with
    | false =>
      have hf2 : FwdO R fwd to (oas s.lays r (p + o.row.length)) := by
        have : FwdO R fwd (if R p then to + o.row.length else to) (oas s.lays r (p + o.row.length)) := hf2
        rwa [hp] at this
      rw [hp] at hj
      simp only [Bool.false_eq_true, if_false] at hj ⊢
      exact moved_words A M V r _ to hr' hf2 j hj
    | true =>
      have hf2 : FwdO R fwd (to + o.row.length) (oas s.lays r (p + o.row.length)) := by
        have : FwdO R fwd (if R p then to + o.row.length else to) (oas s.lays r (p + o.row.length)) := hf2
        rwa [hp] at this
      have ef : fwd p = to := hf1 hp
      rw [hp] at hj
      simp only [if_true] at hj ⊢
      rw [rowOf_cons, List.length_append, newB_len] at hj
      rw [rowOf_cons, List.getD_eq_getElem?_getD]
      have hh := memO_head (lays := s.lays) (rts := rts) ho hle
      rw [Int.toNat_natCast] at hh
      have hlt := findO_lt os _ o ho
      have e1 : m1 p = .head o.sh o.n true (fl s.lays o.sh o.n) := by rw [M.mh p _ _ hA hh, hp]; rfl
      obtain ⟨v1, v2⟩ := V p ⟨hA, hp⟩ (by omega) _ _ _ e1
      rw [ef] at v1 v2
      by_cases h1 : j < o.row.length
      · rw [List.getElem?_append_left (by rw [newB_len]; exact h1)]
        cases j with
        | zero =>
          rw [Nat.add_zero, v1]
          have q := need_pos (lays := s.lays) (i := o.sh) (n := o.n) (by rw [A.each o (by obtain ⟨p', q', rfl, _⟩ := findO_split os _ o ho; simp)])
          have := A.good.llen
          show partsN o.sh o.n 0 0 = headN o.sh o.n
          rw [headN_parts, Int.emod_eq_of_lt (by omega) (by omega), Int.emod_eq_of_lt (by omega) (by omega)]
        | succ j =>
          have hb : j < o.body.length := by simp [Ob.row] at h1; omega
          have hn := in_obj A ho (j := j) (by omega)
          have e2 := memO_body (lays := s.lays) (rts := rts) ho hle hb
          rw [Int.toNat_natCast] at e2
          rw [show to + (j + 1) = to + 1 + j by omega, v2 j (by unfold KO; rw [ho]; exact h1), M.mo _ hn, e2]
          have eb : (newB s.lays fwd o).row[j + 1]? = some (if kindAt s.lays o.sh = 3 then o.body.getD j 0 else fwdW fwd (o.body.getD j 0)) := by
            show (headN o.sh o.n :: (newB s.lays fwd o).body)[j + 1]? = _
            rw [List.getElem?_cons_succ, newB]
            simp only
            split
            · rw [List.getD_eq_getElem?_getD, List.getElem?_eq_getElem hb]; rfl
            · rw [List.getElem?_map, List.getD_eq_getElem?_getD, List.getElem?_eq_getElem hb]; rfl
          rw [eb, Option.getD_some]
          split
          · rfl
          · unfold fieldC fwdW
            split <;> rfl
      · rw [List.getElem?_append_right (by rw [newB_len]; omega), newB_len]
        have := moved_words A M V r (p + o.row.length) (to + o.row.length) hr' hf2 (j - o.row.length) (by omega)
        rw [show to + o.row.length + (j - o.row.length) = to + j by omega, List.getD_eq_getElem?_getD] at this
        exact this
end
end Go.Proofs.Ytljkkfcokpimkaa.X
set_option linter.unusedVariables false
set_option linter.unusedSimpArgs false
set_option maxRecDepth 20000
namespace Go.Proofs.Ytljkkfcokpimkaa.X
open Go Go.RowKit
abbrev fw (R : Nat → Bool) (os : List Ob) : Nat → Nat := fwdN R os 0 0
abbrev newO (lays : List (Int × Int)) (R : Nat → Bool) (os : List Ob) : List Ob := newOs lays R (fw R os) os 0
section
variable {s : Hs} {os : List Ob} {rts : List Int} {R : Nat → Bool} {m1 : CM}
theorem collect_plain (A : Abs s os) (fit : fitAll s.lays os) (hf : ∀ w ∈ rts, fitsO os w = true) (M : Mk (fl s.lays) (AtO os) (memO s.lays os s.words.length rts) R m1) (hc : Closed (fl s.lays) (AtO os) (memO s.lays os s.words.length rts) R)
    (hv : ∀ j, j < rts.length → ∀ a, memO s.lays os s.words.length rts (s.words.length + j) = .ptr a → R a = true) :
    ∃ m2 m3, (∀ j, j < rts.length → thrOk (s.words.length + rts.length) (thrs m1 s.words.length j) (s.words.length + j)) ∧
      P1 R (s.words.length + rts.length) (oas s.lays os 0) 0 (thrs m1 s.words.length rts.length) m2 (rowOf (newO s.lays R os)).length ∧
      P2 R (s.words.length + rts.length) (oas s.lays os 0) 0 m2 m3 (rowOf (newO s.lays R os)).length ∧
      (∀ j, j < (rowOf (newO s.lays R os)).length → enc (m3 j) = (rowOf (newO s.lays R os)).getD j 0) ∧ encR m3 s.words.length rts.length = rts.map (fwdW (fw R os)) := by
  have hle : (rowOf os).length ≤ s.words.length := by rw [← A.top]; exact A.good.top
  have g := marked_gw A fit hf M hc hv
  have r := marked_rest A fit M g
  have hF : FwdO R (fw R os) 0 (oas s.lays os 0) := oas_fwd os 0 0 fun _ _ => rfl
  have hend : endO 0 (oas s.lays os 0) = (rowOf os).length := by rw [oas_end]; simp
  have hlv : liveO R 0 (oas s.lays os 0) = (rowOf (newO s.lays R os)).length := by rw [oas_live (fwd := fw R os)]; simp
  obtain ⟨I0, ok⟩ := roots_thr g (fw R os) (Nat.le_refl _)
  obtain ⟨m2, p1, I1⟩ := pass1 g (Nat.le_refl _) _ 0 0 _ r hF I0
  have I2 := first_second g (fun a ha => by
    rw [hend]
    obtain ⟨o, ho⟩ := Option.isSome_iff_exists.1 ha.1
    have := findO_lt os _ o ho; have := row_pos o; omega) I1
  obtain ⟨m3, p2, V, q⟩ := pass2 g (Nat.le_refl _) _ 0 0 _ r (by rw [hend]; exact hle) hF (Nat.le_refl _) (fun a _ h => by omega) I2 (fun a _ h => by omega)
  rw [hlv] at p1 p2
  rw [hend] at V
  refine ⟨m2, m3, ok, p1, p2, fun j hj => ?_, ?_⟩
  · have := moved_words A M V os 0 0 (fun a o h => by rw [Nat.zero_add]; exact h) hF j hj
    rwa [Nat.zero_add] at this
  · apply List.ext_getElem?
    intro i
    by_cases hi : i < rts.length
    · have hn : ¬ AtO os (s.words.length + i) := fun h => by have := (memO_wf (rts := rts) A fit).lt _ h; omega
      rw [encR_get hi, q _ (by omega) (by omega), M.mo _ hn, memO_root, List.getElem?_map, List.getD_eq_getElem?_getD, List.getElem?_eq_getElem hi]
      simp only [Option.getD_some, Option.map_some]
      unfold fieldC fwdW
      split <;> rfl
    · rw [List.getElem?_eq_none (by rw [encR_len]; omega), List.getElem?_eq_none (by rw [List.length_map]; omega)]
theorem new_each (A : Abs s os) : ∀ o ∈ newO s.lays R os, needN s.lays o.sh o.n = ((o.row.length : Int), 0) := fun o ho => by
  obtain ⟨a, ob, h1, h2, rfl⟩ := new_mem os 0 o ho
  rw [newB_len]
  exact A.each ob (by obtain ⟨p, q, rfl, _⟩ := findO_split os _ ob h1; simp)
theorem new_fits {w : Int} (h : fitsO os w = true) (hR : ∀ q, fieldC w = .ptr q → R q = true) : fitsO (newO s.lays R os) (fwdW (fw R os) w) = true := by
  rcases fit_ptr h with ⟨_, e⟩ | ⟨e, hq, hA, e2⟩
  · unfold fwdW fitsO; rw [if_pos e]; simp [e]
  · obtain ⟨o, ho⟩ := Option.isSome_iff_exists.1 hA
    obtain ⟨q1, q2⟩ := new_find (lays := s.lays) (fwd := fw R os) os 0 0 _ o ho (by rw [Nat.zero_add]; exact hR _ e)
    rw [Nat.zero_add] at q2
    unfold fwdW fitsO
    rw [if_neg hq]
    have e3 : ((fw R os (w / 2).toNat : Int) * 2 / 2) = fw R os (w / 2).toNat := by omega
    have e4 : ((fw R os (w / 2).toNat : Int) - ((0 : Nat) : Int)) = fw R os (w / 2).toNat := by omega
    rw [e4] at q2
    rw [e3, q2]; simp
theorem new_fit (A : Abs s os) (fit : fitAll s.lays os) (hc : Closed (fl s.lays) (AtO os) (memO s.lays os s.words.length rts) R) : fitAll s.lays (newO s.lays R os) := fun o ho k3 w hw => by
  have hle : (rowOf os).length ≤ s.words.length := by rw [← A.top]; exact A.good.top
  obtain ⟨a, ob, h1, h2, rfl⟩ := new_mem os 0 o ho
  rw [Nat.zero_add] at h2
  have hob : ob ∈ os := by obtain ⟨p, q, rfl, _⟩ := findO_split os _ ob h1; simp
  have k3 : kindAt s.lays ob.sh ≠ 3 := k3
  simp only [newB, if_neg k3] at hw
  obtain ⟨w0, hw0, rfl⟩ := List.mem_map.1 hw
  refine new_fits (fit ob hob k3 w0 hw0) fun q hq => ?_
  obtain ⟨j, hj⟩ := List.getElem?_of_mem hw0
  have hjl : j < ob.body.length := (List.getElem?_eq_some_iff.1 hj).1
  obtain ⟨f1, f2, f3, f4⟩ := memO_fields (rts := rts) A h1
  refine hc a (by unfold AtO; rw [h1]; rfl) h2 j (by show j < flds _ _; rw [f1, f3 k3]; exact hjl) q ?_
  have := memO_body (lays := s.lays) (rts := rts) h1 hle hjl
  rw [Int.toNat_natCast] at this
  rw [this, if_neg k3, List.getD_eq_getElem?_getD, hj]
  exact hq
theorem new_whole (A : Abs s os) (fit : fitAll s.lays os) (wh : wholeO s.lays os = true) (hc : Closed (fl s.lays) (AtO os) (memO s.lays os s.words.length rts) R) : wholeO s.lays (newO s.lays R os) = true := by
  unfold wholeO
  rw [List.all_eq_true]
  intro o ho
  have hn := new_fit A fit hc o ho
  obtain ⟨a, ob, h1, h2, rfl⟩ := new_mem os 0 o ho
  have hob : ob ∈ os := by obtain ⟨p, q, rfl, _⟩ := findO_split os _ ob h1; simp
  unfold okO
  split
  · rename_i k
    have k : kindAt s.lays ob.sh = 3 := k
    have := List.all_eq_true.1 wh ob hob
    unfold okO at this
    rw [if_pos k] at this
    unfold tailO at this ⊢
    simp only [newB, if_pos k]
    exact this
  · rename_i k
    rw [List.all_eq_true]
    exact hn k
theorem new_close (A : Abs s os) (fit : fitAll s.lays os) (wh : wholeO s.lays os = true) (hc : Closed (fl s.lays) (AtO os) (memO s.lays os s.words.length rts) R) {m3 : CM} (hm : ∀ j, j < (rowOf (newO s.lays R os)).length → enc (m3 j) = (rowOf (newO s.lays R os)).getD j 0) :
    closeO s.lays (encW m3 s.words.length) ((rowOf (newO s.lays R os)).length : Nat) = some (newO s.lays R os) := by
  have hle : (rowOf os).length ≤ s.words.length := by rw [← A.top]; exact A.good.top
  have hle2 := new_len (lays := s.lays) (R := R) (fwd := fw R os) os 0
  generalize hN : newO s.lays R os = N at *
  have hle2 : (rowOf N).length ≤ (rowOf os).length := by rw [← hN]; exact hle2
  have hw : encW m3 s.words.length = rowOf N ++ (encW m3 s.words.length).drop (rowOf N).length := by
    conv => lhs; rw [← List.take_append_drop (rowOf N).length (encW m3 s.words.length)]
    congr 1
    apply List.ext_getElem?
    intro i
    rw [List.getElem?_take]
    by_cases hi : i < (rowOf N).length
    · rw [if_pos hi, encW_get (by omega), hm i hi, List.getD_eq_getElem?_getD, List.getElem?_eq_getElem hi]; rfl
    · rw [if_neg hi, List.getElem?_eq_none (by omega)]
  obtain ⟨k, h1, h2⟩ := parse_go (lays := s.lays) (ws := encW m3 s.words.length) (top := (rowOf N).length) A.good.llen N [] _ ((rowOf N).length + 1) (by rw [List.nil_append]; exact hw) (by rw [List.nil_append]; exact Nat.le_refl _) (by rw [← hN]; exact new_each A) (by omega)
  rw [List.nil_append] at h1 h2
  obtain ⟨k, rfl⟩ : ∃ k', k = k' + 1 := ⟨k - 1, by omega⟩
  have hp : parse s.lays (encW m3 s.words.length) (rowOf N).length ((rowOf N).length + 1) [] = some N := by rw [h1, parse, if_neg (by omega)]
  unfold closeO
  rw [if_neg (by rw [encW_len]; omega), Int.toNat_natCast, hp]
  have := new_whole A fit wh hc
  rw [hN] at this
  simp only [this, if_true]
end
end Go.Proofs.Ytljkkfcokpimkaa.X
set_option linter.unusedVariables false
set_option linter.unusedSimpArgs false
set_option maxRecDepth 20000
namespace Go.Proofs.Ytljkkfcokpimkaa.X
open Go Go.RowKit
section
variable {h : H} {sb b bw bd x : Nat} {B Br : List Nat} {rv : AV} {s : Hs} {nr : Nat} {m : CM}
theorem do1_g (hx : x ∉ bw :: Br) {o : OA} {to : Nat} {K : AV → H → Prop} (G : GAt h sb b bw bd B rv Br s nr m) (gx : h.get x = some (.live [.ptr sb 0] 133 true)) (ho : oaOk s.lays o) (hl : o.a + o.k ≤ s.words.length) (hto : to ≤ 65536) (hok : okW1 (s.words.length + nr) o to m)
    (hK : ∀ h2, Fr (bw :: Br) h h2 → GAt h2 sb b bw bd B rv Br s nr (actW1 o to m) → K (.tup []) h2) : C 111 [.int .i64 o.a, .int .i64 to, .int .u64 (enc (.head o.s o.n true o.f)), .ptr x 0] h K := by
  refine run111 ?_
  have hw := G.g.wlen
  have hhd := ho.okC true (Nat.le_refl o.f)
  have hfn := fl_le (lays := s.lays) o.s o.n
  have hp := need_pos hhd.1
  have ef : o.f = fl s.lays o.s o.n := ho.2
  have cx : ∀ {h' : H}, Fr (bw :: Br) h h' → h'.cell x 0 = some (.ptr sb 0) := fun f => by rw [cell_of (f x _ hx gx)]; rfl
  unfold sh111
  rw [ldA_n, cx (Fr.refl _ _), valA_some]
  refine size_g G hhd fun h1 f1 => ?_
  have t0 : ∀ a c : AV, extA (.tup [a, c]) 0 = some a := fun _ _ => rfl
  have t1 : ∀ a c : AV, extA (.tup [a, c]) 1 = some c := fun _ _ => rfl
  rw [t0, valA_some, t1, valA_some]
  refine loop_r (o.f + 1) (fun c ls h' => ∃ j : Nat, ls = [.int .i64 j] ∧ j ≤ o.f ∧ Fr (bw :: Br) h h' ∧ GAt h' sb b bw bd B rv Br s nr (thrs m (o.a + 1) j) ∧ c = o.f + 1 - j) ⟨0, rfl, by omega, f1.more, G.fr f1, rfl⟩ ?_
  rintro c ls h2 ⟨j, rfl, hj, f2, G2, rfl⟩
  rw [argA_0, b_lss, valA_some, ← ef]
  by_cases q : (j : Int) < o.f
  · have hj' : j < o.f := by omega
    have e1 : IntKind.i64.wrap ((o.a : Int) + 1) = ((o.a + 1 : Nat) : Int) := by rw [i64_id (by omega) (by omega)]; rfl
    have e2 : IntKind.i64.wrap (((o.a + 1 : Nat) : Int) + j) = ((o.a + 1 + j : Nat) : Int) := by rw [i64_id (by omega) (by omega)]; rfl
    have e3 : IntKind.i64.wrap ((j : Int) + 1) = ((j + 1 : Nat) : Int) := by rw [i64_id (by omega) (by omega)]; rfl
    simp only [q, decide_true, condA_t]
    rw [ldA_n, cx f2, valA_some, b_add, e1, valA_some, b_add, e2, valA_some]
    refine thread_g G2 (hok j hj') fun h3 f3 G3 => ?_
    rw [b_add, e3, valA_some]
    exact ⟨o.f + 1 - (j + 1), by omega, j + 1, rfl, by omega, f2.trans f3, G3, rfl⟩
  · have : j = o.f := by omega
    subst this
    simp only [q, decide_false, condA_f]
    exact hK h2 f2 G2
theorem mov_one (m : CM) (a to : Nat) (c : Cell) : mov m a to 1 c = cupd m to c := funext fun y => by
  unfold mov cupd
  split
  · rfl
  · rw [if_neg (by omega)]
theorem mov_step {m : CM} {a to i : Nat} {c : Cell} (h1 : 1 ≤ i) (h2 : to ≤ a) : cupd (mov m a to i c) (to + i) (mov m a to i c (a + i)) = mov m a to (i + 1) c := funext fun y => by
  have e : mov m a to i c (a + i) = m (a + i) := by unfold mov; rw [if_neg (by omega), if_neg (by omega)]
  rw [e]
  by_cases hy : y = to + i
  · rw [hy, cupd_same]; unfold mov; rw [if_neg (by omega), if_pos (by omega)]; congr 1; omega
  · rw [cupd_other _ _ hy]
    unfold mov
    by_cases h3 : y = to
    · rw [if_pos h3, if_pos h3]
    · rw [if_neg h3, if_neg h3]
      by_cases h4 : to < y ∧ y < to + i
      · rw [if_pos h4, if_pos (by omega)]
      · rw [if_neg h4, if_neg (by omega)]
theorem do2_g (hx : x ∉ bw :: Br) {o : OA} {to : Nat} {K : AV → H → Prop} (G : GAt h sb b bw bd B rv Br s nr m) (gx : h.get x = some (.live [.ptr sb 0] 133 true)) (ho : oaOk s.lays o) (hl : o.a + o.k ≤ s.words.length) (hto : to ≤ 65536) (hok : okW2 o to m)
    (hK : ∀ h2, Fr (bw :: Br) h h2 → GAt h2 sb b bw bd B rv Br s nr (actW2 o to m) → K (.tup []) h2) : C 113 [.int .i64 o.a, .int .i64 to, .int .u64 (enc (.head o.s o.n true o.f)), .ptr x 0] h K := by
  refine run113 ?_
  have hw := G.g.wlen
  have hlay := G.g.llen
  have hhd := ho.okC true (Nat.le_refl o.f)
  have hhd2 := ho.okC false (Nat.le_refl o.f)
  have hhd3 := ho.okC false (Nat.zero_le o.f)
  have r1 := enc_range hlay hhd
  have r2 := enc_range hlay hhd2
  have ek : (needN s.lays o.s o.n).1 = (o.k : Int) := by rw [ho.1]
  have hp := need_pos hhd.1
  have hok : to ≤ o.a := hok
  have cx : ∀ {h' : H}, Fr (bw :: Br) h h' → h'.cell x 0 = some (.ptr sb 0) := fun f => by rw [cell_of (f x _ hx gx)]; rfl
  have em := enc_mark hlay hhd false
  have et := enc_turn hlay hhd2 (j := 0) (by omega)
  simp only [Bool.false_eq_true, if_false] at em
  unfold sh113
  rw [ldA_n, cx (Fr.refl _ _), valA_some]
  refine size_g G hhd fun h1 f1 => ?_
  have G1 := G.fr f1
  have c1 := cx f1.more
  have t0 : ∀ a c : AV, extA (.tup [a, c]) 0 = some a := fun _ _ => rfl
  have t1 : ∀ a c : AV, extA (.tup [a, c]) 1 = some c := fun _ _ => rfl
  simp only [t0, valA_some, t1, ldA_n, c1, mark_c r1.1 r1.2, Bool.false_eq_true, if_false, em, againK_t]
  have e0 : (0 : Int) = ((0 : Nat) : Int) := rfl
  rw [e0, turn_c r2.1 r2.2, et]
  simp only [c1, valA_some, againK_t]
  refine store_g G1 (by omega) hhd3 fun h2 f2 G2 => ?_
  rw [ek]
  refine loop_r o.k (fun c ls h' => ∃ i : Nat, ls = [.int .i64 i] ∧ 1 ≤ i ∧ i ≤ o.k ∧ Fr (bw :: Br) h h' ∧ GAt h' sb b bw bd B rv Br s nr (mov m o.a to i (.head o.s o.n false 0)) ∧ c = o.k - i + 1) ⟨1, rfl, by omega, by omega, f1.tr f2, by rw [mov_one]; exact G2, by omega⟩ ?_
  rintro c ls h3 ⟨i, rfl, hi1, hi, f3, G3, rfl⟩
  rw [argA_0, b_lss, valA_some]
  by_cases q : (i : Int) < o.k
  · have e1 : IntKind.i64.wrap ((to : Int) + i) = ((to + i : Nat) : Int) := by rw [i64_id (by omega) (by omega)]; rfl
    have e2 : IntKind.i64.wrap ((o.a : Int) + i) = ((o.a + i : Nat) : Int) := by rw [i64_id (by omega) (by omega)]; rfl
    have e3 : IntKind.i64.wrap ((i : Int) + 1) = ((i + 1 : Nat) : Int) := by rw [i64_id (by omega) (by omega)]; rfl
    simp only [q, decide_true, condA_t]
    simp only [ldA_n, cx f3, valA_some, b_add, e1, e2]
    rw [load_g G3 (show o.a + i < s.words.length + nr by omega)]
    simp only [ldA_n, cx f3, valA_some, againK_t]
    refine store_g G3 (by omega) (G3.ok _ (by omega)) fun h4 f4 G4 => ?_
    rw [mov_step hi1 hok] at G4
    rw [e3]
    exact ⟨o.k - (i + 1) + 1, by omega, i + 1, rfl, by omega, by omega, f3.trans f4, G4, rfl⟩
  · have : i = o.k := by omega
    subst this
    simp only [q, decide_false, condA_f]
    exact hK h3 f3 G3
end
section
variable {h : H} {b bw bd : Nat} {B : List Nat} {s : Hs} {os : List Ob} {rts : List Int}
theorem boxR {h : H} {cs : List AV} {e : Nat} {K : AV → H → Prop} (hl : leaves cs = true) (hK : ∀ b, h.get b = none → K (.ptr b 0) (h.set b (.live cs e true))) : boxA h cs e K := ⟨hl, hK⟩
theorem begin_g (hh : HeapAt h b bw bd B s) (A : Abs s os) (fit : fitAll s.lays os) {r : AV} (hr : Row h r rts.length 1 (wc rts)) (hrr : ∀ w ∈ rts, 0 ≤ w ∧ w < 18446744073709551616) (hl : rts.length ≤ 65536) {K : AV → H → Prop}
    (hno : rts.all (fitsO os) = false → K (.tup [.nilp, .int .i64 1]) h)
    (hyes : rts.all (fitsO os) = true → ∀ h' sb rv Br, Fr [] h h' → (∀ c ∈ sb :: Br, h.get c = none) → GAt h' sb b bw bd B rv Br s rts.length (memO s.lays os s.words.length rts) → K (.tup [.ptr sb 0, .int .i64 0]) h') : C 107 [.ptr b 0, r] h K := by
  refine run107 ?_
  unfold sh107
  rw [b_pn, valA_some, condA_f]
  refine join_r (fun (J : H → Prop) => rts.all (fitsO os) = true → J h) (fun hall => ?_) fun J hJ => ?_
  · have hyes := hyes hall
    refine append_own' (h0 := h) (ty := 25) (esz := 1) (n := 0) (cs := []) (Own.nil h h 25 1) hr.src (by rw [wc_length]; omega) (by decide) rfl (wc_leaves _) (Fr.refl _ _) (by unfold most; omega) fun v h1 o1 f1 _ _ => ?_
    rw [Nat.zero_add, List.nil_append] at o1
    have hh1 := hh.fr0 f1
    rw [top_c hh1]
    obtain ⟨Br, sl, hBr, nd⟩ := o1.slv
    have lv := sl.one
    have efill : fillV [.nilp, .nilsl, .int .i64 0] [(0, 1, .ptr b 0), (1, 1, v), (2, 1, .int .i64 s.top)] = some [.ptr b 0, v, .int .i64 s.top] := by
      rcases sl.2 with ⟨_, e, _⟩ | ⟨_, e, _⟩ <;> subst e <;> simp [fillV, AV.cells, leaves, AV.leaf, overlay]
    simp only [efill, buildA_s, valA_some]
    refine boxR (by simp only [AV.cells, leaves, lv.1]; rfl) fun sb hsb => ?_
    have f2 : Fr [] h1 (h1.set sb (.live (AV.agg [.ptr b 0, v, .int .i64 s.top]).cells 137 true)) := (Fr.refl _ _).set' hsb
    have hal := hh1.alive
    refine hyes _ sb v Br (f1.trans f2) (fun c hc => ?_) ⟨H.get_same .., ?_, ?_, memO_ok A fit hrr fun w hw => List.all_eq_true.1 hall w hw, A.good, fun c hc q => ?_, fun q => ?_, hl⟩
    · rcases List.mem_cons.1 hc with rfl | hc
      · exact f1.free hsb
      · exact (hBr c hc).1
    · rw [memO_words A]; exact hh1.fr0 f2
    · rw [memO_roots fun w hw => (hrr w hw).1]; exact sl.fr f2 (by simp)
    · rcases List.mem_cons.1 hc with rfl | hc
      · exact hal _ q hsb
      · exact hh.alive c q (hBr c hc).1
    · have := (hBr sb q).2; rw [hsb] at this; cases this
  · have hrl := hr.len
    simp only [hrl, valA_some]
    refine loop_r (rts.length + 1) (fun c ls h' => ∃ i : Nat, ls = [.int .i64 i] ∧ i ≤ rts.length ∧ (∀ w ∈ rts.take i, fitsO os w = true) ∧ h' = h ∧ c = rts.length + 1 - i) ⟨0, rfl, by omega, by simp, rfl, rfl⟩ ?_
    rintro c ls h1 ⟨i, rfl, hi, hall, rfl, rfl⟩
    by_cases q : (i : Int) < rts.length
    · have hi' : i < rts.length := by omega
      obtain ⟨w, hw⟩ : ∃ w, rts[i]? = some w := ⟨rts[i], by simp [hi']⟩
      have hwm := List.mem_of_getElem? hw
      have hwr := hrr w hwm
      obtain ⟨bo, oo, t1, t2⟩ := hr.at (i := (i : Int)) (x := .int .u64 w) (by omega) q (by rw [Int.toNat_natCast, wc_get, hw]; rfl)
      have en : IntKind.i64.wrap ((i : Int) + 1) = ((i + 1 : Nat) : Int) := by rw [i64_id (by omega) (by omega)]; rfl
      cases hfw : fitsO os w with
      | true =>
        simp only [go_sem, reduceIte, Nat.reduceAdd, Nat.reduceSub, Nat.reduceMul, Nat.reducePow, Nat.reduceLT, Nat.reduceLeDiff, Nat.reduceEqDiff, Int.reduceAdd, Int.reduceSub, Int.reduceMul, Int.reduceNeg, Int.reducePow, Int.reduceLT, Int.reduceLE, Int.reduceEq, Int.reduceNe, Int.reduceToNat, Int.toNat_natCast, Nat.zero_add, Nat.add_zero, Nat.mul_one, Nat.one_mul, Bool.not_true, Bool.not_false, ne_eq, not_true_eq_false, not_false_eq_true, Bool.false_eq_true, q, t1, t2, fits_a hh A hwr.1 hwr.2, hfw, en]
        refine ⟨rts.length + 1 - (i + 1), by omega, i + 1, rfl, by omega, fun y hy => ?_, rfl⟩
        rw [List.take_add_one, hw] at hy
        rcases List.mem_append.1 hy with hy | hy
        · exact hall y hy
        · simp at hy; subst hy; exact hfw
      | false =>
        simp only [go_sem, reduceIte, Nat.reduceAdd, Nat.reduceSub, Nat.reduceMul, Nat.reducePow, Nat.reduceLT, Nat.reduceLeDiff, Nat.reduceEqDiff, Int.reduceAdd, Int.reduceSub, Int.reduceMul, Int.reduceNeg, Int.reducePow, Int.reduceLT, Int.reduceLE, Int.reduceEq, Int.reduceNe, Int.reduceToNat, Int.toNat_natCast, Nat.zero_add, Nat.add_zero, Nat.mul_one, Nat.one_mul, Bool.not_true, Bool.not_false, ne_eq, not_true_eq_false, not_false_eq_true, Bool.false_eq_true, q, t1, t2, fits_a hh A hwr.1 hwr.2, hfw]
        exact hno (by rw [Bool.eq_false_iff]; intro q; rw [List.all_eq_true.1 q w hwm] at hfw; cases hfw)
    · have : i = rts.length := by omega
      subst this
      simp only [go_sem, reduceIte, Nat.reduceAdd, Nat.reduceSub, Nat.reduceMul, Nat.reducePow, Nat.reduceLT, Nat.reduceLeDiff, Nat.reduceEqDiff, Int.reduceAdd, Int.reduceSub, Int.reduceMul, Int.reduceNeg, Int.reducePow, Int.reduceLT, Int.reduceLE, Int.reduceEq, Int.reduceNe, Int.reduceToNat, Int.toNat_natCast, Nat.zero_add, Nat.add_zero, Nat.mul_one, Nat.one_mul, Bool.not_true, Bool.not_false, ne_eq, not_true_eq_false, not_false_eq_true, Bool.false_eq_true, q]
      rw [List.take_length] at hall
      exact hJ (List.all_eq_true.2 hall)
end
end Go.Proofs.Ytljkkfcokpimkaa.X
set_option linter.unusedVariables false
set_option linter.unusedSimpArgs false
set_option maxRecDepth 20000
namespace Go.Proofs.Ytljkkfcokpimkaa.X
open Go Go.RowKit
theorem Fr.mix {S P : List Nat} {h0 h1 h2 : H} (f : Fr S h0 h1) (f2 : Fr P h1 h2) (hP : ∀ c ∈ P, c ∈ S ∨ h0.get c = none) : Fr S h0 h2 := fun c o hc hg => by
  refine f2 c o (fun q => ?_) (f c o hc hg)
  rcases hP c q with h | h
  · exact hc h
  · rw [h] at hg; cases hg
theorem set_set' {h : H} {b : Nat} {x y : Obj} : (h.set b x).set b y = h.set b y := by
  apply H.ext'; intro k; simp only [H.get_set]; split <;> rfl
section
variable {h : H} {b bw bd : Nat} {B : List Nat} {s : Hs} {os : List Ob} {rts : List Int}
theorem sweep_start (hh : HeapAt h b bw bd B s) (A : Abs s os) (fit : fitAll s.lays os) {r : AV} (hr : Row h r rts.length 1 (wc rts)) (hrr : ∀ w ∈ rts, 0 ≤ w ∧ w < 18446744073709551616) (hl : rts.length ≤ 65536) (R : Nat → Bool) (hR : ∀ a, R a = true ↔ Rch s.lays os rts a)
    {X : AV → H → Prop} {Y : AV → H → Prop}
    (hno : rts.all (fitsO os) = false → ∀ h', Fr [] h h' → X (.int .i64 1) h')
    (hyes : rts.all (fitsO os) = true → ∀ h' x sb rv Br m1, (∀ c ∈ x :: sb :: Br, h.get c = none) → x ∉ bw :: Br → x ≠ sb → Fr (bw :: Br) h h' → h'.get x = some (.live [.ptr sb 0] 133 true) → GAt h' sb b bw bd B rv Br s rts.length m1 → Mk (fl s.lays) (AtO os) (memO s.lays os s.words.length rts) R m1 →
      Closed (fl s.lays) (AtO os) (memO s.lays os s.words.length rts) R → (∀ j, j < rts.length → ∀ a, memO s.lays os s.words.length rts (s.words.length + j) = .ptr a → R a = true) → Y (.ptr x 0) h') :
    C 107 [.ptr b 0, r] h fun t13 h => valA (extA t13 0) h fun t14 h => valA (extA t13 1) h fun t15 h => boxA h [.nilp] 133 fun s6 h => memA (stA h 1 s6 t14) .undef fun _ h => valA (binOp .neq .num t15 (.int .i64 0)) h fun t17 h => condA t17 (X t15 h)
      (valA (ldA h none s6) h fun t19 h => C 108 [t19] h fun t20 h => Y s6 h) := by
  have t0 : ∀ a c : AV, extA (.tup [a, c]) 0 = some a := fun _ _ => rfl
  have t1 : ∀ a c : AV, extA (.tup [a, c]) 1 = some c := fun _ _ => rfl
  have n1 : ((1 : Int) ≠ 0) := by decide
  refine begin_g hh A fit hr hrr hl (fun hall => ?_) fun hall h1 sb rv Br f1 hfr G => ?_
  · rw [t0, valA_some, t1, valA_some]
    refine boxR rfl fun x hx => ?_
    have st : stA (h.set x (.live [.nilp] 133 true)) 1 (.ptr x 0) .nilp = some ((h.set x (.live [.nilp] 133 true)).set x (.live [.nilp] 133 true)) := st_val (H.get_same ..) (by decide) rfl rfl
    rw [st, memA_some, b_neq, valA_some]
    simp only [ne_eq, n1, not_false_eq_true, decide_true, condA_t]
    rw [set_set']
    exact hno hall _ ((Fr.refl _ _).set' hx)
  · rw [t0, valA_some, t1, valA_some]
    refine boxR rfl fun x hx => ?_
    have st : stA (h1.set x (.live [.nilp] 133 true)) 1 (.ptr x 0) (.ptr sb 0) = some ((h1.set x (.live [.nilp] 133 true)).set x (.live [.ptr sb 0] 133 true)) := st_val (H.get_same ..) (by decide) rfl rfl
    rw [st, memA_some, b_neq, valA_some]
    simp only [ne_eq, not_true_eq_false, decide_false, condA_f]
    rw [set_set']
    have f2 : Fr [] h1 (h1.set x (.live [.ptr sb 0] 133 true)) := (Fr.refl _ _).set' hx
    have gx : (h1.set x (.live [.ptr sb 0] 133 true)).get x = some (.live [.ptr sb 0] 133 true) := H.get_same ..
    have G2 := G.fr f2
    have hxal : ∀ c, h1.get c ≠ none → x ≠ c := fun c hc e => hc (by rw [← e]; exact hx)
    have xsb : x ≠ sb := hxal sb (by rw [G.st]; simp)
    have xbw : x ≠ bw := hxal bw (G.hh.alive bw (by simp))
    have xBr : x ∉ Br := fun q => by
      have : h1.get x ≠ none := by
        rcases G.rt.2 with ⟨_, _, e⟩ | ⟨br, _, e, g⟩
        · rw [e] at q; cases q
        · rw [e] at q; simp at q; rw [q, g]; simp
      exact this hx
    have hxS : x ∉ bw :: Br := by simp only [List.mem_cons, not_or]; exact ⟨xbw, xBr⟩
    generalize h1.set x (.live [.ptr sb 0] 133 true) = h2 at f2 gx G2
    rw [ldA_n, cell_of gx]
    show valA (some (.ptr sb 0)) _ _
    rw [valA_some]
    have w := memO_wf (rts := rts) A fit
    have hff : ∀ w ∈ rts, fitsO os w = true := fun w hw => List.all_eq_true.1 hall w hw
    refine marked_g G2 w (R := Rch s.lays os rts) (As := atsO os 0) (fun a ha => (atsO_mem os 0 a).2 (by unfold AtO at ha; simpa using ha)) (rch_goes A) (fun j hj => ?_) fun h3 m1 V f3 G3 M hC hV hd => ?_
    · have hm : rts.getD j 1 ∈ rts := by rw [List.getD_eq_getElem?_getD, List.getElem?_eq_getElem (by omega)]; exact List.getElem_mem _
      rw [memO_root]
      rcases fit_ptr (hff _ hm) with ⟨e, _⟩ | ⟨e, q, hA, _⟩
      · exact .inl ⟨_, e⟩
      · exact .inr ⟨_, e, hA, .root hm q⟩
    · -- what was seen is just what is reached
      have eRV : ∀ a, AtO os a → R a = V a := fun a ha => by
        have h1 : V a = true → R a = true := fun q => (hR a).2 (hV a ha q)
        have h2 : R a = true → V a = true := fun q => rch_least A fit hff hC hd ((hR a).1 q)
        cases hv : V a with
        | true => exact h1 hv
        | false => cases hr' : R a with
          | true => rw [h2 hr'] at hv; cases hv
          | false => rfl
      have M' : Mk (fl s.lays) (AtO os) (memO s.lays os s.words.length rts) R m1 := ⟨fun a x y ha e => by rw [eRV a ha]; exact M.mh a x y ha e, M.mo⟩
      have hC' : Closed (fl s.lays) (AtO os) (memO s.lays os s.words.length rts) R := fun a ha hra j hj c hc => by
        have hcA : AtO os c := by
          rcases w.fld a ha j hj with ⟨_, e⟩ | ⟨c', e, h⟩
          · rw [e] at hc; cases hc
          · rw [e] at hc; injection hc with hc; rw [← hc]; exact h
        rw [eRV c hcA]
        exact hC a ha (by rw [← eRV a ha]; exact hra) j hj c hc
      have hd' : ∀ j, j < rts.length → ∀ a, memO s.lays os s.words.length rts (s.words.length + j) = .ptr a → R a = true := fun j hj a ha => by
        have hm : rts.getD j 1 ∈ rts := by rw [List.getD_eq_getElem?_getD, List.getElem?_eq_getElem (by omega)]; exact List.getElem_mem _
        have hA : AtO os a := by
          rw [memO_root] at ha
          rcases fit_ptr (hff _ hm) with ⟨e, _⟩ | ⟨e, q, hA, _⟩
          · rw [e] at ha; cases ha
          · rw [e] at ha; injection ha with ha; rw [← ha]; exact hA
        rw [eRV a hA]; exact hd j hj a ha
      refine hyes hall h3 x sb rv Br m1 (fun c hc => ?_) hxS xsb ((f1.trans f2).tr f3) (f3 x _ hxS gx) G3 M' hC' hd'
      rcases List.mem_cons.1 hc with rfl | hc
      · exact f1.free hx
      · exact hfr c hc
theorem collect_c (hh : HeapAt h b bw bd B s) (A : Abs s os) (fit : fitAll s.lays os) (wh : wholeO s.lays os = true) {r : AV} (hr : Row h r rts.length 1 (wc rts)) (hrr : ∀ w ∈ rts, 0 ≤ w ∧ w < 18446744073709551616) (hl : rts.length ≤ 65536) (R : Nat → Bool) (hR : ∀ a, R a = true ↔ Rch s.lays os rts a) {K : AV → H → Prop}
    (hno : rts.all (fitsO os) = false → ∀ h', Fr [] h h' → K (.tup [.nilsl, .int .i64 1]) h')
    (hyes : rts.all (fitsO os) = true → ∀ h' v m s', Fr [b, bw] h h' → h.get m = none → HeapAt h' b bw m B s' → Abs s' (newO s.lays R os) → s'.lays = s.lays → s'.words.length = s.words.length → Own h h' 25 1 v rts.length (wc (rts.map (fwdW (fw R os)))) → K (.tup [v, .int .i64 0]) h') :
    C 84 [.ptr b 0, r] h K := by
  refine run84 ?_
  unfold sh84
  have gw := A.good.wlen
  refine sweep_start hh A fit hr hrr hl R hR (fun hall h' f => hno hall h' f) fun hall h1 x sb rv Br m1 hfr hxS hxsb f1 gx G M hC hd => ?_
  have hff : ∀ w ∈ rts, fitsO os w = true := fun w hw => List.all_eq_true.1 hall w hw
  obtain ⟨m2, m3, ok, p1, p2, hm, hroots⟩ := collect_plain A fit hff M hC hd
  have hclose := new_close A fit wh hC hm
  have cx : ∀ {h' : H}, Fr (bw :: Br) h1 h' → h'.cell x 0 = some (.ptr sb 0) := fun f => by rw [cell_of (f x _ hxS gx)]; rfl
  have hoa : ∀ o ∈ oas s.lays os 0, oaOk s.lays o ∧ o.a + o.k ≤ s.words.length := fun o ho => by
    obtain ⟨a, ob, e1, rfl⟩ := (oas_mem os 0 o).1 ho
    have hob : ob ∈ os := by obtain ⟨p, q, rfl, _⟩ := findO_split os _ ob e1; simp
    have hlt := findO_lt os _ ob e1
    have hle : (rowOf os).length ≤ s.words.length := by rw [← A.top]; exact A.good.top
    exact ⟨⟨A.each ob hob, rfl⟩, by show 0 + a + ob.row.length ≤ _; omega⟩
  have hlay : LayO 0 (oas s.lays os 0) := oas_lay os 0 fun o ho => by
    obtain ⟨a, ha⟩ := mem_find ho
    exact (memO_fields (rts := rts) A ha).2.1
  have hend : endO 0 (oas s.lays os 0) = s.top := by rw [oas_end, A.top]; simp
  refine join_r (fun (J : H → Prop) => ∀ h', Fr (bw :: Br) h1 h' → GAt h' sb b bw bd B rv Br s rts.length (thrs m1 s.words.length rts.length) → J h') (fun h2 f2 G2 => ?_) fun J hJ => ?_
  · rw [ldA_n, cx f2, valA_some]
    refine live_g hxS (fun h m o to K G gx ho hl hto hok hK => do1_g hxS G gx ho hl hto hok hK) G2 (f2 x _ hxS gx) (fun o ho => (hoa o ho).1) hlay hend p1 (fun o ho => (hoa o ho).2) fun h3 f3 G3 => ?_
    have f13 := f2.trans f3
    rw [ldA_n, cx f13, valA_some]
    refine live_g hxS (fun h m o to K G gx ho hl hto hok hK => do2_g hxS G gx ho hl hto hok hK) G3 (f13 x _ hxS gx) (fun o ho => (hoa o ho).1) hlay hend p2 (fun o ho => (hoa o ho).2) fun h4 f4 G4 => ?_
    have f14 := f13.trans f4
    have c1 : h4.cell sb 1 = some rv := by rw [cell_of G4.st]; rfl
    simp only [ldA_n, cx f14, valA_some, nilcA_p, faA_p, Nat.zero_add, c1]
    have cl := hclose
    refine close_c G4.hh G4.good _ (fun q => ?_) fun os' q h5 mm s' f5 hmm hh' A' e1 e2 => ?_
    · have q : closeO s.lays (encW m3 s.words.length) ((rowOf (newO s.lays R os)).length : Nat) = none := q
      rw [cl] at q; cases q
    · have q : closeO s.lays (encW m3 s.words.length) ((rowOf (newO s.lays R os)).length : Nat) = some os' := q
      rw [cl] at q
      injection q with q
      subst q
      -- what is kept
      have xb : x ∉ [b, bw] := fun q => by
        have hal := hh.alive x (by simp at q ⊢; rcases q with q | q <;> simp [q])
        exact hal (hfr x (by simp))
      have sbb : sb ∉ [b, bw] := fun q => by
        have hal := hh.alive sb (by simp at q ⊢; rcases q with q | q <;> simp [q])
        exact hal (hfr sb (by simp))
      have cx5 : h5.cell x 0 = some (.ptr sb 0) := by rw [cell_of (f5 x _ xb (f14 x _ hxS gx))]; rfl
      have c5 : h5.cell sb 1 = some rv := by rw [cell_of (f5 sb _ sbb G4.st)]; rfl
      simp only [cx5, c5, valA_some, againK_t]
      have hBr : ∀ c ∈ Br, h.get c = none := fun c hc => hfr c (by simp [hc])
      have F : Fr [b, bw] h h5 := by
        have a1 : Fr [b, bw] h h1 := (Fr.refl _ _).mix f1 fun c hc => by
          rcases List.mem_cons.1 hc with rfl | hc
          · exact .inl (by simp)
          · exact .inr (hBr c hc)
        have a2 : Fr [b, bw] h h4 := a1.mix f14 fun c hc => by
          rcases List.mem_cons.1 hc with rfl | hc
          · exact .inl (by simp)
          · exact .inr (hBr c hc)
        exact a2.trans f5
      refine hyes hall h5 rv mm s' F ?_ hh' A' e1 (by rw [e2]; exact encW_len ..) ⟨by rw [wc_length, List.length_map]; omega, ?_⟩
      · cases hg : h.get mm with
        | none => rfl
        | some o =>
          exfalso
          by_cases hb2 : mm ∈ [b, bw]
          · have := G4.hh.alive mm (by simp at hb2 ⊢; rcases hb2 with q | q <;> simp [q])
            exact this hmm
          · have a1 : Fr [b, bw] h h1 := (Fr.refl _ _).mix f1 fun c hc => by
              rcases List.mem_cons.1 hc with rfl | hc
              · exact .inl (by simp)
              · exact .inr (hBr c hc)
            have a2 : Fr [b, bw] h h4 := a1.mix f14 fun c hc => by
              rcases List.mem_cons.1 hc with rfl | hc
              · exact .inl (by simp)
              · exact .inr (hBr c hc)
            rw [a2 mm o hb2 hg] at hmm; cases hmm
      · rcases G4.rt.2 with ⟨z, e, _⟩ | ⟨br, e, eB, g⟩
        · exact .inl ⟨z, e⟩
        · refine .inr ⟨br, e, hBr br (by simp [eB]), ?_⟩
          have hbr : br ∉ [b, bw] := fun q => by
            have hal := hh.alive br (by simp at q ⊢; rcases q with q | q <;> simp [q])
            exact hal (hBr br (by simp [eB]))
          rw [f5 br _ hbr g, hroots]
  · have c1 : h1.cell sb 1 = some rv := by rw [cell_of G.st]; rfl
    have c0 : h1.cell x 0 = some (.ptr sb 0) := cx (Fr.refl _ _)
    simp only [ldA_n, c0, valA_some, nilcA_p, faA_p, Nat.zero_add, c1, G.rt.row.len]
    refine loop_r (rts.length + 1) (fun c ls h' => ∃ i : Nat, ls = [.int .i64 i] ∧ i ≤ rts.length ∧ Fr (bw :: Br) h1 h' ∧ GAt h' sb b bw bd B rv Br s rts.length (thrs m1 s.words.length i) ∧ c = rts.length + 1 - i) ⟨0, rfl, by omega, Fr.refl _ _, G, rfl⟩ ?_
    rintro c ls h2 ⟨i, rfl, hi, f2, G2, rfl⟩
    by_cases q : (i : Int) < rts.length
    · have wl : (encW (thrs m1 s.words.length i) s.words.length).length = s.words.length := encW_len ..
      have e1 : IntKind.i64.wrap ((s.words.length : Int) + i) = ((s.words.length + i : Nat) : Int) := by rw [i64_id (by omega) (by omega)]; rfl
      have en : IntKind.i64.wrap ((i : Int) + 1) = ((i + 1 : Nat) : Int) := by rw [i64_id (by omega) (by omega)]; rfl
      simp only [argA_0, b_lss, valA_some, q, decide_true, condA_t, ldA_n, cx f2, size_c G2.hh, wl, againK_t, b_add, e1]
      refine thread_g G2 (ok i (by omega)) fun h3 f3 G3 => ?_
      rw [en]
      exact ⟨rts.length + 1 - (i + 1), by omega, i + 1, rfl, by omega, f2.trans f3, G3, rfl⟩
    · have : i = rts.length := by omega
      subst this
      simp only [argA_0, b_lss, valA_some, q, decide_false, condA_f]
      exact hJ h2 f2 G2
end
end Go.Proofs.Ytljkkfcokpimkaa.X
set_option linter.unusedVariables false
set_option linter.unusedSimpArgs false
set_option maxRecDepth 20000
namespace Go.Proofs.Ytljkkfcokpimkaa.X
open Go Go.RowKit
def markedL (R : Nat → Bool) : List Ob → Nat → List Nat
  | [], _ => []
  | o :: os, p => (if R p then [p] else []) ++ markedL R os (p + o.row.length)
def FrN (h h' : H) : Prop := ∀ c cs e w, e ≠ 3 → h.get c = some (.live cs e w) → h'.get c = some (.live cs e w)
def H.nothing : H := ⟨fun _ => none, 0, fun _ _ => rfl⟩
section
variable {h : H} {sb b bw bd : Nat} {B Br : List Nat} {rv : AV} {s : Hs} {nr : Nat} {m : CM}
theorem HeapAt.frN {h' : H} (hh : HeapAt h b bw bd B s) (f : FrN h h') : HeapAt h' b bw bd B s := by
  obtain ⟨⟨lv, h1, h2⟩, h3, h4, h5⟩ := hh
  refine ⟨⟨lv, f _ _ _ _ (by decide) h1, ?_⟩, f _ _ _ _ (by decide) h3, f _ _ _ _ (by decide) h4, h5⟩
  rcases h2 with q | ⟨bl, q1, q2, q3⟩
  · exact .inl q
  · exact .inr ⟨bl, q1, q2, f _ _ _ _ (by decide) q3⟩
theorem GAt.frN {h' : H} (G : GAt h sb b bw bd B rv Br s nr m) (f : FrN h h') : GAt h' sb b bw bd B rv Br s nr m := by
  refine ⟨f _ _ _ _ (by decide) G.st, G.hh.frN f, ⟨G.rt.1, ?_⟩, G.ok, G.g, G.ap, G.sr, G.nl⟩
  rcases G.rt.2 with q | ⟨br, q1, q2, q3⟩
  · exact .inl q
  · exact .inr ⟨br, q1, q2, f _ _ _ _ (by decide) q3⟩
theorem nc_append (a b : List Nat) : nc (a ++ b) = nc a ++ nc b := by simp [nc]
theorem nc_len (a : List Nat) : (nc a).length = a.length := by simp [nc]
theorem nc_leaves (l : List Nat) : leaves (nc l) = true := leaves_map _ (fun _ => rfl) l
theorem tell_g {hb : H} {x y : Nat} {v : AV} {L : List Nat} (hx : x ∉ bw :: Br) (hy : y ∉ bw :: Br) (hyx : y ≠ x) (hyb : hb.get y = none) (hBr : ∀ c ∈ Br, hb.get c = none) (G : GAt h sb b bw bd B rv Br s nr m) (gx : h.get x = some (.live [.ptr sb 0] 133 true)) (gy : h.get y = some (.live [v] 63 true)) (ov : Own hb h 3 1 v L.length (nc L)) (f : Fr [bw] hb h)
    {a k : Nat} {s' n : Int} {mk : Bool} (hc : okC s.lays (.head s' n mk k)) (ha : a < s.words.length) (hL : L.length ≤ 65536) {sz : AV} {K : AV → H → Prop}
    (hK : ∀ h' v' m', Fr [bw] hb h' → GAt h' sb b bw bd B rv Br s nr m' → (m' = if mk then cupd m a (.head s' n false 0) else m) → h'.get x = some (.live [.ptr sb 0] 133 true) → h'.get y = some (.live [v'] 63 true) → Own hb h' 3 1 v' (L ++ if mk then [a] else []).length (nc (L ++ if mk then [a] else [])) → K (.tup []) h') :
    C 117 [.int .i64 a, .int .u64 (enc (.head s' n mk k)), sz, .ptr y 0, .ptr x 0] h K := by
  refine run117 ?_
  have hlay := G.g.llen
  have r := enc_range hlay hc
  have hc2 : okC s.lays (.head s' n false k) := hc
  have hc3 : okC s.lays (.head s' n false 0) := ⟨hc.1, by omega⟩
  have r2 := enc_range hlay hc2
  unfold sh117
  rw [marked_c r.1 r.2, enc_marked hlay hc]
  cases mk with
  | false =>
    simp only [condA_f]
    refine hK h v m f G rfl gx gy ?_
    simpa using ov
  | true =>
    simp only [condA_t]
    have cy : h.cell y 0 = some v := by rw [cell_of gy]; rfl
    rw [ldA_n, cy, valA_some]
    have ef : fillV [AV.int .i64 0] [(0, 1, .int .i64 a)] = some [.int .i64 a] := rfl
    rw [ef]
    -- what is alive stays alive
    have hal : ∀ c, hb.get c ≠ none → h.get c ≠ none := fun c hc' => by
      by_cases e : c = bw
      · rw [e]; exact G.hh.alive bw (by simp)
      · obtain ⟨o, ho⟩ := Option.ne_none_iff_exists'.1 hc'
        rw [f c o (by simpa using e) ho]; simp
    have ovE : Own H.nothing h 3 1 v L.length (nc L) := by
      refine ⟨ov.1, ?_⟩
      rcases ov.2 with q | ⟨b', q1, q2, q3⟩
      · exact .inl q
      · exact .inr ⟨b', q1, rfl, q3⟩
    refine append_one' (h0 := H.nothing) ovE rfl (by decide) (nc_leaves L) rfl (fun c o _ hg => by cases hg) (by unfold most; omega) fun v1 h1 o1 _ k1 w1 => ?_
    obtain ⟨b1, e1, hb1⟩ := w1
    have fN : FrN h h1 := fun c cs e w he hg => k1 c _ hg (Own.ne ovE hg (fun q => he q.symm))
    have G1 := G.frN fN
    have gx1 := fN x _ _ _ (by decide) gx
    have gy1 := fN y _ _ _ (by decide) gy
    have lv1 := o1.row.one
    have st : stA h1 1 (.ptr y 0) v1 = some (h1.set y (.live [v1] 63 true)) := st_val gy1 (by simp) lv1.1 lv1.2
    rw [st, memA_some]
    have hb1n : hb.get b1 = none := by
      cases hg : hb.get b1 with
      | none => rfl
      | some o => exact absurd hb1 (hal b1 (by rw [hg]; simp))
    have o1g : h1.get b1 = some (.live (nc L ++ [.int .i64 a]) 3 true) := by
      rcases o1.2 with ⟨z, _⟩ | ⟨b2, q1, _, q3⟩
      · omega
      · rw [e1] at q1; injection q1 with q1; rw [q1]; exact q3
    have yb1 : y ≠ b1 := fun e => by rw [← e, gy] at hb1; cases hb1
    have f1 : Fr [bw] hb h1 := fun c o hc' hg => by
      have hg1 := f c o hc' hg
      refine k1 c o hg1 fun n' p e => ?_
      rcases ov.2 with ⟨_, q⟩ | ⟨b', q1, q2, q3⟩
      · rw [q] at e; cases e
      · rw [q1] at e; injection e with e; rw [← e, q2] at hg; cases hg
    have f2 : Fr [bw] hb (h1.set y (.live [v1] 63 true)) := f1.set' hyb
    have fy : Fr [y] h1 (h1.set y (.live [v1] 63 true)) := Fr.put (by simp)
    have alH : ∀ c ∈ b :: bw :: bd :: B, c ≠ y := fun c hc' e => by
      have a1 : h1.get c ≠ none := G1.hh.alive c hc'
      rcases List.mem_cons.1 hc' with q | hc'
      · have := G1.hh.st; obtain ⟨lv, g, _⟩ := this; rw [← q, e, gy1] at g; injection g with g; injection g with _ g _; cases g
      · rcases List.mem_cons.1 hc' with q | hc'
        · exact hy (by rw [← e, q]; simp)
        · rcases List.mem_cons.1 hc' with q | hc'
          · have g := G1.hh.hd; rw [← q, e, gy1] at g; injection g with g; injection g with _ g _; cases g
          · obtain ⟨lv, g, g2⟩ := G1.hh.st
            rcases g2 with ⟨_, _, q⟩ | ⟨bl, _, q2, q3⟩
            · rw [q] at hc'; cases hc'
            · rw [q2] at hc'; simp at hc'; rw [← hc', e, gy1] at q3; injection q3 with q3; injection q3 with _ q3 _; cases q3
    have ysb : sb ≠ y := fun e => by have g := G1.st; rw [e, gy1] at g; injection g with g; injection g with _ g _; cases g
    have G2 := G1.fr' fy (fun c hc' => by
      rcases List.mem_cons.1 hc' with q | hc'
      · rw [q]; simpa using ysb
      · intro q; simp at q; exact hy (by rw [← q]; simp [hc'])) (fun c hc' q => by simp at q; exact alH c hc' q)
    have gx2 : (h1.set y (.live [v1] 63 true)).get x = some (.live [.ptr sb 0] 133 true) := by rw [H.get_other _ _ (fun e => hyx e.symm)]; exact gx1
    have gy2 : (h1.set y (.live [v1] 63 true)).get y = some (.live [v1] 63 true) := H.get_same ..
    have o2g : (h1.set y (.live [v1] 63 true)).get b1 = some (.live (nc L ++ [.int .i64 a]) 3 true) := by rw [H.get_other _ _ (fun e => yb1 e.symm)]; exact o1g
    generalize h1.set y (.live [v1] 63 true) = h2 at *
    have cx2 : h2.cell x 0 = some (.ptr sb 0) := by rw [cell_of gx2]; rfl
    have em := enc_mark hlay hc false
    have et := enc_turn hlay hc2 (j := 0) (by omega)
    simp only [Bool.false_eq_true, if_false] at em
    have e0 : (0 : Int) = ((0 : Nat) : Int) := rfl
    simp only [ldA_n, cx2, valA_some, mark_c r.1 r.2, Bool.false_eq_true, if_false, em, againK_t]
    rw [e0, turn_c r2.1 r2.2, et]
    simp only [cx2, valA_some, againK_t]
    refine store_g G2 (by omega) hc3 fun h3 f3 G3 => ?_
    have hb1S : b1 ∉ bw :: Br := fun q => by
      rcases List.mem_cons.1 q with q | q
      · have g := G2.hh.wd; rw [← q, o2g] at g; injection g with g; injection g with _ g _; cases g
      · rcases G2.rt.2 with ⟨_, _, e⟩ | ⟨br, _, e, g⟩
        · rw [e] at q; cases q
        · rw [e] at q; simp at q; rw [← q, o2g] at g; injection g with g; injection g with _ g _; cases g
    refine hK h3 v1 _ (f2.mix f3 fun c hc' => ?_) G3 rfl (f3 x _ hx gx2) (f3 y _ hy gy2) ?_
    · rcases List.mem_cons.1 hc' with rfl | hc'
      · exact .inl (by simp)
      · exact .inr (hBr c hc')
    · simp only [if_true]
      rw [nc_append, List.length_append]
      refine ⟨by rw [List.length_append, nc_len]; simp [nc], .inr ⟨b1, by rw [e1]; rfl, hb1n, ?_⟩⟩
      exact f3 b1 _ hb1S o2g
end
section
variable {h : H} {b bw bd : Nat} {B : List Nat} {s : Hs} {os : List Ob} {rts : List Int}
theorem marks_c (hh : HeapAt h b bw bd B s) (A : Abs s os) (fit : fitAll s.lays os) {r : AV} (hr : Row h r rts.length 1 (wc rts)) (hrr : ∀ w ∈ rts, 0 ≤ w ∧ w < 18446744073709551616) (hl : rts.length ≤ 65536) (R : Nat → Bool) (hR : ∀ a, R a = true ↔ Rch s.lays os rts a) {K : AV → H → Prop}
    (hno : rts.all (fitsO os) = false → ∀ h', Fr [] h h' → K (.tup [.nilsl, .int .i64 1]) h')
    (hyes : rts.all (fitsO os) = true → ∀ h' v, Fr [bw] h h' → HeapAt h' b bw bd B s → Own h h' 3 1 v (markedL R os 0).length (nc (markedL R os 0)) → K (.tup [v, .int .i64 0]) h') :
    C 87 [.ptr b 0, r] h K := by
  refine run87 ?_
  unfold sh87
  have gw := A.good.wlen
  have hle : (rowOf os).length ≤ s.words.length := by rw [← A.top]; exact A.good.top
  refine sweep_start hh A fit hr hrr hl R hR (fun hall h' f => hno hall h' f) fun hall h1 x sb rv Br m1 hfr hxS hxsb f1 gx G M hC hd => ?_
  have hff : ∀ w ∈ rts, fitsO os w = true := fun w hw => List.all_eq_true.1 hall w hw
  have w := memO_wf (rts := rts) A fit
  have okM := memO_ok A fit hrr hff
  refine boxR rfl fun y hy => ?_
  have fy : Fr [] h1 (h1.set y (.live [.nilsl] 63 true)) := (Fr.refl _ _).set' hy
  have gy : (h1.set y (.live [.nilsl] 63 true)).get y = some (.live [.nilsl] 63 true) := H.get_same ..
  have G2 := G.fr fy
  have gx2 := fy x _ (by simp) gx
  have hyal : ∀ c, h1.get c ≠ none → y ≠ c := fun c hc e => hc (by rw [← e]; exact hy)
  have hyx : y ≠ x := hyal x (by rw [gx]; simp)
  have hyS : y ∉ bw :: Br := by
    simp only [List.mem_cons, not_or]
    refine ⟨hyal bw (G.hh.alive bw (by simp)), fun q => ?_⟩
    have : h1.get y ≠ none := by
      rcases G.rt.2 with ⟨_, _, e⟩ | ⟨br, _, e, g⟩
      · rw [e] at q; cases q
      · rw [e] at q; simp at q; rw [q, g]; simp
    exact this hy
  have hBr : ∀ c ∈ Br, h.get c = none := fun c hc => hfr c (by simp [hc])
  have F1 : Fr [bw] h h1 := (Fr.refl _ _).mix f1 fun c hc => by
    rcases List.mem_cons.1 hc with rfl | hc
    · exact .inl (by simp)
    · exact .inr (hBr c hc)
  have F2 : Fr [bw] h (h1.set y (.live [.nilsl] 63 true)) := F1.trans fy.more
  have hy0 : h.get y = none := by
    cases hg : h.get y with
    | none => rfl
    | some o =>
      by_cases e : y = bw
      · exact absurd (by rw [e]; simp) hyS
      · rw [F1 y o (by simpa using e) hg] at hy; cases hy
  generalize h1.set y (.live [.nilsl] 63 true) = h2 at fy gy G2 gx2 F2
  have cx2 : h2.cell x 0 = some (.ptr sb 0) := by rw [cell_of gx2]; rfl
  rw [ldA_n, cx2, valA_some]
  -- all objects, one by one
  have each : ∀ K' : AV → H → Prop, (∀ h3 v, Fr [bw] h h3 → GAt h3 sb b bw bd B rv Br s rts.length (memO s.lays os s.words.length rts) → h3.get y = some (.live [v] 63 true) → Own h h3 3 1 v (markedL R os 0).length (nc (markedL R os 0)) → K' (.tup []) h3) → C 116 [.ptr sb 0, .fn 117 [] [.ptr y 0, .ptr x 0]] h2 K' := fun K' hK' => by
    refine run116 ?_
    unfold sh116
    let mm : Nat → CM := fun p i => if i < p then memO s.lays os s.words.length rts i else m1 i
    have mm0 : mm 0 = m1 := funext fun i => by show (if i < 0 then _ else _) = _; rw [if_neg (by omega)]
    refine loop_r (os.length + 1) (fun c ls h' => ∃ (q : List Ob) (p : Nat) (v : AV) (L : List Nat), ls = [.int .i64 p] ∧ (∀ (a : Nat) o, findO q a = some o → findO os ((p + a : Nat) : Int) = some o) ∧ p + (rowOf q).length = (rowOf os).length ∧ markedL R os 0 = L ++ markedL R q p ∧ L.length + q.length ≤ os.length ∧ Fr [bw] h h' ∧
      GAt h' sb b bw bd B rv Br s rts.length (mm p) ∧ h'.get x = some (.live [.ptr sb 0] 133 true) ∧ h'.get y = some (.live [v] 63 true) ∧ Own h h' 3 1 v L.length (nc L) ∧ c = q.length + 1)
      ⟨os, 0, .nilsl, [], rfl, fun a o h => by rw [Nat.zero_add]; exact h, by omega, rfl, by simp, F2, by rw [mm0]; exact G2, gx2, gy, Own.nil _ _ _ _, rfl⟩ ?_
    rintro c ls h3 ⟨q, p, v, L, rfl, hq, hlen, hml, hLl, f3, G3, gx3, gy3, ov, rfl⟩
    have c2 : h3.cell sb 2 = some (.int .i64 s.top) := by rw [cell_of G3.st]; rfl
    simp only [argA_0, nilcA_p, valA_some, faA_p, ldA_n, Nat.zero_add, c2, b_lss]
    cases q with
    | nil =>
      have hp : p = s.top := by rw [A.top]; simpa [rowOf] using hlen
      have n1 : ¬ ((p : Int) < s.top) := by omega
      simp only [n1, decide_false, condA_f]
      have eL : markedL R os 0 = L := by rw [hml]; simp [markedL]
      rw [eL] at hK'
      refine hK' h3 v f3 ?_ gy3 ov
      have : mm p = memO s.lays os s.words.length rts := funext fun i => by
        show (if i < p then _ else _) = _
        split
        · rfl
        · rename_i hi
          refine M.mo i fun hA => ?_
          obtain ⟨o, ho⟩ := Option.isSome_iff_exists.1 hA
          have := findO_lt os _ o ho; have := row_pos o
          rw [A.top] at hp; omega
      rw [← this]; exact G3
    | cons o q =>
      have hx := row_pos o
      rw [rowOf_cons, List.length_append] at hlen
      have ho : findO os (p : Int) = some o := hq 0 o (by simp [findO])
      have hA : AtO os p := by unfold AtO; rw [ho]; rfl
      have hom : o ∈ os := by obtain ⟨p', q', e, _⟩ := findO_split os _ o ho; rw [e]; simp
      have hol := os_le os
      have n1 : (p : Int) < s.top := by have := A.top; omega
      have hp1 : p < s.words.length := by omega
      simp only [n1, decide_true, condA_t]
      rw [load_g G3 (show p < s.words.length + rts.length by omega)]
      have hh0 := memO_head (lays := s.lays) (rts := rts) ho hle
      rw [Int.toNat_natCast] at hh0
      have emp : mm p p = .head o.sh o.n (R p) (if R p then fl s.lays o.sh o.n else 0) := by
        show (if p < p then _ else _) = _
        rw [if_neg (by omega)]; exact M.mh p _ _ hA hh0
      have okp := G3.ok p (by omega)
      rw [emp] at okp ⊢
      refine size_g G3 okp fun h4 f4 => ?_
      have t0 : ∀ a c : AV, extA (.tup [a, c]) 0 = some a := fun _ _ => rfl
      have t1 : ∀ a c : AV, extA (.tup [a, c]) 1 = some c := fun _ _ => rfl
      rw [t0, valA_some, t1, valA_some, callvA_f]
      simp only [List.nil_append, List.cons_append]
      have G4 := G3.fr f4
      refine tell_g (hb := h) hxS hyS hyx hy0 hBr G4 (f4 x _ (by simp) gx3) (f4 y _ (by simp) gy3) (ov.keep fun c n' p' _ ob hg => f4 c ob (by simp) hg) (f3.trans f4.more) okp hp1 (by omega) fun h5 v5 m5 f5 G5 em5 gx5 gy5 ov5 => ?_
      have enk : (needN s.lays o.sh o.n).1 = (o.row.length : Int) := by rw [A.each o hom]
      have e1 : IntKind.i64.wrap ((p : Int) + o.row.length) = ((p + o.row.length : Nat) : Int) := by rw [i64_id (by omega) (by omega)]; omega
      rw [enk, b_add, e1, valA_some]
      refine ⟨q.length + 1, by simp, q, p + o.row.length, v5, L ++ (if R p then [p] else []), rfl, fun a o' h' => ?_, by omega, ?_, ?_, f5, ?_, gx5, gy5, ov5, rfl⟩
      · rw [Nat.add_assoc]
        refine hq (o.row.length + a) o' ?_
        rw [findO, if_neg (by omega), show (((o.row.length + a : Nat) : Int) - o.row.length) = a by omega]
        exact h'
      · rw [hml, markedL, List.append_assoc]
      · rw [List.length_append]
        have : (if R p = true then [p] else []).length ≤ 1 := by split <;> simp
        simp only [List.length_cons] at hLl
        omega
      · have : mm (p + o.row.length) = m5 := by
          rw [em5]
          funext i
          show (if i < p + o.row.length then _ else _) = _
          have inner : i ≠ p → (if i < p + o.row.length then memO s.lays os s.words.length rts i else m1 i) = mm p i := fun hne => by
            show _ = (if i < p then _ else _)
            by_cases h1 : i < p
            · rw [if_pos h1, if_pos (by omega)]
            · rw [if_neg h1]
              by_cases h2 : i < p + o.row.length
              · rw [if_pos h2]
                have := in_obj A ho (j := i - p - 1) (by omega)
                rw [show p + 1 + (i - p - 1) = i by omega] at this
                exact (M.mo i this).symm
              · rw [if_neg h2]
          by_cases hip : i = p
          · subst hip
            rw [if_pos (by omega), hh0]
            cases hRp : R i with
            | true => simp only [if_true]; rw [cupd_same]
            | false =>
              simp only [Bool.false_eq_true, if_false]
              rw [emp, hRp]; rfl
          · rw [inner hip]
            cases hRp : R p with
            | true => simp only [if_true]; rw [cupd_other _ _ hip]
            | false => simp only [Bool.false_eq_true, if_false]
        rw [this]; exact G5
  refine each _ fun h3 v f3 G3 gy3 ov => ?_
  have cy : h3.cell y 0 = some v := by rw [cell_of gy3]; rfl
  rw [ldA_n, cy, valA_some]
  refine hyes hall h3 v f3 ?_ ov
  have := G3.hh
  rwa [memO_words A] at this
end
end Go.Proofs.Ytljkkfcokpimkaa.X
set_option linter.unusedVariables false
set_option linter.unusedSimpArgs false
set_option maxRecDepth 20000
namespace Go.Proofs.Ytljkkfcokpimkaa.X
open Go Go.RowKit
theorem marked_at (R : Nat → Bool) {os : List Ob} : ∀ (q : List Ob) (p : Nat), (∀ (a : Nat) o, findO q a = some o → findO os ((p + a : Nat) : Int) = some o) → ∀ a ∈ markedL R q p, AtO os a ∧ R a = true
  | [], p, _, a, h => by cases h
  | o :: q, p, hq, a, h => by
    have hx := row_pos o
    rw [markedL] at h
    rcases List.mem_append.1 h with h | h
    · cases hR : R p with
      | false => rw [hR] at h; cases h
      | true =>
        rw [hR] at h
        simp at h
        subst h
        refine ⟨?_, hR⟩
        have := hq 0 o (by simp [findO])
        unfold AtO
        rw [Nat.add_zero] at this
        rw [this]; rfl
    · refine marked_at R q (p + o.row.length) (fun a o' h' => ?_) a h
      rw [Nat.add_assoc]
      refine hq (o.row.length + a) o' ?_
      rw [findO, if_neg (by omega), show (((o.row.length + a : Nat) : Int) - o.row.length) = a by omega]
      exact h'
theorem marked_sum (lays : List (Int × Int)) (R : Nat → Bool) (f : Nat → Nat) {os : List Ob} : ∀ (q : List Ob) (p : Nat), (∀ (a : Nat) o, findO q a = some o → findO os ((p + a : Nat) : Int) = some o) → ((markedL R q p).map (KO os)).sum = (rowOf (newOs lays R f q p)).length
  | [], p, _ => rfl
  | o :: q, p, hq => by
    have hx := row_pos o
    have ih := marked_sum lays R f q (p + o.row.length) fun a o' h' => by
      rw [Nat.add_assoc]
      refine hq (o.row.length + a) o' ?_
      rw [findO, if_neg (by omega), show (((o.row.length + a : Nat) : Int) - o.row.length) = a by omega]
      exact h'
    have h0 := hq 0 o (by simp [findO])
    rw [Nat.add_zero] at h0
    have hk : KO os p = o.row.length := by unfold KO; rw [h0]
    rw [markedL, newOs, List.map_append, List.sum_append, ih]
    cases R p with
    | true => simp only [if_true, rowOf_cons, List.length_append, newB_len, List.map_cons, List.map_nil, List.sum_cons, List.sum_nil, hk]; omega
    | false => simp only [Bool.false_eq_true, if_false, List.map_nil, List.sum_nil]; omega
theorem sum_take_succ {α : Type} (f : α → Nat) {l : List α} {i : Nat} {x : α} (h : l[i]? = some x) : ((l.take (i + 1)).map f).sum = ((l.take i).map f).sum + f x := by
  rw [List.take_add_one, h, List.map_append, List.sum_append]; simp
theorem markedL_len (R : Nat → Bool) : ∀ (os : List Ob) (p : Nat), (markedL R os p).length ≤ os.length
  | [], p => by simp [markedL]
  | o :: os, p => by
    have := markedL_len R os (p + o.row.length)
    rw [markedL, List.length_append, List.length_cons]
    split <;> simp <;> omega
section
variable {h : H} {b bw bd : Nat} {B : List Nat} {s : Hs} {os : List Ob} {rts : List Int}
theorem live_c (hh : HeapAt h b bw bd B s) (A : Abs s os) (fit : fitAll s.lays os) {r : AV} (hr : Row h r rts.length 1 (wc rts)) (hrr : ∀ w ∈ rts, 0 ≤ w ∧ w < 18446744073709551616) (hl : rts.length ≤ 65536) (R : Nat → Bool) (hR : ∀ a, R a = true ↔ Rch s.lays os rts a) {K : AV → H → Prop}
    (hno : rts.all (fitsO os) = false → ∀ h', Fr [] h h' → K (.tup [.int .i64 0, .int .i64 1]) h')
    (hyes : rts.all (fitsO os) = true → ∀ h', Fr [bw] h h' → HeapAt h' b bw bd B s → K (.tup [.int .i64 (rowOf (newO s.lays R os)).length, .int .i64 0]) h') :
    C 88 [.ptr b 0, r] h K := by
  refine run88 ?_
  unfold sh88
  have t0 : ∀ a c : AV, extA (.tup [a, c]) 0 = some a := fun _ _ => rfl
  have t1 : ∀ a c : AV, extA (.tup [a, c]) 1 = some c := fun _ _ => rfl
  have gw := A.good.wlen
  have hle : (rowOf os).length ≤ s.words.length := by rw [← A.top]; exact A.good.top
  have hol := os_le os
  refine marks_c hh A fit hr hrr hl R hR (fun hall h1 f1 => ?_) fun hall h1 v f1 hh1 ov => ?_
  · rw [t0, valA_some, t1, valA_some]
    refine join_r (fun (J : AV → H → Prop) => J (.int .i64 0) h1) (hno hall h1 f1) fun J hJ => ?_
    rw [lenA_n, valA_some]
    refine loop_r 1 (fun c ls h' => ls = [.int .i64 0, .int .i64 0] ∧ h' = h1) ⟨rfl, rfl⟩ ?_
    rintro c ls h' ⟨rfl, rfl⟩
    simp only [go_sem, reduceIte, Nat.reduceAdd, Nat.reduceSub, Nat.reduceMul, Nat.reducePow, Nat.reduceLT, Nat.reduceLeDiff, Nat.reduceEqDiff, Int.reduceAdd, Int.reduceSub, Int.reduceMul, Int.reduceNeg, Int.reducePow, Int.reduceLT, Int.reduceLE, Int.reduceEq, Int.reduceNe, Int.reduceToNat, Int.toNat_natCast, Nat.zero_add, Nat.add_zero, Nat.mul_one, Nat.one_mul, Bool.not_true, Bool.not_false, ne_eq, not_true_eq_false, not_false_eq_true, Bool.false_eq_true]
    exact hJ
  · rw [t0, valA_some, t1, valA_some]
    have hq : ∀ (a : Nat) o, findO os a = some o → findO os ((0 + a : Nat) : Int) = some o := fun a o h => by rw [Nat.zero_add]; exact h
    have hsum := marked_sum s.lays R (fw R os) os 0 hq
    have hat := marked_at R os 0 hq
    have hml := markedL_len R os 0
    have hnl := new_len (lays := s.lays) (R := R) (fwd := fw R os) os 0
    generalize markedL R os 0 = L at *
    refine join_r (fun (J : AV → H → Prop) => ∀ h', Fr [] h1 h' → J (.int .i64 (rowOf (newO s.lays R os)).length) h') (fun h2 f2 => hyes hall h2 (f1.trans f2.more) (hh1.fr0 f2)) fun J hJ => ?_
    rw [ov.row.len, valA_some]
    have le_sum : ∀ i, ((L.take i).map (KO os)).sum ≤ (L.map (KO os)).sum := fun i => by
      conv => rhs; rw [← List.take_append_drop i L]
      rw [List.map_append, List.sum_append]; omega
    refine loop_r (L.length + 1) (fun c ls h' => ∃ i : Nat, ls = [.int .i64 ((L.take i).map (KO os)).sum, .int .i64 i] ∧ i ≤ L.length ∧ Fr [] h1 h' ∧ c = L.length + 1 - i) ⟨0, rfl, by omega, Fr.refl _ _, rfl⟩ ?_
    rintro c ls h2 ⟨i, rfl, hi, f2, rfl⟩
    rw [argA_0, argA_1, b_lss, valA_some]
    by_cases q : (i : Int) < L.length
    · have hi' : i < L.length := by omega
      obtain ⟨a, ha⟩ : ∃ a, L[i]? = some a := ⟨L[i], by simp [hi']⟩
      obtain ⟨hA, _⟩ := hat a (List.mem_of_getElem? ha)
      obtain ⟨o, ho⟩ := Option.isSome_iff_exists.1 hA
      have hom : o ∈ os := by obtain ⟨p', q', e, _⟩ := findO_split os _ o ho; rw [e]; simp
      have hk : KO os a = o.row.length := by unfold KO; rw [ho]
      have hs1 := sum_take_succ (KO os) ha
      have hs2 := le_sum (i + 1)
      have hrow := (ov.row.fr f2)
      have hh2 := hh1.fr0 f2
      have en : IntKind.i64.wrap ((i : Int) + 1) = ((i + 1 : Nat) : Int) := by rw [i64_id (by omega) (by omega)]; rfl
      have es : IntKind.i64.wrap ((((L.take i).map (KO os)).sum : Int) + o.row.length) = (((L.take (i + 1)).map (KO os)).sum : Nat) := by
        have hnl' : (rowOf (newOs s.lays R (fw R os) os 0)).length ≤ (rowOf os).length := hnl
        rw [i64_id (by omega) (by omega)]; omega
      simp only [q, decide_true, condA_t]
      refine hrow.get (x := .int .i64 a) (by omega) q (by rw [Int.toNat_natCast]; unfold nc; rw [List.getElem?_map, ha]; rfl) ?_
      rw [shape_a hh2 A, ho]
      simp only [t0, t1, valA_some]
      rw [len_a hh2 A, ho]
      simp only [t0, t1, valA_some]
      refine need_c hh2 A.good _ _ fun h3 f3 => ?_
      simp only [t0, t1, valA_some]
      rw [A.each o hom, b_add, es, valA_some, b_add, en, valA_some]
      exact ⟨L.length + 1 - (i + 1), by omega, i + 1, rfl, by omega, f2.trans f3, rfl⟩
    · have : i = L.length := by omega
      subst this
      simp only [q, decide_false, condA_f]
      rw [List.take_length, hsum]
      exact hJ h2 f2
theorem alikeW_c {v w : AV} {X Y : List Int} (rv : Row h v X.length 1 (wc X)) (rw' : Row h w Y.length 1 (wc Y)) (hx : X.length ≤ 4611686018427387903) (K : AV → H → Prop) : C 92 [v, w] h K = K (.bool (decide (X = Y))) h := by
  refine callA_eq (run92 ?_) K
  unfold sh92
  rw [rv.len, rw'.len, valA_some, valA_some, b_neq, valA_some]
  by_cases q : (X.length : Int) = Y.length
  · simp only [ne_eq, q, not_true_eq_false, decide_false, condA_f]
    have hl : X.length = Y.length := by omega
    refine join_r (fun (J : H → Prop) => X = Y → J h) (fun e => by simp [e]) fun J hJ => ?_
    rw [valA_some]
    refine loop_r (X.length + 1) (fun c ls h' => ∃ i : Nat, ls = [.int .i64 i] ∧ i ≤ X.length ∧ X.take i = Y.take i ∧ h' = h ∧ c = X.length + 1 - i) ⟨0, rfl, by omega, rfl, rfl, rfl⟩ ?_
    rintro c ls h' ⟨i, rfl, hi, he, rfl, rfl⟩
    rw [argA_0, b_lss, valA_some]
    by_cases q2 : (i : Int) < Y.length
    · have hi' : i < X.length := by omega
      obtain ⟨x, hxx⟩ : ∃ x, X[i]? = some x := ⟨X[i], by simp [hi']⟩
      obtain ⟨y, hyy⟩ : ∃ y, Y[i]? = some y := ⟨Y[i]'(by omega), by simp [show i < Y.length by omega]⟩
      have en : IntKind.i64.wrap ((i : Int) + 1) = ((i + 1 : Nat) : Int) := by rw [i64_id (by omega) (by omega)]; rfl
      simp only [q2, decide_true, condA_t]
      refine rv.get (x := .int .u64 x) (by omega) (by omega) (by rw [Int.toNat_natCast, wc_get, hxx]; rfl) ?_
      refine rw'.get (x := .int .u64 y) (by omega) q2 (by rw [Int.toNat_natCast, wc_get, hyy]; rfl) ?_
      rw [b_neq, valA_some]
      by_cases e : x = y
      · simp only [ne_eq, e, not_true_eq_false, decide_false, condA_f, b_add, en, valA_some]
        refine ⟨X.length + 1 - (i + 1), by omega, i + 1, rfl, by omega, ?_, by first | rfl | trivial, rfl⟩
        rw [List.take_add_one, List.take_add_one, he, hxx, hyy, e]
      · have hne : X ≠ Y := fun h => e (by rw [h, hyy] at hxx; injection hxx with hxx; exact hxx.symm)
        simp only [ne_eq, e, not_false_eq_true, decide_true, condA_t, decide_eq_false hne, and_self]
    · have : i = X.length := by omega
      subst this
      simp only [q2, decide_false, condA_f]
      rw [List.take_length, hl, List.take_length] at he
      exact hJ he
  · have hne : X ≠ Y := fun e => q (by rw [e])
    simp only [ne_eq, q, not_false_eq_true, decide_true, condA_t, decide_eq_false hne, and_self]
end
section
variable {h0 h : H} {bx : Nat} {words : Int} {lays : List (Int × Int)} {BL : List Nat} {l : List RV} {rts : List Int}
theorem rfit_c (R : RefAt h0 h bx words lays BL l) (hl : l.length ≤ 1000) {r : AV} (hr : Row h r rts.length 1 (wc rts)) (hrr : ∀ w ∈ rts, 0 ≤ w ∧ w < 18446744073709551616) (hm : rts.length ≤ 65536) {K : AV → H → Prop} (hK : ∀ h', Fr [] h h' → K (.bool (rts.all (fitsR l))) h') : C 90 [.ptr bx 0, r] h K := by
  refine run90 ?_
  unfold sh90
  refine join_r (fun (J : H → Prop) => rts.all (fitsR l) = true → ∀ h', Fr [] h h' → J h') (fun e h' f => by have := hK h' f; rw [e] at this; exact this) fun J hJ => ?_
  rw [hr.len, valA_some]
  refine loop_r (rts.length + 1) (fun c ls h' => ∃ i : Nat, ls = [.int .i64 i] ∧ i ≤ rts.length ∧ (∀ w ∈ rts.take i, fitsR l w = true) ∧ Fr [] h h' ∧ c = rts.length + 1 - i) ⟨0, rfl, by omega, by simp, Fr.refl _ _, rfl⟩ ?_
  rintro c ls h1 ⟨i, rfl, hi, hall, f1, rfl⟩
  rw [argA_0, b_lss, valA_some]
  by_cases q : (i : Int) < rts.length
  · have hi' : i < rts.length := by omega
    obtain ⟨w, hw⟩ : ∃ w, rts[i]? = some w := ⟨rts[i], by simp [hi']⟩
    have hwm := List.mem_of_getElem? hw
    have hwr := hrr w hwm
    have en : IntKind.i64.wrap ((i : Int) + 1) = ((i + 1 : Nat) : Int) := by rw [i64_id (by omega) (by omega)]; rfl
    simp only [q, decide_true, condA_t]
    refine (hr.fr f1).get (x := .int .u64 w) (by omega) q (by rw [Int.toNat_natCast, wc_get, hw]; rfl) ?_
    refine rfits_c (R.keep0 f1) hl hwr.1 hwr.2 fun h2 f2 => ?_
    have f12 := f1.trans f2
    rw [u_not, valA_some]
    cases hfw : fitsR l w with
    | true =>
      simp only [Bool.not_true, condA_f, b_add, en, valA_some]
      refine ⟨rts.length + 1 - (i + 1), by omega, i + 1, rfl, by omega, fun y hy => ?_, f12, rfl⟩
      rw [List.take_add_one, hw] at hy
      rcases List.mem_append.1 hy with hy | hy
      · exact hall y hy
      · simp at hy; subst hy; exact hfw
    | false =>
      simp only [Bool.not_false, condA_t]
      have := hK h2 f12
      have hff : rts.all (fitsR l) = false := by rw [Bool.eq_false_iff]; intro q; rw [List.all_eq_true.1 q w hwm] at hfw; cases hfw
      rw [hff] at this
      exact this
  · have : i = rts.length := by omega
    subst this
    simp only [q, decide_false, condA_f]
    rw [List.take_length] at hall
    exact hJ (List.all_eq_true.2 hall) h1 f1
end
theorem Rel.fitsAll {lays : List (Int × Int)} {os : List Ob} {l : List RV} (r : Rel lays 0 os l) (rts : List Int) : rts.all (fitsO os) = rts.all (fitsR l) := by
  induction rts with
  | nil => rfl
  | cons w rts ih => rw [List.all_cons, List.all_cons, ih, r.fits w]
end Go.Proofs.Ytljkkfcokpimkaa.X
set_option linter.unusedVariables false
set_option linter.unusedSimpArgs false
set_option maxRecDepth 20000
namespace Go.Proofs.Ytljkkfcokpimkaa.X
open Go Go.RowKit
def HS (h : H) (b bw bd : Nat) (B : List Nat) (lays : List (Int × Int)) (n : Nat) (os : List Ob) : Prop := ∃ s, HeapAt h b bw bd B s ∧ Abs s os ∧ s.lays = lays ∧ s.words.length = n
section
variable {h : H} {b bw bd : Nat} {B : List Nat} {lays : List (Int × Int)} {n : Nat} {os : List Ob} {rts : List Int}
theorem HS.fr {h' : H} {S : List Nat} (t : HS h b bw bd B lays n os) (f : Fr S h h') (hs : ∀ c ∈ b :: bw :: bd :: B, c ∉ S) : HS h' b bw bd B lays n os := by
  obtain ⟨s, hh, q⟩ := t
  exact ⟨s, hh.fr f hs, q⟩
theorem HS.fr0 {h' : H} (t : HS h b bw bd B lays n os) (f : Fr [] h h') : HS h' b bw bd B lays n os := t.fr f (by simp)
theorem HS.alive (t : HS h b bw bd B lays n os) : Alive h (b :: bw :: bd :: B) := by obtain ⟨s, hh, _⟩ := t; exact hh.alive
theorem HS.le (t : HS h b bw bd B lays n os) : (rowOf os).length ≤ n ∧ n ≤ 65536 ∧ lays.length ≤ 512 := by
  obtain ⟨s, hh, A, rfl, rfl⟩ := t
  exact ⟨by rw [← A.top]; exact A.good.top, A.good.wlen, A.good.llen⟩
theorem alloc_h (t : HS h b bw bd B lays n os) {i k : Int} (he : (needN lays i k).2 = 0) (hk : (needN lays i k).1 ≤ (n : Int) - (rowOf os).length) {K : AV → H → Prop}
    (hG : ∀ h', Fr [b, bw, bd] h h' → HS h' b bw bd B lays n (os ++ [newOb lays i k]) → K (.tup [.int .i64 (rowOf os).length, .int .i64 0]) h') : C 55 [.ptr b 0, .int .i64 i, .int .i64 k] h K := by
  obtain ⟨s, hh, A, rfl, rfl⟩ := t
  refine alloc_ok hh A he (by rw [A.top]; exact hk) (t := (rowOf os).length) (by rw [A.top]) fun h' f hh' A' => hG h' f ⟨_, hh', A', rfl, ?_⟩
  simp only [Hs.alloc, Hs.mark]
  split
  · rw [List.length_set]
  · rw [fillW_length, List.length_set]
theorem set_h (t : HS h b bw bd B lays n os) {a i w : Int} (w0 : 0 ≤ w) (w1 : w < 18446744073709551616) {o : Ob} (hf : findO os a = some o) (hk : kindAt lays o.sh ≠ 3) (h0 : 0 ≤ i) (h1 : i < o.n) (hw : fitsO os w = true) {K : AV → H → Prop}
    (hK : ∀ h', Fr [bw] h h' → HS h' b bw bd B lays n (setO os a i.toNat w) → K (.int .i64 0) h') : C 63 [.ptr b 0, .int .i64 a, .int .i64 i, .int .u64 w] h K := by
  obtain ⟨s, hh, A, rfl, rfl⟩ := t
  have q : (hasO s.lays os a i false && fitsO os w) = true := by unfold hasO; rw [hf]; simp [hk, h0, h1, hw]
  rw [set_a hh A w0 w1, if_pos q, if_pos q]
  have hb := A.body hf
  rw [if_neg hk] at hb
  have A2 := abs_set A (i := i.toNat) (w := w) hf (by omega) w0 w1
  have e : a + 1 + (i.toNat : Int) = a + 1 + i := by omega
  rw [e] at A2
  refine hK _ (Fr.put (by simp)) ⟨_, hh.put _ _, A2, rfl, ?_⟩
  show (s.words.set _ _).length = _
  rw [List.length_set]
theorem get_h (t : HS h b bw bd B lays n os) {a i : Int} {o : Ob} (hf : findO os a = some o) (hk : kindAt lays o.sh ≠ 3) (h0 : 0 ≤ i) (h1 : i < o.n) (K : AV → H → Prop) : C 64 [.ptr b 0, .int .i64 a, .int .i64 i] h K = K (.tup [.int .u64 (o.body.getD i.toNat 0), .int .i64 0]) h := by
  obtain ⟨s, hh, A, rfl, rfl⟩ := t
  have q : hasO s.lays os a i false = true := by unfold hasO; rw [hf]; simp [hk, h0, h1]
  have hb := A.body hf
  rw [if_neg hk] at hb
  rw [get_b hh A, if_pos q, ← A.word hf i.toNat (by omega)]
  congr 4; rw [show a + 1 + (i.toNat : Int) = a + 1 + i by omega]
theorem top_h (t : HS h b bw bd B lays n os) (K : AV → H → Prop) : C 57 [.ptr b 0] h K = K (.int .i64 (rowOf os).length) h := by
  obtain ⟨s, hh, A, rfl, rfl⟩ := t
  rw [top_c hh, A.top]
theorem shape_h (t : HS h b bw bd B lays n os) {a : Int} {o : Ob} (hf : findO os a = some o) (K : AV → H → Prop) : C 81 [.ptr b 0, .int .i64 a] h K = K (.tup [.int .i64 o.sh, .int .i64 0]) h := by
  obtain ⟨s, hh, A, rfl, rfl⟩ := t
  rw [shape_a hh A, hf]
theorem collect_h (t : HS h b bw bd B lays n os) (fit : fitAll lays os) (wh : wholeO lays os = true) {r : AV} (hr : Row h r rts.length 1 (wc rts)) (hrr : ∀ w ∈ rts, 0 ≤ w ∧ w < 18446744073709551616) (hl : rts.length ≤ 65536) (R : Nat → Bool) (hR : ∀ a, R a = true ↔ Rch lays os rts a) {K : AV → H → Prop}
    (hno : rts.all (fitsO os) = false → ∀ h', Fr [] h h' → K (.tup [.nilsl, .int .i64 1]) h')
    (hyes : rts.all (fitsO os) = true → ∀ h' v m, Fr [b, bw] h h' → h.get m = none → HS h' b bw m B lays n (newO lays R os) → Own h h' 25 1 v rts.length (wc (rts.map (fwdW (fw R os)))) → K (.tup [v, .int .i64 0]) h') : C 84 [.ptr b 0, r] h K := by
  obtain ⟨s, hh, A, rfl, rfl⟩ := t
  exact collect_c hh A fit wh hr hrr hl R hR hno fun hall h' v m s' f hm hh' A' e1 e2 o => hyes hall h' v m f hm ⟨s', hh', A', e1, e2⟩ o
theorem live_h (t : HS h b bw bd B lays n os) (fit : fitAll lays os) {r : AV} (hr : Row h r rts.length 1 (wc rts)) (hrr : ∀ w ∈ rts, 0 ≤ w ∧ w < 18446744073709551616) (hl : rts.length ≤ 65536) (R : Nat → Bool) (hR : ∀ a, R a = true ↔ Rch lays os rts a) {K : AV → H → Prop}
    (hno : rts.all (fitsO os) = false → ∀ h', Fr [] h h' → K (.tup [.int .i64 0, .int .i64 1]) h')
    (hyes : rts.all (fitsO os) = true → ∀ h', Fr [bw] h h' → HS h' b bw bd B lays n os → K (.tup [.int .i64 (rowOf (newO lays R os)).length, .int .i64 0]) h') : C 88 [.ptr b 0, r] h K := by
  obtain ⟨s, hh, A, rfl, rfl⟩ := t
  exact live_c hh A fit hr hrr hl R hR hno fun hall h' f hh' => hyes hall h' f ⟨s, hh', A, rfl, rfl⟩
end
/-! ### The example -/
def gl : List (Int × Int) := [(1, 2)]
def go0 : Ob := ⟨0, 2, [1, 1]⟩
def goS : List Ob := [go0, go0, ⟨0, 2, [6, 6]⟩]
def goR (a : Nat) : Bool := decide (a = 6 ∨ a = 3)
theorem goR_ok (a : Nat) : goR a = true ↔ Rch gl goS [12, 11] a := by
  constructor
  · intro h
    have r6 : Rch gl goS [12, 11] 6 := .root (w := 12) (by simp) (by decide)
    simp only [goR, decide_eq_true_eq] at h
    rcases h with rfl | rfl
    · exact r6
    · exact .fld (o := ⟨0, 2, [6, 6]⟩) (w := 6) r6 (by rfl) (by decide) (by simp) (by decide)
  · intro h
    induction h with
    | root h1 h2 =>
      rename_i w
      simp at h1
      rcases h1 with rfl | rfl
      · decide
      · exact absurd (by decide) h2
    | fld h1 h2 h3 h4 h5 ih =>
      rename_i a o w
      simp only [goR, decide_eq_true_eq] at ih
      rcases ih with rfl | rfl
      · have e : findO goS ((6 : Nat) : Int) = some ⟨0, 2, [6, 6]⟩ := by rfl
        rw [e] at h2; injection h2 with h2; subst h2
        simp at h4; subst h4; decide
      · have e : findO goS ((3 : Nat) : Int) = some go0 := by rfl
        rw [e] at h2; injection h2 with h2; subst h2
        simp [go0] at h4; subst h4; exact absurd (by decide) h5
theorem lit2 {h : H} {x y : Int} {K : AV → H → Prop} (hK : ∀ m h', Fr [] h h' → h.get m = none → Row h' (.sl m 0 2 (.exact 2)) 2 1 (wc [x, y]) → K (.sl m 0 2 (.exact 2)) h') :
    mkslA h 25 2 (fillV [.int .u64 0, .int .u64 0] [(0, 1, .int .u64 x), (1, 1, .int .u64 y)]) K := by
  have e : fillV [.int .u64 0, .int .u64 0] [(0, 1, .int .u64 x), (1, 1, .int .u64 y)] = some (wc [x, y]) := rfl
  rw [e]
  refine ⟨rfl, fun m hm => hK m _ ((Fr.refl _ _).set' hm) hm ⟨rfl, .inr ⟨m, 0, _, rfl, rfl, H.read_eq (H.get_same ..) (by simp [wc]) rfl⟩⟩⟩
theorem gcLives_c {h : H} {K : AV → H → Prop} (hK : ∀ h', Fr [] h h' → K (.bool true) h') : C 86 [] h K := by
  refine run86 ?_
  have e1 : fillV [.int .i64 0, .int .i64 0] [(0, 1, .int .i64 1), (1, 1, .int .i64 2)] = some [.int .i64 1, .int .i64 2] := rfl
  have e2 : fillV [.int .i64 0, .int .i64 0] [(0, 2, .agg [.int .i64 1, .int .i64 2])] = some (lc gl) := rfl
  have t0 : ∀ a c : AV, extA (.tup [a, c]) 0 = some a := fun _ _ => rfl
  have t1 : ∀ a c : AV, extA (.tup [a, c]) 1 = some c := fun _ _ => rfl
  unfold sh86
  simp only [e1, e2, buildA_s, valA_some, mkslA_s]
  refine ⟨rfl, fun b0 hb0 => ?_⟩
  have f0 : Fr [] h (h.set b0 (.live (lc gl) 60 true)) := Fr.new hb0
  have r0 : Row (h.set b0 (.live (lc gl) 60 true)) (.sl b0 0 1 (.exact 1)) gl.length 2 (lc gl) := ⟨rfl, .inr ⟨b0, 0, _, rfl, rfl, H.read_eq (H.get_same ..) (by decide) rfl⟩⟩
  refine new_c r0 (by decide) (fun q => absurd (by decide) q) fun _ h1 b bw bd B f1 hfr hh1 => ?_
  have T1 : HS h1 b bw bd B gl 9 [] := ⟨_, hh1, abs_new 9 (lays := gl) (by decide) (by decide) (by decide), rfl, rfl⟩
  have hP : ∀ c ∈ [b, bw, bd], h.get c = none := fun c hc => by
    refine f0.free (hfr c ?_)
    simp only [List.mem_cons, List.not_mem_nil, or_false] at hc
    rcases hc with rfl | rfl | rfl <;> simp
  have g1 := f0.trans f1
  rw [t0, valA_some, t1, valA_some]
  have p3 : ∀ (h : H) K, C 82 [.int .i64 3] h K = K (.int .u64 6) h := fun h K => by rw [ptr_c]; rfl
  have p6 : ∀ (h : H) K, C 82 [.int .i64 6] h K = K (.int .u64 12) h := fun h K => by rw [ptr_c]; rfl
  have p0 : ∀ (h : H) K, C 82 [.int .i64 0] h K = K (.int .u64 0) h := fun h K => by rw [ptr_c]; rfl
  have i5 : ∀ (h : H) K, C 83 [.int .i64 5] h K = K (.int .u64 11) h := fun h K => by rw [imm_c]; rfl
  refine join_r (fun (J : H → Prop) => ∀ h', Fr [] h h' → HS h' b bw bd B gl 9 [go0, go0, go0] → J h') (fun h2 g2 T2 => ?_) fun J hJ => ?_
  · rw [p3]
    refine set_h T2 (a := 6) (i := 0) (w := 6) (o := go0) (by decide) (by decide) (by rfl) (by decide) (by decide) (by decide) (by decide) fun h3 f3 T3 => ?_
    have g3 := g2.cons (fun c hc => hP c (by simp at hc; simp [hc])) f3
    rw [p3]
    refine set_h T3 (a := 6) (i := 1) (w := 6) (o := ⟨0, 2, [6, 1]⟩) (by decide) (by decide) (by rfl) (by decide) (by decide) (by decide) (by decide) fun h4 f4 T4 => ?_
    have g4 := g3.cons (fun c hc => hP c (by simp at hc; simp [hc])) f4
    have T4 : HS h4 b bw bd B gl 9 goS := T4
    have fit : fitAll gl goS := fun o ho k w hw => by
      simp [goS, go0] at ho
      rcases ho with rfl | rfl <;> simp at hw <;> subst hw <;> decide
    have wh : wholeO gl goS = true := by decide
    have hrr : ∀ w ∈ [(12 : Int), 11], 0 ≤ w ∧ w < 18446744073709551616 := by decide
    rw [p6, i5]
    refine lit2 fun m1 h5 f5 _ r5 => ?_
    have T5 := T4.fr0 f5
    refine live_h (rts := [12, 11]) T5 fit r5 hrr (by decide) goR goR_ok (fun q => absurd q (by decide)) fun _ h6 f6 T6 => ?_
    have g6 := (g4.trans f5).cons (fun c hc => hP c (by simp at hc; simp [hc])) f6
    rw [t0, valA_some, t1, valA_some, p6, i5]
    refine lit2 fun m2 h7 f7 _ r7 => ?_
    have T7 := T6.fr0 f7
    refine collect_h (rts := [12, 11]) T7 fit wh r7 hrr (by decide) goR goR_ok (fun q => absurd q (by decide)) fun _ h8 v m f8 hm T8 o8 => ?_
    have g8 := (g6.trans f7).cons (fun c hc => hP c (by simp at hc ⊢; rcases hc with q | q <;> simp [q])) f8
    rw [t0, valA_some, t1, valA_some]
    have eN : newO gl goR goS = [go0, ⟨0, 2, [0, 0]⟩] := by rfl
    have eW : [(12 : Int), 11].map (fwdW (fw goR goS)) = [6, 11] := by rfl
    rw [eN] at T8
    rw [eW] at o8
    rw [get_h T8 (a := 3) (i := 1) (o := ⟨0, 2, [0, 0]⟩) (by rfl) (by decide) (by decide) (by decide), t0, valA_some, t1, valA_some]
    have eT : (((rowOf [go0, ⟨0, 2, [0, 0]⟩]).length : Nat) : Int) = 6 := by rfl
    have eL : (((rowOf (newO gl goR goS)).length : Nat) : Int) = 6 := by rfl
    obtain ⟨b1, o1, q1, q2⟩ := o8.row.at (i := 0) (x := .int .u64 6) (by decide) (by decide) rfl
    obtain ⟨b2, o2, q3, q4⟩ := o8.row.at (i := 1) (x := .int .u64 11) (by decide) (by decide) rfl
    have hlen : lenA false v = some (.int .i64 2) := o8.row.len
    have e00 : ([0, 0] : List Int).getD (1 : Int).toNat 0 = 0 := by rfl
    simp only [go_sem, reduceIte, Nat.reduceAdd, Nat.reduceSub, Nat.reduceMul, Nat.reducePow, Nat.reduceLT, Nat.reduceLeDiff, Nat.reduceEqDiff, Int.reduceAdd, Int.reduceSub, Int.reduceMul, Int.reduceNeg, Int.reducePow, Int.reduceLT, Int.reduceLE, Int.reduceEq, Int.reduceNe, Int.reduceToNat, Int.toNat_natCast, Nat.zero_add, Nat.add_zero, Nat.mul_one, Nat.one_mul, Bool.not_true, Bool.not_false, ne_eq, not_true_eq_false, not_false_eq_true, Bool.false_eq_true, eL, hlen, q1, q2, q3, q4, p3, i5, p0, top_h T8, eT, e00]
    exact hK _ g8
  · refine loop_r 4 (fun c ls h' => ∃ i : Nat, ls = [.int .i64 i] ∧ i ≤ 3 ∧ Fr [] h h' ∧ HS h' b bw bd B gl 9 (List.replicate i go0) ∧ c = 4 - i) ⟨0, rfl, by omega, g1, T1, rfl⟩ ?_
    rintro c ls h2 ⟨i, rfl, hi, g2, T2, rfl⟩
    rw [argA_0, b_lss, valA_some]
    by_cases q : (i : Int) < 3
    · have hl : (rowOf (List.replicate i go0)).length = 3 * i := by
        have : i = 0 ∨ i = 1 ∨ i = 2 := by omega
        rcases this with rfl | rfl | rfl <;> rfl
      have en : IntKind.i64.wrap ((i : Int) + 1) = ((i + 1 : Nat) : Int) := by rw [i64_id (by omega) (by omega)]; rfl
      simp only [q, decide_true, condA_t]
      refine alloc_h T2 (i := 0) (k := 2) (by decide) (by rw [hl]; show (3 : Int) ≤ _; omega) fun h3 f3 T3 => ?_
      rw [b_add, en, valA_some]
      refine ⟨4 - (i + 1), by omega, i + 1, rfl, by omega, g2.cons hP f3, ?_, rfl⟩
      rw [List.replicate_succ']
      exact T3
    · have : i = 3 := by omega
      subst this
      simp only [q, decide_false, condA_f]
      exact hJ h2 g2 T2
end Go.Proofs.Ytljkkfcokpimkaa.X
set_option linter.unusedVariables false
set_option linter.unusedSimpArgs false
set_option maxRecDepth 20000
namespace Go.Proofs.Ytljkkfcokpimkaa.X
open Go Go.RowKit
def rc (l : List (Int × Bool)) : List AV := l.flatMap fun x => [AV.int .u64 x.1, AV.bool x.2]
theorem rc_length (l : List (Int × Bool)) : (rc l).length = l.length * 2 := by
  induction l with
  | nil => rfl
  | cons x l ih => simp only [rc, List.flatMap_cons] at ih ⊢; simp [ih]; omega
theorem lies_root {h : H} {l : List AV} (hl : Lies h (.st [.int .u64, .bool]) l) : ∃ (w : Int) (c : Bool), l = [.int .u64 w, .bool c] ∧ 0 ≤ w ∧ w < 18446744073709551616 := by
  rw [Lies, LiesL] at hl
  obtain ⟨l1, r1, rfl, g1, hl⟩ := hl
  rw [LiesL] at hl
  obtain ⟨l2, r2, rfl, g2, hl⟩ := hl
  rw [LiesL] at hl
  subst hl
  obtain ⟨w, rfl, h0, h1⟩ := lies_u64 g1
  obtain ⟨c, rfl⟩ := lies_bool g2
  exact ⟨w, c, rfl, h0, h1⟩
theorem lies_roots {h : H} {l : List AV} (hl : Lies h (.sl (.st [.int .u64, .bool])) l) : ∃ v L, l = [v] ∧ Row h v L.length 2 (rc L) ∧ (∀ x ∈ L, 0 ≤ x.1 ∧ x.1 < 18446744073709551616) ∧ L.length ≤ reachBytes := by
  simp only [Lies] at hl
  rcases hl with rfl | ⟨b, ei, css, rfl, hb, hm, hcs⟩
  · exact ⟨.nilsl, [], rfl, ⟨rfl, .inl ⟨rfl, rfl⟩⟩, by simp, by simp⟩
  · obtain ⟨L, hL, hfl, hlen⟩ : ∃ L : List (Int × Bool), (∀ x ∈ L, 0 ≤ x.1 ∧ x.1 < 18446744073709551616) ∧ css.flatten = rc L ∧ L.length = css.length := by
      clear hb hm
      induction css with
      | nil => exact ⟨[], by simp, rfl, rfl⟩
      | cons c css ih =>
        obtain ⟨L, i1, i2, i3⟩ := ih fun c hc => hcs c (by simp [hc])
        obtain ⟨w, q, rfl, u1, u2⟩ := lies_root (h := h) (l := c) (by rw [Lies]; exact hcs c (by simp))
        refine ⟨(w, q) :: L, fun d hd => ?_, ?_, by simp [i3]⟩
        · rcases List.mem_cons.1 hd with rfl | hd
          · exact ⟨u1, u2⟩
          · exact i1 d hd
        · simp only [List.flatten_cons, i2, rc, List.flatMap_cons]
    refine ⟨_, L, rfl, ⟨rc_length L, .inr ⟨b, 0, .any, by rw [hlen], rfl, ?_⟩⟩, hL, by omega⟩
    refine H.read_eq hb (by rw [hfl, rc_length]; omega) ?_
    rw [hfl, List.drop_zero, List.take_of_length_le (by rw [rc_length]; omega)]
theorem lies_case {h : H} {l : List AV} (hl : Lies h (.st [.sl (.st [.int .i64, .int .i64]), .sl (.st [.int .i64, .int .i64, .int .i64, .int .u64, .bool]), .sl (.st [.int .u64, .bool])]) l) :
    ∃ v L vo ops vr rs, l = [v, vo, vr] ∧ Row h v L.length 2 (lc L) ∧ L.length ≤ reachBytes ∧ Row h vo ops.length 5 (opsC ops) ∧ (∀ x ∈ ops, x.ok) ∧ ops.length ≤ reachBytes ∧ Row h vr rs.length 2 (rc rs) ∧ (∀ x ∈ rs, 0 ≤ x.1 ∧ x.1 < 18446744073709551616) ∧ rs.length ≤ reachBytes := by
  rw [Lies, LiesL] at hl
  obtain ⟨l1, r1, rfl, g1, hl⟩ := hl
  rw [LiesL] at hl
  obtain ⟨l2, r2, rfl, g2, hl⟩ := hl
  rw [LiesL] at hl
  obtain ⟨l3, r3, rfl, g3, hl⟩ := hl
  rw [LiesL] at hl
  subst hl
  obtain ⟨v, L, rfl, hr, hL, hm⟩ := lies_lays g1
  obtain ⟨vo, ops, rfl, hro, hops, hmo⟩ := lies_ops g2
  obtain ⟨vw, W, rfl, hrw, hW, hmw⟩ := lies_roots g3
  exact ⟨v, L, vo, ops, vw, W, rfl, hr, hm, hro, hops, hmo, hrw, hW, hmw⟩
theorem case_c {h : H} {lv Lo vr : AV} {lays : List (Int × Int)} {ops : List OpI} {rs : List (Int × Bool)} (hl : Row h lv lays.length 2 (lc lays)) (hm : lays.length ≤ reachBytes) (ho : Row h Lo ops.length 5 (opsC ops)) (hm2 : ops.length ≤ reachBytes) (hok : ∀ o ∈ ops, o.ok)
    (hr : Row h vr rs.length 2 (rc rs)) (hrr : ∀ x ∈ rs, 0 ≤ x.1 ∧ x.1 < 18446744073709551616) (hm3 : rs.length ≤ reachBytes) {K : AV → H → Prop}
    (hnil : ∀ h', Fr [] h h' → K (.tup [.nilp, .nilp, .nilsl]) h')
    (hK : ∀ h1 h2 h' b bx l v rts, Fr [] h h1 → Two h1 h2 b bx 1500 lays l → l.length ≤ 150 → Fr [] h2 h' → Own h2 h' 25 1 v rts.length (wc rts) → rts.length ≤ 30 → (∀ w ∈ rts, 0 ≤ w ∧ w < 18446744073709551616) → K (.tup [.ptr b 0, .ptr bx 0, v]) h') :
    C 89 [.agg [lv, Lo, vr]] h K := by
  refine run89 ?_
  have ec : (AV.agg [lv, Lo, vr]).cells = [lv, Lo, vr] := rfl
  have elv : leaves [lv, Lo, vr] = true := by simp only [leaves, hl.one.1, ho.one.1, hr.one.1]; rfl
  have t0 : ∀ a c : AV, extA (.tup [a, c]) 0 = some a := fun _ _ => rfl
  have t1 : ∀ a c : AV, extA (.tup [a, c]) 1 = some c := fun _ _ => rfl
  unfold sh89
  rw [ec]
  clear ec
  refine boxR elv fun d hd => ?_
  have f1 : Fr [] h (h.set d (.live [lv, Lo, vr] 114 true)) := (Fr.refl _ _).set' hd
  have gd : (h.set d (.live [lv, Lo, vr] 114 true)).get d = some (.live [lv, Lo, vr] 114 true) := H.get_same ..
  have hl1 := hl.fr f1; have ho1 := ho.fr f1; have hr1 := hr.fr f1
  generalize h.set d (.live [lv, Lo, vr] 114 true) = h1 at *
  have cd : ∀ {h' : H}, Fr [] h1 h' → ∀ off, h'.cell d off = [lv, Lo, vr][off]? := fun f off => cell_of (f d _ (by simp) gd) off
  have cd0 := cd (Fr.refl _ _)
  simp only [faA_p, valA_some, ldA_n, Nat.zero_add, cd0, List.getElem?_cons_zero, List.getElem?_cons_succ]
  refine made_d hl1 hm ho1 hm2 hok 1500 (fun h2 f2 => ?_) fun h2 b bx n lays' l el t n1 n2 l1 l2 => ?_
  · rw [t0, valA_some, t1, valA_some, b_nn, valA_some, condA_t]
    exact hnil h2 (f1.trans f2)
  · have n2 := n2 (by decide)
    have hn : n = 1500 := by omega
    subst hn
    subst el
    have t2 := t
    obtain ⟨bw, bd, B, s, os, BL, tb, e1, e2⟩ := t
    have f2 := tb.R.fr
    rw [t0, valA_some, t1, valA_some, b_pn, valA_some, condA_f]
    refine join_r (fun (J : AV → H → Prop) => ∀ h' v rts, Fr [] h2 h' → Own h2 h' 25 1 v rts.length (wc rts) → rts.length ≤ 30 → (∀ w ∈ rts, 0 ≤ w ∧ w < 18446744073709551616) → J v h') (fun h' v rts a1 a2 a3 a4 => hK h1 h2 h' b bx l v rts f1 t2 l1 a1 a2 a3 a4) fun J hJ => ?_
    simp only [faA_p, valA_some, ldA_n, Nat.zero_add, cd f2, List.getElem?_cons_zero, List.getElem?_cons_succ, (hr1.fr f2).len]
    refine loop_r (rs.length + 1) (fun c ls h' => ∃ (i : Nat) (v : AV) (rts : List Int), ls = [v, .int .i64 i] ∧ i ≤ rs.length ∧ i ≤ 30 ∧ rts.length = i ∧ Fr [] h2 h' ∧ Own h2 h' 25 1 v rts.length (wc rts) ∧ (∀ w ∈ rts, 0 ≤ w ∧ w < 18446744073709551616) ∧ c = rs.length + 1 - i)
      ⟨0, .nilsl, [], rfl, by omega, by omega, rfl, Fr.refl _ _, Own.nil _ _ _ _, by simp, rfl⟩ ?_
    rintro c ls h3 ⟨i, v, rts, rfl, hi, hi30, hlen, f3, ov, hrng, rfl⟩
    rw [argA_0, argA_1, b_lss, valA_some]
    by_cases q : (i : Int) < rs.length
    · have hi' : i < rs.length := by omega
      obtain ⟨⟨w, nr⟩, hx⟩ : ∃ x, rs[i]? = some x := ⟨rs[i], by simp [hi']⟩
      have hw := hrr (w, nr) (List.mem_of_getElem? hx)
      obtain ⟨b', q', x1, x2, x3⟩ := ((hr1.fr f2).fr f3).el (i := i) (by omega) q
      have x3 : h3.read b' q' 2 = some [.int .u64 w, .bool nr] := by
        rw [x3, Int.toNat_natCast]
        exact congrArg some (flat_drop (fun x : Int × Bool => [AV.int .u64 x.1, AV.bool x.2]) 2 (fun _ => rfl) rs i (w, nr) hx)
      simp only [q, decide_true, condA_t, x1, valA_some, ldA_s, x3]
      refine boxR rfl fun r9 hr9 => ?_
      have st : stA (h3.set r9 (.live [.int .u64 0, .bool false] 146 true)) 2 (.ptr r9 0) (.agg [.int .u64 w, .bool nr]) = some (h3.set r9 (.live [.int .u64 w, .bool nr] 146 true)) := by
        simp only [stA_p, AV.cells, List.length_cons, List.length_nil, if_true]
        exact write_new rfl rfl
      rw [st, memA_some]
      have f4 : Fr [] h3 (h3.set r9 (.live [.int .u64 w, .bool nr] 146 true)) := (Fr.refl _ _).set' hr9
      have g4 : (h3.set r9 (.live [.int .u64 w, .bool nr] 146 true)).get r9 = some (.live [.int .u64 w, .bool nr] 146 true) := H.get_same ..
      have f34 := f3.trans f4
      have ov4 := ov.keep fun c n' p _ ob hg => f4 c ob (by simp) hg
      generalize h3.set r9 (.live [.int .u64 w, .bool nr] 146 true) = h4 at *
      have c9 : ∀ off, h4.cell r9 off = [AV.int .u64 w, .bool nr][off]? := fun off => cell_of g4 off
      have en : IntKind.i64.wrap ((i : Int) + 1) = ((i + 1 : Nat) : Int) := by
        have : reachBytes ≤ 4611686018427387904 := by decide
        rw [i64_id (by omega) (by omega)]; rfl
      rw [b_geq, valA_some]
      by_cases q3 : (30 : Int) ≤ i
      · simp only [q3, decide_true, condA_t]
        exact hJ h4 v rts f34 ov4 (by omega) hrng
      · simp only [q3, decide_false, condA_f, faA_p, valA_some, ldA_n, Nat.zero_add, c9, List.getElem?_cons_zero, List.getElem?_cons_succ]
        refine join_r (fun (J : AV → H → Prop) => ∀ w : Int, 0 ≤ w → w < 18446744073709551616 → J (.int .u64 w) h4) (fun w w0 w1 => ?_) fun J2 hJ2 => ?_
        · have ef : fillV [AV.int .u64 0] [(0, 1, .int .u64 w)] = some [.int .u64 w] := rfl
          rw [ef]
          refine append_one (h0 := h2) ov4 rfl (by decide) (wc_leaves _) rfl f34 (by unfold most; omega) fun v5 h5 o5 f5 _ => ?_
          rw [b_add, en, valA_some]
          refine ⟨rs.length + 1 - (i + 1), by omega, i + 1, v5, rts ++ [w], rfl, by omega, by omega, by simp [hlen], f5, ?_, fun y hy => ?_, rfl⟩
          · have : wc (rts ++ [w]) = wc rts ++ [.int .u64 w] := by simp [wc]
            rw [this, List.length_append]; exact o5
          · rcases List.mem_append.1 hy with hy | hy
            · exact hrng y hy
            · simp at hy; rw [hy]; exact ⟨w0, w1⟩
        · cases nr with
          | false =>
            simp only [whenA_ft, whenA_u, pickA_b, Bool.false_eq_true, if_false, valA_some, condA_f]
            exact hJ2 w hw.1 hw.2
          | true =>
            have tb4 := tb.keep0 f34
            obtain ⟨lvx, Lvx, cx, rlx, ovx⟩ := tb4.R.cells
            have cx2 : h4.cell bx 2 = some Lvx := cx 2
            simp only [whenA_tt, nilcA_p, valA_some, faA_p, ldA_n, Nat.zero_add, cx2, ovx.row.len, b_gtr, pickA_b, if_true]
            by_cases q4 : (0 : Int) < l.length
            · have e4 : IntKind.u64.wrap (l.length : Int) = l.length := u64_id (by omega) (by omega)
              have m0 := Int.emod_nonneg w (show (l.length : Int) ≠ 0 by omega)
              have m1 := Int.emod_lt_of_pos w q4
              have e5 : w.tmod (l.length : Int) = w % (l.length : Int) := Int.tmod_eq_emod_of_nonneg hw.1
              obtain ⟨k, hk⟩ := Int.eq_ofNat_of_zero_le m0
              rw [hk] at m1 e5
              have hkl : k < l.length := by omega
              have e6 : IntKind.i64.wrap (k : Int) = k := i64_id (by omega) (by omega)
              obtain ⟨y, hy⟩ : ∃ y, l[k]? = some y := ⟨l[k], by simp [hkl]⟩
              obtain ⟨bo, qo, q1, q2, q3'⟩ := ovx.obj hy
              obtain ⟨c3, c4, c0⟩ := cells3 q2
              have hyr := tb4.range y (List.mem_of_getElem? hy)
              have e7 : IntKind.u64.wrap y.r.a = y.r.a := u64_id (by omega) (by omega)
              have e8 : IntKind.u64.wrap (y.r.a * 2) = y.r.a * 2 := u64_id (by omega) (by omega)
              have nz : (l.length : Int) ≠ 0 := by omega
              simp only [q4, decide_true, condA_t, cvA_i, e4, valA_some, c9, List.getElem?_cons_zero, List.getElem?_cons_succ, b_rem nz, e5, e6, q1, faA_p, ldA_n, nilcA_p, cx2, ovx.row.len, Nat.zero_add, Nat.add_zero, c0, e7, b_mul, e8]
              exact hJ2 _ (by omega) (by omega)
            · simp only [q4, decide_false, condA_f]
              exact hJ2 w hw.1 hw.2
    · simp only [q, decide_false, condA_f]
      exact hJ h3 v rts f3 ov (by omega) hrng
end Go.Proofs.Ytljkkfcokpimkaa.X
set_option linter.unusedVariables false
set_option linter.unusedSimpArgs false
set_option maxRecDepth 20000
namespace Go.Proofs.Ytljkkfcokpimkaa.X
open Go Go.RowKit
section
variable {lays : List (Int × Int)} {os : List Ob} {rts : List Int} {R : Nat → Bool}
theorem fw_find (hR : ∀ a, R a = true ↔ Rch lays os rts a) {a : Nat} {o : Ob} (h : findO os a = some o) (hr : R a = true) : findO (newO lays R os) ((fw R os a : Nat) : Int) = some (newB lays (fw R os) o) := by
  have q := (new_find (R := R) (lays := lays) (fwd := fw R os) os 0 0 a o h (by rw [Nat.zero_add]; exact hr)).2
  rw [Nat.zero_add] at q
  have e : ∀ x : Nat, ((x : Int) - ((0 : Nat) : Int)) = x := fun x => by omega
  rw [e] at q
  exact q
theorem fwdW_ptr {fwd : Nat → Nat} {w : Int} (h : w % 2 ≠ 1) : fwdW fwd w % 2 ≠ 1 ∧ (fwdW fwd w / 2).toNat = fwd (w / 2).toNat := by
  unfold fwdW
  rw [if_neg h]
  omega
theorem fwdW_imm {fwd : Nat → Nat} {w : Int} (h : w % 2 = 1) : fwdW fwd w = w := by unfold fwdW; rw [if_pos h]
theorem new_fitAll (fit : fitAll lays os) (hR : ∀ a, R a = true ↔ Rch lays os rts a) : fitAll lays (newO lays R os) := fun o ho k3 w hw => by
  obtain ⟨a, ob, h1, h2, rfl⟩ := new_mem os 0 o ho
  rw [Nat.zero_add] at h2
  have hob : ob ∈ os := by obtain ⟨p, q, rfl, _⟩ := findO_split os _ ob h1; simp
  have k3 : kindAt lays ob.sh ≠ 3 := k3
  simp only [newB, if_neg k3] at hw
  obtain ⟨w0, hw0, rfl⟩ := List.mem_map.1 hw
  refine new_fits (s := ⟨[], [], lays, 0⟩) (fit ob hob k3 w0 hw0) fun q hq => (hR q).2 ?_
  unfold fieldC at hq
  split at hq
  · cases hq
  · rename_i h
    injection hq with hq
    rw [← hq]
    exact .fld ((hR a).1 h2) h1 k3 hw0 h
theorem new_rts (hf : ∀ w ∈ rts, fitsO os w = true) (hR : ∀ a, R a = true ↔ Rch lays os rts a) : ∀ w ∈ rts.map (fwdW (fw R os)), fitsO (newO lays R os) w = true := fun w hw => by
  obtain ⟨w0, hw0, rfl⟩ := List.mem_map.1 hw
  refine new_fits (s := ⟨[], [], lays, 0⟩) (hf w0 hw0) fun q hq => (hR q).2 ?_
  unfold fieldC at hq
  split at hq
  · cases hq
  · rename_i h
    injection hq with hq
    rw [← hq]
    exact .root hw0 h
theorem new_rts_range (hrr : ∀ w ∈ rts, 0 ≤ w ∧ w < 18446744073709551616) (hf : ∀ w ∈ rts, fitsO os w = true) (hR : ∀ a, R a = true ↔ Rch lays os rts a) (hl : (rowOf (newO lays R os)).length ≤ 65536) : ∀ w ∈ rts.map (fwdW (fw R os)), 0 ≤ w ∧ w < 18446744073709551616 := fun w hw => by
  have hfit := new_rts hf hR w hw
  obtain ⟨w0, hw0, rfl⟩ := List.mem_map.1 hw
  by_cases q : w0 % 2 = 1
  · rw [fwdW_imm q]; exact hrr w0 hw0
  · obtain ⟨e1, e2⟩ := fwdW_ptr (fwd := fw R os) q
    rcases fit_ptr hfit with ⟨_, e⟩ | ⟨_, _, hA, e3⟩
    · exact absurd e e1
    · obtain ⟨o, ho⟩ := Option.isSome_iff_exists.1 hA
      have := findO_lt _ _ o ho
      omega
end
end Go.Proofs.Ytljkkfcokpimkaa.X
set_option linter.unusedVariables false
set_option linter.unusedSimpArgs false
set_option maxRecDepth 20000
namespace Go.Proofs.Ytljkkfcokpimkaa.X
open Go Go.RowKit
def shCase : Sh := .st [.sl (.st [.int .i64, .int .i64]), .sl (.st [.int .i64, .int .i64, .int .i64, .int .u64, .bool]), .sl (.st [.int .u64, .bool])]
structure Case (h1 h2 h' : H) (b bw bd : Nat) (B : List Nat) (s : Hs) (os : List Ob) (bx : Nat) (BL : List Nat) (l : List RV) (v : AV) (rts : List Int) : Prop where
  both : Both h1 h2 b bw bd B s os bx BL l
  wl : s.words.length = 1500
  ll : l.length ≤ 150
  fr : Fr [] h2 h'
  own : Own h2 h' 25 1 v rts.length (wc rts)
  rl : rts.length ≤ 30
  rr : ∀ w ∈ rts, 0 ≤ w ∧ w < 18446744073709551616
section
variable {h h1 h2 h' : H} {b bw bd bx : Nat} {B BL : List Nat} {s : Hs} {os : List Ob} {l : List RV} {v : AV} {rts : List Int}
theorem Case.keep (c : Case h1 h2 h' b bw bd B s os bx BL l v rts) {h3 : H} (f : Fr [] h' h3) : Case h1 h2 h3 b bw bd B s os bx BL l v rts :=
  ⟨c.both, c.wl, c.ll, c.fr.trans f, c.own.keep fun k n p _ ob hg => f k ob (by simp) hg, c.rl, c.rr⟩
theorem Case.now (c : Case h1 h2 h' b bw bd B s os bx BL l v rts) : Both h1 h' b bw bd B s os bx BL l := c.both.keep0 c.fr
theorem Case.hs (c : Case h1 h2 h' b bw bd B s os bx BL l v rts) : HS h' b bw bd B s.lays 1500 os := ⟨s, c.now.hh, c.both.A, rfl, c.wl⟩
theorem Case.fit (c : Case h1 h2 h' b bw bd B s os bx BL l v rts) : fitAll s.lays os := c.both.fit
theorem Case.wh (c : Case h1 h2 h' b bw bd B s os bx BL l v rts) : wholeO s.lays os = true := c.both.whole
theorem Case.row (c : Case h1 h2 h' b bw bd B s os bx BL l v rts) {h3 : H} {S : List Nat} (f : Fr S h' h3) (hS : ∀ k ∈ S, k ∈ b :: bw :: bd :: B ∨ h'.get k = none) : Row h3 v rts.length 1 (wc rts) := by
  refine c.own.row.mono fun k off cap ob e hg => ?_
  refine f k ob (fun q => ?_) hg
  rcases hS k q with q | q
  · rcases c.own.2 with ⟨_, e2⟩ | ⟨k2, e2, e3, _⟩
    · rw [e2] at e; cases e
    · rw [e2] at e; injection e with e
      rw [e] at e3
      exact c.both.hh.alive k q e3
  · rw [q] at hg; cases hg
theorem start_c {lv Lo vr : AV} {lays : List (Int × Int)} {ops : List OpI} {rs : List (Int × Bool)} (hl : Row h lv lays.length 2 (lc lays)) (hm : lays.length ≤ reachBytes) (ho : Row h Lo ops.length 5 (opsC ops)) (hm2 : ops.length ≤ reachBytes) (hok : ∀ o ∈ ops, o.ok)
    (hr : Row h vr rs.length 2 (rc rs)) (hrr : ∀ x ∈ rs, 0 ≤ x.1 ∧ x.1 < 18446744073709551616) (hm3 : rs.length ≤ reachBytes) {X : H → Prop} {Y : AV → AV → AV → AV → H → Prop} (hX : ∀ h', X h')
    (hY : ∀ h1 h2 h' d b bw bd B s os bx BL l v rts, h1.get d = some (.live [lv, Lo, vr] 114 true) → Fr [] h h1 → s.lays = lays → Case h1 h2 h' b bw bd B s os bx BL l v rts → rts.all (fitsO os) = true → Y (.ptr d 0) (.ptr b 0) (.ptr bx 0) v h') :
    boxA h (AV.cells (.agg [lv, Lo, vr])) 114 fun c1 h => valA (ldA h (some 3) c1) h fun t16 h => C 89 [t16] h fun t17 h => valA (extA t17 0) h fun t18 h => valA (extA t17 1) h fun t19 h => valA (extA t17 2) h fun t20 h => valA (binOp .eql .ptr t18 .nilp) h fun t22 h =>
      whenA t22 false (fun K => K t19 h) h fun t24 h => whenA t22 false (fun K => K t20 h) h fun t25 h => whenA t22 false (fun K => C 90 [t24, t25] h K) h fun t26 h => whenA t22 false (fun K => valA (unOp .not t26) h K) h fun t27 h => valA (pickA t22 (.bool true) t27) h fun t28 h =>
      condA t28 (X h) (Y c1 t18 t19 t20 h) := by
  have elv : leaves [lv, Lo, vr] = true := by simp only [leaves, hl.one.1, ho.one.1, hr.one.1]; rfl
  have t0 : ∀ a c d : AV, extA (.tup [a, c, d]) 0 = some a := fun _ _ _ => rfl
  have t1 : ∀ a c d : AV, extA (.tup [a, c, d]) 1 = some c := fun _ _ _ => rfl
  have t2 : ∀ a c d : AV, extA (.tup [a, c, d]) 2 = some d := fun _ _ _ => rfl
  show boxA h [lv, Lo, vr] 114 _
  refine boxR elv fun d hd => ?_
  have f1 : Fr [] h (h.set d (.live [lv, Lo, vr] 114 true)) := (Fr.refl _ _).set' hd
  have gd : (h.set d (.live [lv, Lo, vr] 114 true)).get d = some (.live [lv, Lo, vr] 114 true) := H.get_same ..
  have hl1 := hl.fr f1; have ho1 := ho.fr f1; have hr1 := hr.fr f1
  generalize h.set d (.live [lv, Lo, vr] 114 true) = h0 at *
  have ld : ldA h0 (some 3) (.ptr d 0) = some (.agg [lv, Lo, vr]) := by
    rw [ldA_s, H.read_eq (n := 3) gd (by simp) rfl]; rfl
  rw [ld, valA_some]
  refine case_c hl1 hm ho1 hm2 hok hr1 hrr hm3 (fun h2 f2 => ?_) fun h1 h2 h3 b bx l v rts f2 t ll f3 ov rl rr => ?_
  · rw [t0, valA_some, t1, valA_some, t2, valA_some, b_nn, valA_some]
    simp only [whenA_tf, pickA_b, if_true, valA_some, condA_t]
    exact hX h2
  · obtain ⟨bw, bd, B, s, os, BL, tb, e1, e2⟩ := t
    have c : Case h1 h2 h3 b bw bd B s os bx BL l v rts := ⟨tb, e1, ll, f3, ov, rl, rr⟩
    rw [t0, valA_some, t1, valA_some, t2, valA_some, b_pn, valA_some]
    simp only [whenA_ff]
    refine rfit_c c.now.R (by omega) ov.row rr (by omega) fun h4 f4 => ?_
    rw [u_not, valA_some]
    simp only [pickA_b, Bool.false_eq_true, if_false, valA_some]
    rw [← tb.r.fitsAll rts]
    cases hf : rts.all (fitsO os) with
    | true =>
      simp only [Bool.not_true, condA_f]
      exact hY h1 h2 h4 d b bw bd B s os bx BL l v rts (f2 d _ (by simp) gd) (f1.trans f2) e2 (c.keep f4) hf
    | false =>
      simp only [Bool.not_false, condA_t]
      exact hX h4
end
theorem gcYes {h : H} : C 86 [] h fun t h => yes t h := gcLives_c fun _ _ => rfl
end Go.Proofs.Ytljkkfcokpimkaa.X
set_option linter.unusedVariables false
set_option linter.unusedSimpArgs false
set_option maxRecDepth 20000
namespace Go.Proofs.Ytljkkfcokpimkaa.X
open Go Go.RowKit
def gb : List (Int × Int) := [(3, 0)]
end Go.Proofs.Ytljkkfcokpimkaa.X
set_option linter.unusedVariables false
set_option linter.unusedSimpArgs false
set_option maxRecDepth 20000
namespace Go.Proofs.Ytljkkfcokpimkaa.X
open Go Go.RowKit
section
variable {h : H} {b bw bd : Nat} {B : List Nat} {lays : List (Int × Int)} {n : Nat} {os : List Ob}
theorem HS.frN {h' : H} (t : HS h b bw bd B lays n os) (f : FrN h h') : HS h' b bw bd B lays n os := by
  obtain ⟨s, hh, q⟩ := t
  exact ⟨s, hh.frN f, q⟩
theorem HS.own {h0 h' : H} {S : List Nat} {v : AV} {k : Nat} {cs : List AV} (t : HS h b bw bd B lays n os) (o : Own h0 h 3 1 v k cs) (f : Fr S h h') (hS : ∀ c ∈ S, c ∈ [b, bw, bd]) : Own h0 h' 3 1 v k cs := by
  refine o.keep fun c n' p e ob hg => f c ob (fun q => ?_) hg
  obtain ⟨s, hh, _⟩ := t
  obtain ⟨lv, g1, _⟩ := hh.st
  have hq := hS c q
  rcases o.2 with ⟨_, e2⟩ | ⟨b', e2, _, g⟩
  · rw [e2] at e; cases e
  · rw [e2] at e; injection e with e; subst e
    simp only [List.mem_cons, List.not_mem_nil, or_false] at hq
    rcases hq with rfl | rfl | rfl
    · rw [g1] at g; injection g with g; injection g with _ g _; cases g
    · have g2 := hh.wd; rw [g2] at g; injection g with g; injection g with _ g _; cases g
    · have g2 := hh.hd; rw [g2] at g; injection g with g; injection g with _ g _; cases g
end
end Go.Proofs.Ytljkkfcokpimkaa.X
set_option linter.unusedVariables false
set_option linter.unusedSimpArgs false
set_option maxRecDepth 20000
namespace Go.Proofs.Ytljkkfcokpimkaa.X
open Go Go.RowKit
def Qu (h0 h : H) (v : AV) (L : List Int) : Prop := ∃ b c pre, v = .sl b pre.length L.length c ∧ h0.get b = none ∧ h.get b = some (.live (pre ++ wc L) 25 true) ∧ (c = .more 1 ∨ (L = [] ∧ c = .exact 0)) ∧ leaves pre = true
theorem Qu.len {h0 h : H} {v : AV} {L : List Int} (q : Qu h0 h v L) : lenA false v = some (.int .i64 L.length) := by
  obtain ⟨b, c, pre, rfl, _⟩ := q; rfl
theorem Qu.mono {h0 h h' : H} {v : AV} {L : List Int} (q : Qu h0 h v L) (f : ∀ c o, h0.get c = none → h.get c = some o → h'.get c = some o) : Qu h0 h' v L := by
  obtain ⟨b, c, pre, e, hb0, hbl, r⟩ := q
  exact ⟨b, c, pre, e, hb0, f b _ hb0 hbl, r⟩
def bo (l : List Bool) : List AV := l.map AV.bool
theorem Rel.uniq {lays : List (Int × Int)} : ∀ {p : Nat} {os : List Ob} {l : List RV}, Rel lays p os l → ∀ x ∈ l, ∀ y ∈ l, x.r.a = y.r.a → x = y
  | _, [], [], _, x, hx, _, _, _ => by cases hx
  | _, [], _ :: _, h, _, _, _, _, _ => h.elim
  | _, _ :: _, [], h, _, _, _, _, _ => h.elim
  | p, o :: os, z :: l, h, x, hx, y, hy, e => by
    have hz := h.1
    have hp := h.2.2.pos
    have := row_pos o
    rcases List.mem_cons.1 hx with e1 | h1
    · rcases List.mem_cons.1 hy with e2 | h2
      · rw [e1, e2]
      · have := hp y h2; rw [e1] at e; omega
    · rcases List.mem_cons.1 hy with e2 | h2
      · have := hp x h1; rw [e2] at e; omega
      · exact h.2.2.uniq x h1 y h2 e
theorem Rel.place {lays : List (Int × Int)} : ∀ {p : Nat} {os : List Ob} {l : List RV}, Rel lays p os l → ∀ {i j : Nat} {x : RV}, l[i]? = some x → l[j]? = some x → i = j
  | _, [], [], _, i, j, x, hx, _ => by simp at hx
  | _, [], _ :: _, h, _, _, _, _, _ => h.elim
  | _, _ :: _, [], h, _, _, _, _, _ => h.elim
  | p, o :: os, z :: l, h, i, j, x, hx, hy => by
    have hz := h.1
    have hp := h.2.2.pos
    have := row_pos o
    cases i with
    | zero =>
      cases j with
      | zero => rfl
      | succ j => simp at hx hy; subst hx; have := hp _ (List.mem_of_getElem? hy); omega
    | succ i =>
      cases j with
      | zero => simp at hx hy; subst hy; have := hp _ (List.mem_of_getElem? hx); omega
      | succ j => simp at hx hy; rw [h.2.2.place hx hy]
structure RMk (lays : List (Int × Int)) (os : List Ob) (rts : List Int) (l : List RV) (ms : List Bool) (T : List Int) : Prop where
  ml : ms.length = l.length
  s : ∀ (i : Nat) (x : RV), l[i]? = some x → ms[i]? = some true → Rch lays os rts x.r.a.toNat
  t : ∀ w ∈ T, (0 ≤ w ∧ w < 18446744073709551616) ∧ (w % 2 ≠ 1 → Rch lays os rts (w / 2).toNat)
  r : ∀ w ∈ rts, w % 2 ≠ 1 → w ∈ T ∨ ∃ (i : Nat) (x : RV), l[i]? = some x ∧ ms[i]? = some true ∧ x.r.a = w / 2
  c : ∀ (i : Nat) (x : RV), l[i]? = some x → ms[i]? = some true → ∀ w ∈ x.r.fs, w % 2 ≠ 1 → w ∈ T ∨ ∃ (i : Nat) (x : RV), l[i]? = some x ∧ ms[i]? = some true ∧ x.r.a = w / 2
section
variable {lays : List (Int × Int)} {os : List Ob} {rts : List Int} {l : List RV} {ms : List Bool} {T : List Int} {w : Int}
theorem RMk.put (A : ∀ o ∈ os, ∀ w ∈ o.body, 0 ≤ w ∧ w < 18446744073709551616) (rel : Rel lays 0 os l) (M : RMk lays os rts l ms (w :: T)) (hw : w % 2 ≠ 1) {i : Nat} {x : RV} (hx : l[i]? = some x) (hxa : x.r.a = w / 2) (hat : atR l (w / 2) = some x) (hi : ms[i]? = some false) : RMk lays os rts l (ms.set i true) (T ++ x.r.fs) := by
  have hlt : i < ms.length := (List.getElem?_eq_some_iff.1 hi).1
  have w0 := (M.t w (by simp)).1
  have hr : Rch lays os rts x.r.a.toNat := by rw [hxa]; exact (M.t w (by simp)).2 hw
  have keep : ∀ {j : Nat}, ms[j]? = some true → (ms.set i true)[j]? = some true := fun {j} h => by
    rw [List.getElem?_set]; split
    · first | rfl | rw [if_pos hlt]
    · exact h
  have here : (ms.set i true)[i]? = some true := by rw [List.getElem?_set, if_pos rfl, if_pos hlt]
  have one : ∀ u, u % 2 ≠ 1 → (u ∈ w :: T ∨ ∃ (i : Nat) (x : RV), l[i]? = some x ∧ ms[i]? = some true ∧ x.r.a = u / 2) → (u ∈ T ++ x.r.fs ∨ ∃ (j : Nat) (x : RV), l[j]? = some x ∧ (ms.set i true)[j]? = some true ∧ x.r.a = u / 2) := fun u hu q => by
    rcases q with q | ⟨j, y, h1, h2, h3⟩
    · rcases List.mem_cons.1 q with rfl | q
      · exact .inr ⟨i, x, hx, here, hxa⟩
      · exact .inl (by simp [q])
    · exact .inr ⟨j, y, h1, keep h2, h3⟩
  -- the object itself
  have hob : ∃ o, findO os (w / 2) = some o ∧ RelO lays o x.r := by
    rcases rel.find0 (w / 2) with ⟨_, e⟩ | ⟨o, y, e1, e2, e3, _⟩
    · rw [hat] at e; cases e
    · rw [hat] at e2; injection e2 with e2; subst e2; exact ⟨o, e1, e3⟩
  obtain ⟨o, ho, hro⟩ := hob
  have hfs : ∀ u ∈ x.r.fs, kindAt lays o.sh ≠ 3 ∧ u ∈ o.body := fun u hu => by
    have h3 := hro.2.2
    split at h3
    · rw [h3.1] at hu; cases hu
    · rename_i k; exact ⟨k, by rw [← h3.1]; exact hu⟩
  refine ⟨by rw [List.length_set]; exact M.ml, fun j y hy hm => ?_, fun u hu => ?_, fun u hu q => one u q (M.r u hu q), fun j y hy hm u hu q => ?_⟩
  · by_cases e : i = j
    · subst e; rw [hx] at hy; injection hy with hy; subst hy; exact hr
    · rw [List.getElem?_set_ne e] at hm; exact M.s j y hy hm
  · rcases List.mem_append.1 hu with hu | hu
    · exact M.t u (by simp [hu])
    · obtain ⟨k3, hb⟩ := hfs u hu
      refine ⟨A o (by obtain ⟨p, q, rfl, _⟩ := findO_split os _ o ho; simp) u hb, fun q => ?_⟩
      refine Rch.fld hr (o := o) ?_ k3 hb q
      rw [hxa, show (((w / 2).toNat : Nat) : Int) = w / 2 by omega]; exact ho
  · by_cases e : i = j
    · subst e; rw [hx] at hy; injection hy with hy; subst hy
      exact .inl (by simp [hu])
    · rw [List.getElem?_set_ne e] at hm; exact one u q (M.c j y hy hm u hu q)
theorem RMk.done (A : ∀ o ∈ os, ∀ w ∈ o.body, 0 ≤ w ∧ w < 18446744073709551616) (rr : ∀ w ∈ rts, 0 ≤ w ∧ w < 18446744073709551616) (rel : Rel lays 0 os l) (M : RMk lays os rts l ms []) {a : Nat} (h : Rch lays os rts a) : ∃ (i : Nat) (x : RV), l[i]? = some x ∧ ms[i]? = some true ∧ x.r.a = a := by
  induction h with
  | @root w h1 h2 =>
    rcases M.r _ h1 h2 with q | ⟨i, x, e1, e2, e3⟩
    · cases q
    · have := rr _ h1
      exact ⟨i, x, e1, e2, by rw [e3]; omega⟩
  | @fld a o w h1 h2 h3 h4 h5 ih =>
    obtain ⟨i, x, e1, e2, e3⟩ := ih
    have hob : RelO lays o x.r := by
      rcases rel.find0 (a : Int) with ⟨e, _⟩ | ⟨o', y, q1, q2, q3, q4⟩
      · rw [h2] at e; cases e
      · rw [h2] at q1; injection q1 with q1; subst q1
        have hxm := List.mem_of_getElem? e1
        have hym : y ∈ l := List.mem_of_find?_eq_some q2
        have : x = y := rel.uniq x hxm y hym (by rw [e3, q4])
        rw [this]; exact q3
    have hf : w ∈ x.r.fs := by
      have q := hob.2.2
      rw [if_neg h3] at q
      rw [q.1]; exact h4
    have hw0 := A o (by obtain ⟨p, q, rfl, _⟩ := findO_split os _ o h2; simp) w h4
    rcases M.c i x e1 e2 w hf h5 with q | ⟨j, y, q1, q2, q3⟩
    · cases q
    · exact ⟨j, y, q1, q2, by rw [q3]; omega⟩
end
end Go.Proofs.Ytljkkfcokpimkaa.X
