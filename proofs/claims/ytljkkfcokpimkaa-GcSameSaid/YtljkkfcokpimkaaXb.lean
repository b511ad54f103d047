/- The plain machine's values and memory, and the model's: what it means that they are the same; that the ways to change memory keep it. -/
import Derived.Test.YtljkkfcokpimkaaXa
import Derived.WalkKit
import Derived.Laws.IdiomCopy
import Derived.Lib.ConvBytes
set_option linter.unusedVariables false
set_option linter.unusedSimpArgs false
namespace Go.Proofs.Ytljkkfcokpimkaa.X
open Go Go.RowKit

/-- Where a block lies: the model's block, the cell where it begins, how many cells that block has, how many an element takes. -/
structure Reg where
  cb : Nat
  sh : Nat
  size : Nat
  esz : Nat

abbrev Map := Nat → Option Reg
def Map.le (ρ ρ' : Map) : Prop := ∀ b r, ρ b = some r → ρ' b = some r
theorem Map.le_refl (ρ : Map) : ρ.le ρ := fun _ _ h => h
theorem Map.le_trans {ρ ρ' ρ'' : Map} (h : ρ.le ρ') (h' : ρ'.le ρ'') : ρ.le ρ'' := fun b r x => h' b r (h b r x)

def capR (r : Reg) (o n : Nat) (c' : Nat) : Cap → Prop
  | .exact k => c' = k ∧ n ≤ k
  | .more z => z = r.esz ∧ r.sh + o + c' * r.esz = r.size ∧ n ≤ c'
  | .any => n ≤ c'

def slAt (r : Reg) (o n c' : Nat) (cap : Cap) (a : Addr) : Prop := a = ⟨r.cb, r.sh + o, none⟩ ∨ n = 0 ∧ (c' = 0 ∨ cap = .any)

mutual
def VR (ρ : Map) : AV → Value → Prop
  | .undef, v => v = .tuple #[]
  | .int k n, v => v = .int k n
  | .bool b, v => v = .bool b
  | .str s, v => v = .string ⟨s.toArray⟩
  | .ptr b o, v => ∃ r, ρ b = some r ∧ v = .pointer (some ⟨r.cb, r.sh + o, none⟩)
  | .nilp, v => v = .pointer none
  | .sl b o n c, v => ∃ r a c', ρ b = some r ∧ capR r o n c' c ∧ slAt r o n c' c a ∧ v = .slice (some a) n c'
  | .nilsl, v => v = .slice none 0 0
  | .fn f x y, v => ∃ x' y', VRL ρ x x' ∧ VRL ρ y y' ∧ v = .func (.func f) x'.toArray y'.toArray
  | .nilfn, v => v = .nilFunc
  | .agg l, v => ∃ l', VRL ρ l l' ∧ v = .agg l'.toArray
  | .tup l, v => ∃ l', VRL ρ l l' ∧ v = .tuple l'.toArray
def VRL (ρ : Map) : List AV → List Value → Prop
  | [], l => l = []
  | x :: xs, l => ∃ y ys, l = y :: ys ∧ VR ρ x y ∧ VRL ρ xs ys
end

mutual
theorem VR.mono {ρ ρ' : Map} (h : ρ.le ρ') : ∀ (x : AV) (v : Value), VR ρ x v → VR ρ' x v
  | .undef, _, hv => by simpa [VR] using hv
  | .int .., _, hv => by simpa [VR] using hv
  | .bool _, _, hv => by simpa [VR] using hv
  | .str _, _, hv => by simpa [VR] using hv
  | .nilp, _, hv => by simpa [VR] using hv
  | .nilsl, _, hv => by simpa [VR] using hv
  | .nilfn, _, hv => by simpa [VR] using hv
  | .ptr b o, _, hv => by
    simp only [VR] at hv ⊢
    obtain ⟨r, h1, h2⟩ := hv
    exact ⟨r, h _ _ h1, h2⟩
  | .sl .., _, hv => by
    simp only [VR] at hv ⊢
    obtain ⟨r, a, c', h1, h2⟩ := hv
    exact ⟨r, a, c', h _ _ h1, h2⟩
  | .fn f x y, _, hv => by
    simp only [VR] at hv ⊢
    obtain ⟨x', y', h1, h2, h3⟩ := hv
    exact ⟨x', y', VRL.mono h x _ h1, VRL.mono h y _ h2, h3⟩
  | .agg l, _, hv => by
    simp only [VR] at hv ⊢
    obtain ⟨l', h1, h2⟩ := hv
    exact ⟨l', VRL.mono h l _ h1, h2⟩
  | .tup l, _, hv => by
    simp only [VR] at hv ⊢
    obtain ⟨l', h1, h2⟩ := hv
    exact ⟨l', VRL.mono h l _ h1, h2⟩
theorem VRL.mono {ρ ρ' : Map} (h : ρ.le ρ') : ∀ (x : List AV) (v : List Value), VRL ρ x v → VRL ρ' x v
  | [], _, hv => by simpa [VRL] using hv
  | x :: xs, _, hv => by
    simp only [VRL] at hv ⊢
    obtain ⟨y, ys, h1, h2, h3⟩ := hv
    exact ⟨y, ys, h1, VR.mono h x y h2, VRL.mono h xs ys h3⟩
end

theorem VRL.length {ρ : Map} : ∀ {x : List AV} {v : List Value}, VRL ρ x v → v.length = x.length
  | [], _, h => by simp [VRL] at h; simp [h]
  | _ :: xs, _, h => by
    simp only [VRL] at h
    obtain ⟨y, ys, rfl, _, h⟩ := h
    simp [VRL.length h]
theorem VRL.get {ρ : Map} : ∀ {x : List AV} {v : List Value}, VRL ρ x v → ∀ (i : Nat) (a : AV), x[i]? = some a → ∃ b, v[i]? = some b ∧ VR ρ a b
  | [], _, _, i, a, hi => by simp at hi
  | x :: xs, _, h, i, a, hi => by
    simp only [VRL] at h
    obtain ⟨y, ys, rfl, hy, h⟩ := h
    cases i with
    | zero => simp at hi; subst hi; exact ⟨y, rfl, hy⟩
    | succ i => simpa using VRL.get h i a (by simpa using hi)
theorem VRL.of_get {ρ : Map} : ∀ {x : List AV} {v : List Value}, v.length = x.length → (∀ (i : Nat) (a : AV) (b : Value), x[i]? = some a → v[i]? = some b → VR ρ a b) → VRL ρ x v
  | [], v, hl, _ => by simp [VRL]; exact List.eq_nil_of_length_eq_zero (by simpa using hl)
  | x :: xs, [], hl, _ => by simp at hl
  | x :: xs, y :: ys, hl, h => by
    simp only [VRL]
    exact ⟨y, ys, rfl, h 0 x y rfl rfl, VRL.of_get (by simpa using hl) (fun i a b h1 h2 => h (i + 1) a b (by simpa using h1) (by simpa using h2))⟩
theorem VRL.append {ρ : Map} {x x' : List AV} {v v' : List Value} (h : VRL ρ x v) (h' : VRL ρ x' v') : VRL ρ (x ++ x') (v ++ v') := by
  induction x generalizing v with
  | nil => simp [VRL] at h; subst h; simpa using h'
  | cons a xs ih =>
    simp only [VRL] at h
    obtain ⟨y, ys, rfl, hy, h⟩ := h
    simp only [List.cons_append, VRL]
    exact ⟨y, ys ++ v', rfl, hy, ih h⟩
theorem VRL.take {ρ : Map} (n : Nat) {x : List AV} {v : List Value} (h : VRL ρ x v) : VRL ρ (x.take n) (v.take n) := by
  induction n generalizing x v with
  | zero => simp [VRL]
  | succ n ih =>
    cases x with
    | nil => simp [VRL] at h; subst h; simp [VRL]
    | cons a xs =>
      simp only [VRL] at h
      obtain ⟨y, ys, rfl, hy, h⟩ := h
      simp only [List.take_succ_cons, VRL]
      exact ⟨y, _, rfl, hy, ih h⟩
theorem VRL.drop {ρ : Map} (n : Nat) {x : List AV} {v : List Value} (h : VRL ρ x v) : VRL ρ (x.drop n) (v.drop n) := by
  induction n generalizing x v with
  | zero => simpa using h
  | succ n ih =>
    cases x with
    | nil => simp [VRL] at h; subst h; simp [VRL]
    | cons a xs =>
      simp only [VRL] at h
      obtain ⟨y, ys, rfl, hy, h⟩ := h
      simpa using ih h
theorem VRL.set {ρ : Map} {x : List AV} {v : List Value} (h : VRL ρ x v) (i : Nat) {a : AV} {b : Value} (hab : VR ρ a b) : VRL ρ (x.set i a) (v.set i b) := by
  induction x generalizing v i with
  | nil => simp [VRL] at h; subst h; simp [VRL]
  | cons c xs ih =>
    simp only [VRL] at h
    obtain ⟨y, ys, rfl, hy, h⟩ := h
    cases i with
    | zero => simp only [List.set_cons_zero, VRL]; exact ⟨b, ys, rfl, hab, h⟩
    | succ i => simp only [List.set_cons_succ, VRL]; exact ⟨y, _, rfl, hy, ih h i⟩
theorem VRL.cons {ρ : Map} {x : AV} {y : Value} {xs : List AV} {ys : List Value} (h : VR ρ x y) (h' : VRL ρ xs ys) : VRL ρ (x :: xs) (y :: ys) := by
  simp only [VRL]; exact ⟨y, ys, rfl, h, h'⟩
theorem VRL.nil' {ρ : Map} : VRL ρ [] [] := by simp [VRL]
theorem VRL.replicate_undef {ρ : Map} (n : Nat) : VRL ρ (List.replicate n .undef) (List.replicate n Go.undef) := by
  induction n with
  | zero => exact VRL.nil'
  | succ n ih => simp only [List.replicate_succ]; exact .cons (by simp [VR, Go.undef]) ih
theorem VRL.overlay {ρ : Map} : ∀ {ws : List AV} {us : List Value} {x : List AV} {v : List Value} (off : Nat), VRL ρ ws us → VRL ρ x v → ∃ v', VRL ρ (X.overlay x off ws) v' ∧ v'.length = v.length ∧ ∀ k, v'[k]? = if off ≤ k ∧ k < off + us.length ∧ k < v.length then us[k - off]? else v[k]?
  | [], us, x, v, off, hw, hx => by
    simp [VRL] at hw; subst hw
    exact ⟨v, hx, rfl, fun k => by rw [if_neg (by simp; omega)]⟩
  | w :: ws, us, x, v, off, hw, hx => by
    simp only [VRL] at hw
    obtain ⟨u, us, rfl, hu, hw⟩ := hw
    obtain ⟨v', h1, h2, h3⟩ := VRL.overlay (off + 1) hw (hx.set off hu)
    refine ⟨v', h1, by simpa using h2, fun k => ?_⟩
    rw [h3]
    simp only [List.length_set, List.length_cons, List.getElem?_set]
    by_cases e : off = k
    · subst e
      rw [if_neg (by omega)]
      by_cases hl : off < v.length
      · simp [hl]
      · simp [hl]
    · by_cases hc : off + 1 ≤ k ∧ k < off + 1 + us.length ∧ k < v.length
      · rw [if_pos hc, if_pos (by omega)]
        obtain ⟨j, hj⟩ : ∃ j, k - off = j + 1 := ⟨k - off - 1, by omega⟩
        rw [hj, show k - (off + 1) = j by omega]; simp
      · rw [if_neg hc, if_neg e, if_neg (by omega)]

theorem overlay_length : ∀ (ws x : List AV) (off : Nat), (X.overlay x off ws).length = x.length
  | [], _, _ => rfl
  | w :: ws, x, off => by rw [X.overlay, overlay_length ws]; simp
theorem overlay_get : ∀ (ws x : List AV) (off k : Nat), (X.overlay x off ws)[k]? = if off ≤ k ∧ k < off + ws.length ∧ k < x.length then ws[k - off]? else x[k]?
  | [], x, off, k => by rw [X.overlay, if_neg (by simp; omega)]
  | w :: ws, x, off, k => by
    rw [X.overlay, overlay_get ws]
    simp only [List.length_set, List.length_cons, List.getElem?_set]
    by_cases e : off = k
    · subst e
      rw [if_neg (by omega)]
      by_cases hl : off < x.length
      · simp [hl]
      · simp [hl]
    · by_cases hc : off + 1 ≤ k ∧ k < off + 1 + ws.length ∧ k < x.length
      · rw [if_pos hc, if_pos (by omega)]
        obtain ⟨j, hj⟩ : ∃ j, k - off = j + 1 := ⟨k - off - 1, by omega⟩
        rw [hj, show k - (off + 1) = j by omega]; simp
      · rw [if_neg hc, if_neg e, if_neg (by omega)]

theorem leaf_oneCell {ρ : Map} {x : AV} {v : Value} (h : VR ρ x v) (hl : x.leaf = true) : v.oneCell' = true := by
  cases x <;> simp [AV.leaf] at hl <;> simp only [VR] at h
  case ptr => obtain ⟨_, _, rfl⟩ := h; rfl
  case sl => obtain ⟨_, _, _, _, _, _, rfl⟩ := h; rfl
  case fn => obtain ⟨_, _, _, _, rfl⟩ := h; rfl
  all_goals subst h; rfl
theorem leaf_cells {x : AV} (hl : x.leaf = true) : x.cells = [x] := by cases x <;> simp [AV.leaf] at hl <;> rfl
theorem leaf_vcells {v : Value} (hl : v.oneCell' = true) : v.cells = #[v] := by cases v <;> simp [Value.oneCell'] at hl <;> rfl
theorem leaves_all : ∀ {l : List AV}, leaves l = true → ∀ a ∈ l, a.leaf = true
  | [], _, a, h => by simp at h
  | x :: l, h, a, ha => by
    simp only [leaves, Bool.and_eq_true] at h
    rcases List.mem_cons.1 ha with rfl | ha
    · exact h.1
    · exact leaves_all h.2 a ha
theorem leaves_of_all : ∀ {l : List AV}, (∀ a ∈ l, a.leaf = true) → leaves l = true
  | [], _ => rfl
  | x :: l, h => by simp only [leaves, Bool.and_eq_true]; exact ⟨h x (by simp), leaves_of_all fun a ha => h a (by simp [ha])⟩

/-! ### Memory -/
/-- A block lies where the map says. -/
def OR (P : Program) (ρ : Map) (base : Nat) (w : World) (r : Reg) : Obj → Prop
  | .dead => True
  | .live cs e own => ∃ carr e' fr, w.heap[r.cb]? = some (.cells carr e' fr) ∧ r.sh + cs.length ≤ carr.size ∧ leaves cs = true ∧
      (∀ (i : Nat) (a : AV), cs[i]? = some a → ∃ u, carr[r.sh + i]? = some u ∧ VR ρ a u) ∧
      (own = true → base ≤ r.cb ∧ e' = e ∧ carr.size = r.size ∧ r.esz = P.cellsOf e ∧ ∀ i, i < carr.size → (i < fr.1 ∨ fr.1 = fr.2))

structure MR (P : Program) (base : Nat) (ρ : Map) (m : Mem) (w : World) : Prop where
  dom : ∀ b o, m.get b = some o → b < m.next ∧ ∃ r, ρ b = some r ∧ OR P ρ base w r o
  used : ∀ b r, ρ b = some r → m.get b ≠ none
  low : base ≤ w.heap.size
  inj : ∀ b b' cs e o' r r', m.get b = some (.live cs e true) → m.get b' = some o' → o' ≠ .dead → ρ b = some r → ρ b' = some r' → r.cb = r'.cb → b = b'

theorem MR.lt {P : Program} {base : Nat} {ρ : Map} {m : Mem} {w : World} (h : MR P base ρ m w) {b : Nat} {r : Reg} (hb : ρ b = some r) : b < m.next := by
  have := h.used b r hb
  obtain ⟨o, ho⟩ := Option.ne_none_iff_exists'.1 this
  exact (h.dom b o ho).1

theorem OR.mono {P : Program} {ρ ρ' : Map} {base : Nat} {w : World} {r : Reg} {o : Obj} (hρ : ρ.le ρ') (h : OR P ρ base w r o) : OR P ρ' base w r o := by
  cases o with
  | dead => trivial
  | live cs e own =>
    obtain ⟨carr, e', fr, h1, h2, h3, h4, h5⟩ := h
    exact ⟨carr, e', fr, h1, h2, h3, fun i a ha => let ⟨u, hu, hv⟩ := h4 i a ha; ⟨u, hu, VR.mono hρ _ _ hv⟩, h5⟩
theorem OR.same {P : Program} {ρ : Map} {base : Nat} {w w' : World} {r : Reg} {o : Obj} (hw : w'.heap[r.cb]? = w.heap[r.cb]?) (h : OR P ρ base w r o) : OR P ρ base w' r o := by
  cases o with
  | dead => trivial
  | live cs e own =>
    obtain ⟨carr, e', fr, h1, h⟩ := h
    exact ⟨carr, e', fr, hw.trans h1, h⟩

/-- A world that is drawn from further is the same memory. -/
theorem MR.heap {P : Program} {base : Nat} {ρ : Map} {m : Mem} {w w' : World} (h : MR P base ρ m w) (hw : w'.heap = w.heap) : MR P base ρ m w' :=
  ⟨fun b o hb => let ⟨h1, r, h2, h3⟩ := h.dom b o hb; ⟨h1, r, h2, h3.same (by rw [hw])⟩, h.used, by rw [hw]; exact h.low, h.inj⟩

/-- The cells that are read. -/
theorem MR.read {P : Program} {base : Nat} {ρ : Map} {m : Mem} {w : World} (h : MR P base ρ m w) {b off n : Nat} {cs : List AV} (hr : m.read b off n = some cs) :
    ∃ r, ρ b = some r ∧ cs.length = n ∧ leaves cs = true ∧ ∃ us, VRL ρ cs us ∧ us.length = n ∧ ∀ i u, us[i]? = some u → w.cell? ⟨r.cb, r.sh + off + i, none⟩ = some u := by
  unfold Mem.read at hr
  split at hr
  · rename_i known e own hg
    split at hr
    · rename_i hle
      injection hr with hr
      obtain ⟨_, r, hρ, carr, e', fr, h1, h2, h3, h4, _⟩ := h.dom b _ hg
      have hlen : cs.length = n := by rw [← hr]; simp; omega
      have hget : ∀ i a, cs[i]? = some a → known[off + i]? = some a := by
        intro i a ha
        rw [← hr] at ha
        rw [List.getElem?_take] at ha
        split at ha
        · rwa [List.getElem?_drop] at ha
        · cases ha
      refine ⟨r, hρ, hlen, leaves_of_all fun a ha => ?_, ((carr.toList.drop (r.sh + off)).take n), VRL.of_get ?_ ?_, ?_, ?_⟩
      · obtain ⟨i, hi⟩ := List.getElem?_of_mem ha
        exact leaves_all h3 a (List.mem_of_getElem? (hget i a hi))
      · simp; omega
      · intro i a u ha hu
        obtain ⟨u', hu', hv⟩ := h4 _ _ (hget i a ha)
        rw [List.getElem?_take] at hu
        split at hu
        · rw [List.getElem?_drop, Array.getElem?_toList] at hu
          rw [← Nat.add_assoc] at hu'
          rw [hu] at hu'
          injection hu' with e
          rw [e]; exact hv
        · cases hu
      · simp; omega
      · intro i u hu
        rw [List.getElem?_take] at hu
        split at hu
        · rw [List.getElem?_drop, Array.getElem?_toList] at hu
          simp [World.cell?, h1, hu]
        · cases hu
    · cases hr
  · cases hr

/-- One block has other cells; nothing else has turned. -/
structure Upd (w w' : World) (b : Nat) (carr' : Array Value) (e : TypeId) (fr : Nat × Nat) : Prop where
  here : w'.heap[b]? = some (.cells carr' e fr)
  else_ : ∀ k, k ≠ b → w'.heap[k]? = w.heap[k]?
  size : w'.heap.size = w.heap.size
  os : w'.os = w.os
  tape : w'.tape = w.tape
  output : w'.output = w.output

theorem run_storeCells_block (P : Program) (b : Nat) (e : TypeId) (fr : Nat × Nat) : ∀ (vs : List Value) (o i : Nat) (carr : Array Value) (w : World), w.heap[b]? = some (.cells carr e fr) → o + i + vs.length ≤ carr.size →
    (∀ j, j < carr.size → ¬ (fr.1 ≤ j ∧ j < fr.2)) → (∀ v ∈ vs, v.oneCell' = true) →
    ∃ w' carr', (storeCells ⟨b, o, none⟩ vs i).run P w = .ok () w' ∧ Upd w w' b carr' e fr ∧ carr'.size = carr.size ∧ ∀ k, carr'[k]? = if o + i ≤ k ∧ k < o + i + vs.length then vs[k - (o + i)]? else carr[k]?
  | [], o, i, carr, w, h, _, _, _ => ⟨w, carr, rfl, ⟨h, fun _ _ => rfl, rfl, rfl, rfl, rfl⟩, rfl, fun k => by rw [if_neg (by simp)]⟩
  | v :: vs, o, i, carr, w, h, hl, hf, h1 => by
    simp only [List.length_cons] at hl
    have hadd : (⟨b, o, none⟩ : Addr).add i = ⟨b, o + i, none⟩ := by unfold Addr.add; split <;> simp_all
    have hc : w.cell? ⟨b, o + i, none⟩ = some carr[o + i] := by simp [World.cell?, h]
    have hz : w.frozen? ⟨b, o + i, none⟩ = false := by
      have := hf (o + i) (by omega)
      simp only [World.frozen?, h, Bool.and_eq_false_iff, decide_eq_false_iff_not]
      by_cases x : fr.1 ≤ o + i
      · exact .inr fun y => this ⟨x, y⟩
      · exact .inl x
    have hst : (store ((⟨b, o, none⟩ : Addr).add i) v).run P w = .ok () (w.setCell ⟨b, o + i, none⟩ v) := by
      rw [hadd, run_store P w _ v _ (h1 v (by simp))]
      simp [hc, hz]
    have hb : b < w.heap.size := (Array.getElem?_eq_some_iff.1 h).1
    have h' : (w.setCell ⟨b, o + i, none⟩ v).heap[b]? = some (.cells (carr.setIfInBounds (o + i) v) e fr) := by
      simp only [World.setCell, Array.getElem?_modify, if_true, h, Option.map_some]
      simp
    obtain ⟨w', carr', hr, hu, hs, hk⟩ := run_storeCells_block P b e fr vs o (i + 1) _ _ h' (by simp; omega) (by simpa using hf) (fun u hu => h1 u (by simp [hu]))
    refine ⟨w', carr', ?_, ⟨hu.here, fun k hne => ?_, ?_, hu.os, hu.tape, hu.output⟩, by simpa using hs, fun k => ?_⟩
    · rw [storeCells]
      simp only [Sem.run_bind, hst, Result.andThen_ok]
      exact hr
    · rw [hu.else_ k hne]
      exact Below.heap_setCell _ _ _ _ hne
    · rw [hu.size]; simp [World.setCell]
    · rw [hk]
      by_cases c : o + (i + 1) ≤ k ∧ k < o + (i + 1) + vs.length
      · rw [if_pos c, if_pos (by simp; omega)]
        obtain ⟨j, hj⟩ : ∃ j, k - (o + i) = j + 1 := ⟨k - (o + i) - 1, by omega⟩
        rw [hj, show k - (o + (i + 1)) = j by omega]; simp
      · rw [if_neg c]
        by_cases e' : k = o + i
        · subst e'
          have hlt : o + i < carr.size := by omega
          rw [if_pos (by simp)]
          simp [hlt]
        · rw [if_neg (by simp; omega), Array.getElem?_setIfInBounds_ne (by omega)]

/-- Cells of an own block are written. -/
theorem MR.write {P : Program} {base : Nat} {ρ : Map} {m m' : Mem} {w w' : World} (h : MR P base ρ m w) {b off : Nat} {vs : List AV} (hw : m.write b off vs = some m') {us : List Value} (hv : VRL ρ vs us)
    {r : Reg} (hr : ρ b = some r) {carr carr' : Array Value} {e : TypeId} {fr : Nat × Nat} (h0 : w.heap[r.cb]? = some (.cells carr e fr)) (hu : Upd w w' r.cb carr' e fr) (hs : carr'.size = carr.size)
    (hk : ∀ k, carr'[k]? = if r.sh + off ≤ k ∧ k < r.sh + off + us.length then us[k - (r.sh + off)]? else carr[k]?) : MR P base ρ m' w' := by
  unfold Mem.write at hw
  split at hw
  · rename_i known e0 hg
    split at hw
    · rename_i hle
      injection hw with hw
      subst hw
      obtain ⟨hlt, r0, hr0, carr0, e', fr', h1, h2, h3, h4, h5⟩ := h.dom b _ hg
      rw [hr] at hr0
      injection hr0 with hr0
      subst hr0
      rw [h0] at h1
      injection h1 with h1
      injection h1 with h1 h1e h1f
      subst h1 h1e h1f
      have hul : us.length = vs.length := hv.length
      refine ⟨fun b' o' hb' => ?_, fun b' r' hb' => ?_, by rw [hu.size]; exact h.low, fun b1 b2 cs1 e1 o2 r1 r2 g1 g2 nd q1 q2 hcb => ?_⟩
      · rw [Mem.get_set] at hb'
        split at hb'
        · rename_i hbb
          subst hbb
          injection hb' with hb'
          subst hb'
          refine ⟨hlt, r, hr, carr', e, fr, hu.here, by rw [overlay_length, hs]; exact h2, ?_, ?_, fun _ => ?_⟩
          · refine leaves_of_all fun a ha => ?_
            obtain ⟨i, hi⟩ := List.getElem?_of_mem ha
            rw [overlay_get] at hi
            split at hi
            · exact leaves_all hle.2 a (List.mem_of_getElem? hi)
            · exact leaves_all h3 a (List.mem_of_getElem? hi)
          · intro i a ha
            rw [overlay_get] at ha
            rw [hk]
            split at ha
            · rename_i hc
              rw [if_pos (by omega), show r.sh + i - (r.sh + off) = i - off by omega]
              exact hv.get _ _ ha
            · rename_i hc
              have hil : i < known.length := by
                rcases Nat.lt_or_ge i known.length with x | x
                · exact x
                · rw [List.getElem?_eq_none x] at ha; cases ha
              rw [if_neg (by omega)]
              exact h4 i a ha
          · have := h5 rfl
            exact ⟨this.1, this.2.1, by rw [hs]; exact this.2.2.1, this.2.2.2.1, by rw [hs]; exact this.2.2.2.2⟩
        · rename_i hbb
          obtain ⟨h6, r', h7, h8⟩ := h.dom b' o' hb'
          refine ⟨h6, r', h7, ?_⟩
          cases o' with
          | dead => trivial
          | live cs' e'' own' =>
            refine h8.same (hu.else_ _ fun hcb => hbb ?_)
            exact (h.inj b b' known e0 _ r r' hg hb' (by simp) hr h7 hcb.symm).symm
      · rw [Mem.get_set]
        split
        · simp
        · exact h.used b' r' hb'
      · rw [Mem.get_set] at g1 g2
        have k1 : ∃ cs e, m.get b1 = some (.live cs e true) := by
          split at g1
          · rename_i x; subst x; exact ⟨_, _, hg⟩
          · exact ⟨_, _, g1⟩
        have k2 : ∃ o, m.get b2 = some o ∧ o ≠ .dead := by
          split at g2
          · rename_i x; subst x; exact ⟨_, hg, by simp⟩
          · exact ⟨_, g2, nd⟩
        obtain ⟨cs3, e3, k1⟩ := k1
        obtain ⟨o3, k2, k3⟩ := k2
        exact h.inj b1 b2 cs3 e3 o3 r1 r2 k1 k2 k3 q1 q2 hcb
    · cases hw
  · cases hw

/-- A new block of the model's is a new block. -/
theorem MR.new {P : Program} {base : Nat} {ρ : Map} {m m' : Mem} {w : World} (h : MR P base ρ m w) {at_ : Option Nat} {cs : List AV} {e b : Nat} (hn : m.new at_ cs e = some (b, m')) (carr : Array Value)
    (hl : cs.length ≤ carr.size) (hv : ∀ (i : Nat) (a : AV), cs[i]? = some a → ∃ u, carr[i]? = some u ∧ VR ρ a u) (fr : Nat × Nat) (hfr : ∀ i, i < carr.size → (i < fr.1 ∨ fr.1 = fr.2)) :
    ∃ ρ', ρ.le ρ' ∧ ρ' b = some ⟨w.heap.size, 0, carr.size, P.cellsOf e⟩ ∧ MR P base ρ' m' (w.alloc (.cells carr e fr)) ∧ leaves cs = true := by
  unfold Mem.new at hn
  split at hn
  case isFalse => cases hn
  rename_i hlv
  have key : m.get b = none ∧ b < m'.next ∧ m.next ≤ m'.next ∧ (∀ c, m'.get c = if c = b then some (.live cs e true) else m.get c) := by
    split at hn
    · injection hn with hn
      injection hn with h1 h2
      subst h1 h2
      refine ⟨?_, Nat.lt_succ_self _, Nat.le_succ _, fun c => T.get_set ..⟩
      cases hg : m.get m.next with
      | none => rfl
      | some o => have := (h.dom _ _ hg).1; omega
    · split at hn
      · rename_i hg
        split at hn
        · rename_i hlt
          injection hn with hn
          injection hn with h1 h2
          subst h1 h2
          exact ⟨hg, hlt, Nat.le_refl _, fun c => Mem.get_set ..⟩
        · cases hn
      · cases hn
  obtain ⟨hb, hlt, hle, hg⟩ := key
  let ρ' : Map := fun c => if c = b then some ⟨w.heap.size, 0, carr.size, P.cellsOf e⟩ else ρ c
  have hρb : ρ b = none := by
    cases hx : ρ b with
    | none => rfl
    | some r => exact absurd hb (h.used b r hx)
  have hρ : ρ.le ρ' := by
    intro c r hc
    have : c ≠ b := fun x => by rw [x, hρb] at hc; cases hc
    simp [ρ', this, hc]
  have hρ'b : ρ' b = some ⟨w.heap.size, 0, carr.size, P.cellsOf e⟩ := by simp [ρ']
  have old : ∀ c r o, ρ c = some r → m.get c = some o → o ≠ .dead → r.cb < w.heap.size := by
    intro c r o hc ho hd
    obtain ⟨_, r', h1, h2⟩ := h.dom c o ho
    rw [hc] at h1
    injection h1 with h1
    subst h1
    cases o with
    | dead => exact absurd rfl hd
    | live cs' e'' own' =>
      obtain ⟨carr', _, _, h3, _⟩ := h2
      exact (Array.getElem?_eq_some_iff.1 h3).1
  refine ⟨ρ', hρ, hρ'b, ⟨fun c o hc => ?_, fun c r hc => ?_, by simp; exact Nat.le_succ_of_le h.low, fun b1 b2 cs1 e1 o2 r1 r2 g1 g2 nd q1 q2 hcb => ?_⟩, hlv⟩
  · rw [hg] at hc
    split at hc
    · rename_i hcb
      subst hcb
      injection hc with hc
      subst hc
      refine ⟨hlt, _, hρ'b, carr, e, fr, by show (w.heap.push _)[w.heap.size]? = _; simp, by simpa using hl, hlv, fun i a ha => ?_, fun _ => ⟨h.low, rfl, rfl, rfl, hfr⟩⟩
      obtain ⟨u, hu, hvu⟩ := hv i a ha
      exact ⟨u, by simpa using hu, VR.mono hρ _ _ hvu⟩
    · obtain ⟨h1, r, h2, h3⟩ := h.dom c o hc
      refine ⟨by omega, r, hρ _ _ h2, ?_⟩
      cases o with
      | dead => trivial
      | live cs' e'' own' =>
        exact (h3.mono hρ).same (Below.heap_alloc _ _ _ (old c r _ h2 hc (by simp)))
  · rw [hg]
    split
    · simp
    · rename_i hcb
      have : ρ c = some r := by simpa [ρ', hcb] using hc
      exact h.used c r this
  · rw [hg] at g1 g2
    by_cases x1 : b1 = b
    · by_cases x2 : b2 = b
      · rw [x1, x2]
      · exfalso
        rw [if_neg x2] at g2
        rw [x1, hρ'b] at q1
        injection q1 with q1
        have q2' : ρ b2 = some r2 := by simpa [ρ', x2] using q2
        have := old b2 r2 o2 q2' g2 nd
        rw [← hcb, ← q1] at this
        simp at this
    · rw [if_neg x1] at g1
      have q1' : ρ b1 = some r1 := by simpa [ρ', x1] using q1
      by_cases x2 : b2 = b
      · exfalso
        rw [x2, hρ'b] at q2
        injection q2 with q2
        have := old b1 r1 _ q1' g1 (by simp)
        rw [hcb, ← q2] at this
        simp at this
      · rw [if_neg x2] at g2
        have q2' : ρ b2 = some r2 := by simpa [ρ', x2] using q2
        exact h.inj b1 b2 cs1 e1 o2 r1 r2 g1 g2 nd q1' q2' hcb
end Go.Proofs.Ytljkkfcokpimkaa.X
