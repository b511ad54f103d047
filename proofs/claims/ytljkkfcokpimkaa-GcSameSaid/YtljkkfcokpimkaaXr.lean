/- Cells and rows of several cells an element; what is made and kept. -/
import Derived.Test.YtljkkfcokpimkaaXq
set_option linter.unusedVariables false
set_option linter.unusedSimpArgs false
namespace Go.Proofs.Ytljkkfcokpimkaa.X
open Go

theorem cell_of {h : H} {b e : Nat} {cs : List AV} {o : Bool} (hb : h.get b = some (.live cs e o)) (off : Nat) : h.cell b off = cs[off]? := by
  unfold H.cell; rw [hb]
theorem cell_other {h : H} {b c off : Nat} {o : Obj} (hc : c ≠ b) : (h.set b o).cell c off = h.cell c off := by
  unfold H.cell; rw [H.get_other _ _ hc]
theorem cell_set {h : H} {b off e : Nat} {cs : List AV} {o : Bool} : (h.set b (.live cs e o)).cell b off = cs[off]? := cell_of (H.get_same ..) off
theorem overlay_one (cs : List AV) (off : Nat) (v : AV) : overlay cs off [v] = cs.set off v := rfl
theorem write_one {h : H} {b e off : Nat} {cs : List AV} {v : AV} (hb : h.get b = some (.live cs e true)) (ho : off < cs.length) (hv : v.leaf = true) : h.write b off [v] = some (h.set b (.live (cs.set off v) e true)) := by
  unfold H.write; rw [hb]; simp only [List.length_singleton, leaves, hv, Bool.and_true, and_true]
  rw [if_pos (by omega)]; rfl
theorem write_new {h : H} {b e : Nat} {cs vs : List AV} (hl : vs.length = cs.length) (hv : leaves vs = true) : (h.set b (.live cs e true)).write b 0 vs = some (h.set b (.live vs e true)) := by
  unfold H.write; rw [H.get_same]; simp only [hv, and_true]
  rw [if_pos (by omega)]
  have : ∀ (vs cs pre : List AV), vs.length = cs.length → overlay (pre ++ cs) pre.length vs = pre ++ vs := by
    intro vs
    induction vs with
    | nil => intro cs pre hl; have : cs = [] := List.eq_nil_of_length_eq_zero (by simpa using hl.symm); subst this; rfl
    | cons v vs ih =>
      intro cs pre hl
      cases cs with
      | nil => simp at hl
      | cons c cs =>
        have := ih cs (pre ++ [v]) (by simpa using hl)
        simp only [List.length_append, List.length_singleton, List.append_assoc, List.singleton_append] at this
        rw [overlay, List.set_append_right _ _ (Nat.le_refl _)]
        simpa using this
  have e := this vs cs [] hl
  simp only [List.nil_append, List.length_nil] at e
  rw [e]
  congr 1
  apply H.ext'
  intro k
  simp only [H.get_set]
  split <;> rfl
theorem st_one {h : H} {b e off : Nat} {cs : List AV} {k : IntKind} {n : Int} (hb : h.get b = some (.live cs e true)) (ho : off < cs.length) : stA h 1 (.ptr b off) (.int k n) = some (h.set b (.live (cs.set off (.int k n)) e true)) := by
  simp only [stA, AV.cells, List.length_singleton, if_true]
  exact write_one hb ho rfl
/-- An element of several cells. -/
theorem Row.el {h : H} {v : AV} {n esz : Nat} {cs : List AV} (r : Row h v n esz cs) {i : Int} (h0 : 0 ≤ i) (h1 : i < n) :
    ∃ b o, (∀ k, iaA esz v (.int k i) = some (.ptr b o)) ∧ (∀ j, j < esz → h.cell b (o + j) = cs[i.toNat * esz + j]?) ∧ h.read b o esz = some ((cs.drop (i.toNat * esz)).take esz) := by
  obtain ⟨hl, r⟩ := r
  rcases r with ⟨rfl, rfl⟩ | ⟨b, off, cap, rfl, hfit, hr⟩
  · omega
  · have hi : i.toNat * esz + esz ≤ n * esz := by
      have : (i.toNat + 1) * esz ≤ n * esz := Nat.mul_le_mul_right _ (by omega)
      rw [Nat.add_mul] at this; omega
    refine ⟨b, off + i.toNat * esz, fun k => by simp only [iaA_s, h0, h1, and_self, if_true], ?_, ?_⟩
    all_goals unfold H.read at hr
    · intro j hj
      unfold H.cell
      split at hr
      · rename_i known e own hg
        split at hr
        · injection hr with hr
          rw [← hr]
          rw [List.getElem?_take, if_pos (by omega), List.getElem?_drop]
          congr 1; omega
        · cases hr
      · cases hr
    · unfold H.read
      split at hr
      · rename_i known e own hg
        split at hr
        · injection hr with hr
          rw [if_pos (by omega), ← hr, List.drop_take, List.take_take, Nat.min_eq_left (by omega), List.drop_drop]
        · cases hr
      · cases hr
/-- What was not there ahead. -/
def Fresh (h : H) (B : List Nat) : Prop := ∀ c ∈ B, h.get c = none
/-- What is there. -/
def Alive (h : H) (B : List Nat) : Prop := ∀ c ∈ B, h.get c ≠ none
theorem Fr.alive {S B : List Nat} {h h' : H} (f : Fr S h h') (a : Alive h B) (hd : ∀ c ∈ B, c ∉ S) : Alive h' B := fun c hc => by
  obtain ⟨o, ho⟩ := Option.ne_none_iff_exists'.1 (a c hc)
  rw [f c o (hd c hc) ho]; simp
theorem apart_fresh {h : H} {A B : List Nat} (a : Alive h A) (f : Fresh h B) : ∀ c ∈ B, c ∉ A := fun c hc hA => a c hA (f c hc)
theorem repCells_int (k : IntKind) (n : Int) : ∀ m, repCells [.int k n] m = List.replicate m (.int k n)
  | 0 => rfl
  | m + 1 => by rw [repCells, repCells_int k n m]; rfl
theorem leaves_replicate (k : IntKind) (n : Int) (m : Nat) : leaves (List.replicate m (AV.int k n)) = true := by
  induction m with
  | zero => rfl
  | succ m ih => simp [List.replicate_succ, leaves, AV.leaf, ih]
end Go.Proofs.Ytljkkfcokpimkaa.X
