/- What the second form's bound gives: no row, and no text, is longer than 2^36 places. -/
import Derived.Test.YtdljelicbnjfjaaGreatRows
import Derived.Test.YtdljelicbnjfjaaGreatXk
import GoSem.ClaimJoined
namespace Go.Proofs.YtdljelicbnjfjaaGreat.X
open Go
variable {H : Type} {P : Program}
mutual
/-- Elements of few bytes. -/
def smallSh (P : Program) (t : TypeId) : Sh → Bool
  | .int _ => match P.underlying t with | some (.int _) => true | _ => false
  | .bool => match P.underlying t with | some .bool => true | _ => false
  | .str => match P.underlying t with | some .string => true | _ => false
  | .sl s => match P.underlying t with | some (.slice e) => smallSh P e s && decide (P.bytesOf e ≤ 65536) | _ => false
  | .st ss => match P.underlying t with | some (.struct fs) => smallShs P (fs.toList.map (·.type)) ss | _ => false
def smallShs (P : Program) : List TypeId → List Sh → Bool
  | [], [] => true
  | t :: ts, s :: ss => smallSh P t s && smallShs P ts ss
  | _, _ => false
end
theorem bulk_one (d : DataW H) : 1 ≤ Rows.uptoBulk d := by
  cases d with
  | lit l => cases l <;> simp [Rows.uptoBulk]
  | nil => simp [Rows.uptoBulk]
  | ptr d => simp [Rows.uptoBulk]
  | slice elems spare => simp [Rows.uptoBulk]
  | agg parts => simp [Rows.uptoBulk]
  | iface t d => simp [Rows.uptoBulk]
  | map entries => simp [Rows.uptoBulk]
  | held h => simp [Rows.uptoBulk]
theorem bulk_len : ∀ l : List (DataW H), l.length ≤ Rows.uptoBulkAll l
  | [] => Nat.zero_le _
  | d :: r => by have := bulk_len r; have := bulk_one d; simp only [Rows.uptoBulkAll, List.length_cons]; omega
theorem all_bulk {e : TypeId} (hd : ∀ (d : DataW H) (k : Nat), k ∈ d.weights P e → k ≤ 65536 * Rows.uptoBulk d) : ∀ (l : List (DataW H)) (k : Nat), k ∈ DataW.weightsAll P e l → k ≤ 65536 * Rows.uptoBulkAll l
  | [], k, h => by simp [DataW.weightsAll] at h
  | d :: r, k, h => by
    rw [DataW.weightsAll] at h
    simp only [Rows.uptoBulkAll]
    rcases List.mem_append.1 h with h | h
    · have := hd d k h; omega
    · have := all_bulk hd r k h; omega
theorem flat_bulk {t : TypeId} (h1 : ∀ e, P.underlying t ≠ some (.pointer e)) (h2 : ∀ e, P.underlying t ≠ some (.slice e)) (h3 : ∀ fs, P.underlying t ≠ some (.struct fs)) (h4 : ∀ n e, P.underlying t ≠ some (.array n e)) (h5 : ∀ k e, P.underlying t ≠ some (.map k e))
    (d : DataW H) (k : Nat) (h : k ∈ d.weights P t) : k ≤ 65536 * Rows.uptoBulk d := by
  cases d with
  | lit l =>
    cases l <;> simp [DataW.weights] at h
    subst h; simp only [Rows.uptoBulk]; omega
  | nil => simp [DataW.weights] at h
  | ptr d => rw [DataW.weights] at h; split at h <;> first | exact absurd ‹_› (h1 _) | cases h
  | slice elems spare => rw [DataW.weights] at h; split at h <;> first | exact absurd ‹_› (h2 _) | cases h
  | agg parts =>
    rw [DataW.weights] at h; split at h
    · exact absurd ‹_› (h3 _)
    · exact absurd ‹_› (h4 _ _)
    · cases h
  | iface t d => simp [DataW.weights] at h
  | map entries => rw [DataW.weights] at h; split at h <;> first | exact absurd ‹_› (h5 _ _) | cases h
  | held x => simp [DataW.weights] at h
mutual
theorem weights_bulk : ∀ (s : Sh) (t : TypeId), smallSh P t s = true → ∀ (d : DataW H) (k : Nat), k ∈ d.weights P t → k ≤ 65536 * Rows.uptoBulk d
  | .int _, t, hs => by
    unfold smallSh at hs
    split at hs
    · rename_i hu; exact flat_bulk (by simp [hu]) (by simp [hu]) (by simp [hu]) (by simp [hu]) (by simp [hu])
    · cases hs
  | .bool, t, hs => by
    unfold smallSh at hs
    split at hs
    · rename_i hu; exact flat_bulk (by simp [hu]) (by simp [hu]) (by simp [hu]) (by simp [hu]) (by simp [hu])
    · cases hs
  | .str, t, hs => by
    unfold smallSh at hs
    split at hs
    · rename_i hu; exact flat_bulk (by simp [hu]) (by simp [hu]) (by simp [hu]) (by simp [hu]) (by simp [hu])
    · cases hs
  | .sl s, t, hs => by
    unfold smallSh at hs
    split at hs
    · rename_i e hu
      simp only [Bool.and_eq_true, decide_eq_true_eq] at hs
      have ih := all_bulk (weights_bulk s e hs.1 : ∀ (d : DataW H) (k : Nat), k ∈ d.weights P e → k ≤ 65536 * Rows.uptoBulk d)
      intro d k h
      cases d with
      | slice elems spare =>
        rw [DataW.weights, hu] at h
        simp only at h
        have l1 := bulk_len elems
        have l2 := bulk_len spare
        simp only [Rows.uptoBulk]
        rcases List.mem_cons.1 h with rfl | h
        · have : (elems.length + spare.length) * P.bytesOf e ≤ (elems.length + spare.length) * 65536 := Nat.mul_le_mul_left _ hs.2
          omega
        · rcases List.mem_append.1 h with h | h
          · have := ih elems k h; omega
          · have := ih spare k h; omega
      | lit l =>
        cases l <;> simp [DataW.weights] at h
        subst h; simp only [Rows.uptoBulk]; omega
      | nil => simp [DataW.weights] at h
      | ptr d => simp [DataW.weights, hu] at h
      | agg parts => simp [DataW.weights, hu] at h
      | iface t d => simp [DataW.weights] at h
      | map entries => simp [DataW.weights, hu] at h
      | held x => simp [DataW.weights] at h
    · cases hs
  | .st ss, t, hs => by
    unfold smallSh at hs
    split at hs
    · rename_i fs hu
      intro d k h
      cases d with
      | agg parts =>
        rw [DataW.weights, hu] at h
        simp only at h
        have := each_bulk ss _ hs parts k h
        simp only [Rows.uptoBulk]; omega
      | lit l =>
        cases l <;> simp [DataW.weights] at h
        subst h; simp only [Rows.uptoBulk]; omega
      | nil => simp [DataW.weights] at h
      | ptr d => simp [DataW.weights, hu] at h
      | slice elems spare => simp [DataW.weights, hu] at h
      | iface t d => simp [DataW.weights] at h
      | map entries => simp [DataW.weights, hu] at h
      | held x => simp [DataW.weights] at h
    · cases hs
theorem each_bulk : ∀ (ss : List Sh) (ts : List TypeId), smallShs P ts ss = true → ∀ (l : List (DataW H)) (k : Nat), k ∈ DataW.weightsEach P ts l → k ≤ 65536 * Rows.uptoBulkAll l
  | [], [], _ => fun l k h => by cases l <;> simp [DataW.weightsEach] at h
  | [], _ :: _, h => by simp [smallShs] at h
  | _ :: _, [], h => by simp [smallShs] at h
  | s :: ss, t :: ts, hs => fun l k h => by
    cases l with
    | nil => simp [DataW.weightsEach] at h
    | cons d r =>
      simp only [smallShs, Bool.and_eq_true] at hs
      rw [DataW.weightsEach] at h
      simp only [Rows.uptoBulkAll]
      rcases List.mem_append.1 h with h | h
      · have := weights_bulk s t hs.1 d k h; omega
      · have := each_bulk ss ts hs.2 r k h; omega
end
/-- The second form's bound, in places. -/
def lim : Nat := 68719476736
theorem upto_weights {ss : List Sh} {ts : List TypeId} (hs : smallShs P ts ss = true) {ds : List (DataW H)} (hk : Rows.uptoSmall H ds = true) : ∀ k ∈ DataW.weightsEach P ts ds, k ≤ lim := by
  intro k hk'
  have h1 : Rows.uptoBulkAll ds ≤ 1048576 := of_decide_eq_true hk
  have h2 := each_bulk ss ts hs ds k hk'
  unfold lim; omega
theorem lim_le : lim ≤ reachBytes := by decide
end Go.Proofs.YtdljelicbnjfjaaGreat.X
