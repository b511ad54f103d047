/- Rows in plain memory: what is kept, rows of one's own, appending, reading. -/
import Derived.Test.YtljkkfcokpimkaaXp
set_option linter.unusedVariables false
set_option linter.unusedSimpArgs false
namespace Go.Proofs.Ytljkkfcokpimkaa.X
open Go

/-- What stands in memory stays, but for some blocks. -/
def Fr (S : List Nat) (h h' : H) : Prop := ∀ c o, c ∉ S → h.get c = some o → h'.get c = some o
theorem Fr.refl (S : List Nat) (h : H) : Fr S h h := fun _ _ _ x => x
theorem Fr.trans {S : List Nat} {a b c : H} (h : Fr S a b) (h' : Fr S b c) : Fr S a c := fun k o hk x => h' k o hk (h k o hk x)
theorem Fr.weaken {S S' : List Nat} {a b : H} (h : Fr S a b) (hs : ∀ k, k ∈ S → k ∈ S') : Fr S' a b := fun k o hk x => h k o (fun q => hk (hs k q)) x
theorem Fr.more {S : List Nat} {a b : H} (h : Fr [] a b) : Fr S a b := h.weaken fun _ q => by cases q
theorem Fr.new {S : List Nat} {h : H} {b : Nat} {o : Obj} (hb : h.get b = none) : Fr S h (h.set b o) := fun k o' _ x => by
  rw [H.get_other _ _ (fun e => by subst e; rw [hb] at x; cases x)]; exact x
theorem Fr.put {S : List Nat} {h : H} {b : Nat} {o : Obj} (hb : b ∈ S) : Fr S h (h.set b o) := fun k o' hk x => by
  rw [H.get_other _ _ (fun e => by subst e; exact hk hb)]; exact x
theorem Fr.free {h h' : H} (f : Fr [] h h') {b : Nat} (hb : h'.get b = none) : h.get b = none := by
  cases hh : h.get b with
  | none => rfl
  | some o => rw [f b o (by simp) hh] at hb; cases hb
/-- Only what was not there is else. -/
theorem Fr.set' {S : List Nat} {h0 h : H} {b : Nat} {o : Obj} (f : Fr S h0 h) (hb : h0.get b = none) : Fr S h0 (h.set b o) := fun k o' hk x => by
  rw [H.get_other _ _ (fun e => by subst e; rw [hb] at x; cases x)]; exact f k o' hk x

/-- A row of one's own, not there at h0: n elements of esz cells. -/
def Own (h0 h : H) (ty esz : Nat) (v : AV) (n : Nat) (cs : List AV) : Prop :=
  cs.length = n * esz ∧ ((n = 0 ∧ v = .nilsl) ∨ ∃ b, v = .sl b 0 n (.more esz) ∧ h0.get b = none ∧ h.get b = some (.live cs ty true))
theorem Own.nil (h0 h : H) (ty esz : Nat) : Own h0 h ty esz .nilsl 0 [] := ⟨by simp, .inl ⟨rfl, rfl⟩⟩
/-- A row that may be read. -/
def Row (h : H) (v : AV) (n esz : Nat) (cs : List AV) : Prop :=
  cs.length = n * esz ∧ ((n = 0 ∧ v = .nilsl) ∨ ∃ b off cap, v = .sl b off n cap ∧ cap.fits esz = true ∧ h.read b off (n * esz) = some cs)
theorem H.read_eq {h : H} {b off n : Nat} {cs known : List AV} {e : Nat} {own : Bool} (hb : h.get b = some (.live known e own)) (hl : off + n ≤ known.length) (hc : (known.drop off).take n = cs) : h.read b off n = some cs := by
  unfold H.read; rw [hb]; simp only; rw [if_pos hl, hc]
theorem Own.row {h0 h : H} {ty esz : Nat} {v : AV} {n : Nat} {cs : List AV} (o : Own h0 h ty esz v n cs) : Row h v n esz cs := by
  obtain ⟨hl, o⟩ := o
  refine ⟨hl, ?_⟩
  rcases o with o | ⟨b, rfl, _, hb⟩
  · exact .inl o
  · exact .inr ⟨b, 0, _, rfl, by simp [Cap.fits], H.read_eq hb (by omega) (by rw [List.drop_zero, List.take_of_length_le (by omega)])⟩
theorem Row.src {h : H} {v : AV} {n esz : Nat} {cs : List AV} (r : Row h v n esz cs) : srcA h esz v = some (n, cs) := by
  obtain ⟨hl, r⟩ := r
  rcases r with ⟨rfl, rfl⟩ | ⟨b, off, cap, rfl, hfit, hr⟩
  · simp at hl; subst hl; rfl
  · simp only [srcA, hr]
theorem leaves_append (a b : List AV) : leaves (a ++ b) = (leaves a && leaves b) := by
  induction a with
  | nil => simp [leaves]
  | cons x l ih => simp [leaves, ih, Bool.and_assoc]
theorem leaves_map {α : Type} (f : α → AV) (hf : ∀ x, (f x).leaf = true) (l : List α) : leaves (l.map f) = true := by
  induction l with
  | nil => rfl
  | cons x l ih => simp [leaves, ih, hf]
theorem append_own' {h0 h : H} {ty esz bytes n k : Nat} {v y : AV} {cs ds : List AV} {K : AV → H → Prop} (hv : Own h0 h ty esz v n cs) (hs : srcA h esz y = some (k, ds)) (hd : ds.length = k * esz) (hz : 0 < esz)
    (hlc : leaves cs = true) (hld : leaves ds = true) (hf : Fr [] h0 h) (hb : (n + k) * bytes ≤ most)
    (hK : ∀ v' h', Own h0 h' ty esz v' (n + k) (cs ++ ds) → Fr [] h0 h' → (∀ c o, h.get c = some o → (∀ n' p, v ≠ .sl c 0 n' p) → h'.get c = some o) → (0 < k → ∃ b', v' = .sl b' 0 (n + k) (.more esz) ∧ h.get b' = none) → K v' h') : appendA h ty esz bytes v y K := by
  obtain ⟨hl, hv⟩ := hv
  unfold appendA
  rw [hs]
  simp only
  rcases hv with ⟨rfl, rfl⟩ | ⟨b, rfl, hb0, hbl⟩
  · simp only
    have hcs : cs = [] := List.eq_nil_of_length_eq_zero (by simpa using hl)
    subst hcs
    by_cases h0' : k = 0
    · subst h0'
      rw [if_pos rfl]
      have : ds = [] := List.eq_nil_of_length_eq_zero (by simpa using hd)
      subst this
      exact hK _ _ ⟨by simp, .inl ⟨rfl, rfl⟩⟩ hf (fun c o x _ => x) (fun q => absurd q (by omega))
    · rw [if_neg h0']
      refine ⟨by simpa using hb, hld, fun b' hb' => ?_⟩
      refine hK _ _ ⟨by simpa using hd, .inr ⟨b', by simp, hf.free hb', by rw [H.get_same]; simp⟩⟩ (hf.set' (hf.free hb')) (fun c o x _ => Fr.new (S := []) hb' c o (by simp) x) fun _ => ⟨b', by simp, hb'⟩
  · simp only
    by_cases h0' : k = 0
    · subst h0'
      rw [if_pos rfl]
      have : ds = [] := List.eq_nil_of_length_eq_zero (by simpa using hd)
      subst this
      exact hK _ _ ⟨by simpa using hl, .inr ⟨b, rfl, hb0, by simpa using hbl⟩⟩ hf (fun c o x _ => x) (fun q => absurd q (by omega))
    · rw [if_neg h0', hbl]
      simp only
      refine ⟨⟨trivial, trivial, hb, by omega⟩, ?_⟩
      have hpos : 0 < k * esz := Nat.mul_pos (Nat.pos_of_ne_zero h0') hz
      rw [if_neg (by rw [Nat.add_mul]; omega)]
      refine ⟨?_, fun b' hb' => ?_⟩
      · rw [List.drop_zero, List.take_of_length_le (by omega), leaves_append, hlc, hld]; rfl
      · have hbb : b' ≠ b := fun e => by subst e; rw [H.get_same] at hb'; cases hb'
        have hb2 : h.get b' = none := by rw [H.get_other _ _ hbb] at hb'; exact hb'
        refine hK _ _ ⟨by rw [List.length_append, hl, hd, Nat.add_mul], .inr ⟨b', rfl, hf.free hb2, ?_⟩⟩ ((hf.set' hb0).set' (hf.free hb2)) (fun c o x hc => ?_) fun _ => ⟨b', rfl, hb2⟩
        · rw [H.get_same, List.drop_zero, List.take_of_length_le (by omega)]
        · have hcb : c ≠ b := fun e => hc n (.more esz) (by rw [e])
          rw [H.get_other _ _ (fun e => by subst e; rw [hb2] at x; cases x), H.get_other _ _ hcb]
          exact x
theorem append_own {h0 h : H} {ty esz bytes n k : Nat} {v y : AV} {cs ds : List AV} {K : AV → H → Prop} (hv : Own h0 h ty esz v n cs) (hs : srcA h esz y = some (k, ds)) (hd : ds.length = k * esz) (hz : 0 < esz)
    (hlc : leaves cs = true) (hld : leaves ds = true) (hf : Fr [] h0 h) (hb : (n + k) * bytes ≤ most)
    (hK : ∀ v' h', Own h0 h' ty esz v' (n + k) (cs ++ ds) → Fr [] h0 h' → (∀ c o, h.get c = some o → (∀ n' p, v ≠ .sl c 0 n' p) → h'.get c = some o) → K v' h') : appendA h ty esz bytes v y K :=
  append_own' hv hs hd hz hlc hld hf hb fun v' h' a1 a2 a3 _ => hK v' h' a1 a2 a3
theorem append_one' {h0 h : H} {ty esz bytes n : Nat} {v : AV} {cs xs : List AV} {K : AV → H → Prop} (hv : Own h0 h ty esz v n cs) (hx : xs.length = esz) (hz : 0 < esz)
    (hlc : leaves cs = true) (hlx : leaves xs = true) (hf : Fr [] h0 h) (hb : (n + 1) * bytes ≤ most)
    (hK : ∀ v' h', Own h0 h' ty esz v' (n + 1) (cs ++ xs) → Fr [] h0 h' → (∀ c o, h.get c = some o → (∀ n' p, v ≠ .sl c 0 n' p) → h'.get c = some o) → (∃ b', v' = .sl b' 0 (n + 1) (.more esz) ∧ h.get b' = none) → K v' h') : mkslA h ty 1 (some xs) (fun t h => appendA h ty esz bytes v t K) := by
  refine ⟨hlx, fun b1 hb1 => ?_⟩
  have hs : srcA (h.set b1 (.live xs ty true)) esz (.sl b1 0 1 (.exact 1)) = some (1, xs) := by
    simp only [srcA]
    rw [H.read_eq (H.get_same ..) (by omega) (by rw [List.drop_zero, List.take_of_length_le (by omega)])]
  show appendA (h.set b1 (.live xs ty true)) ty esz bytes v (.sl b1 0 1 (.exact 1)) K
  refine append_own' (ty := ty) (h0 := h0) (n := n) (cs := cs) ⟨hv.1, ?_⟩ hs (by omega) hz hlc hlx (hf.set' (hf.free hb1)) hb fun v' h' a1 a2 a3 a4 => hK v' h' a1 a2 (fun c o x hc => a3 c o (Fr.new (S := []) hb1 c o (by simp) x) hc) ?_
  · rcases hv.2 with q | ⟨b, q1, q2, q3⟩
    · exact .inl q
    · exact .inr ⟨b, q1, q2, Fr.new (S := []) hb1 b _ (by simp) q3⟩
  · obtain ⟨b', e1, e2⟩ := a4 (by decide)
    refine ⟨b', e1, ?_⟩
    by_cases q : b' = b1
    · subst q; exact hb1
    · rw [H.get_other _ _ q] at e2; exact e2

/-- One element is laid behind. -/
theorem append_one {h0 h : H} {ty esz bytes n : Nat} {v : AV} {cs xs : List AV} {K : AV → H → Prop} (hv : Own h0 h ty esz v n cs) (hx : xs.length = esz) (hz : 0 < esz)
    (hlc : leaves cs = true) (hlx : leaves xs = true) (hf : Fr [] h0 h) (hb : (n + 1) * bytes ≤ most)
    (hK : ∀ v' h', Own h0 h' ty esz v' (n + 1) (cs ++ xs) → Fr [] h0 h' → (∀ c o, h.get c = some o → (∀ n' p, v ≠ .sl c 0 n' p) → h'.get c = some o) → K v' h') : mkslA h ty 1 (some xs) (fun t h => appendA h ty esz bytes v t K) :=
  append_one' hv hx hz hlc hlx hf hb fun v' h' a1 a2 a3 _ => hK v' h' a1 a2 a3

/-! ### Rows of one cell an element -/
theorem Row.get {h : H} {v : AV} {n : Nat} {cs : List AV} (r : Row h v n 1 cs) {k : IntKind} {i : Int} (h0 : 0 ≤ i) (h1 : i < n) {K : AV → H → Prop} {x : AV} (hx : cs[i.toNat]? = some x) (hK : K x h) :
    valA (iaA 1 v (.int k i)) h (fun t h => valA (ldA h none t) h K) := by
  obtain ⟨hl, r⟩ := r
  rcases r with ⟨rfl, rfl⟩ | ⟨b, off, cap, rfl, hfit, hr⟩
  · omega
  · simp only [iaA_s, h0, h1, and_self, if_true, valA_some, ldA_n, Nat.mul_one]
    have : h.cell b (off + i.toNat) = some x := by
      unfold H.read at hr
      unfold H.cell
      split at hr
      · rename_i known e own hg
        split at hr
        · injection hr with hr
          rw [← hr, Nat.mul_one, List.getElem?_take] at hx
          rw [List.getElem?_drop] at hx
          rw [if_pos (by omega)] at hx
          exact hx
        · cases hr
      · cases hr
    rw [this]
    exact hK
theorem Row.at {h : H} {v : AV} {n : Nat} {cs : List AV} (r : Row h v n 1 cs) {i : Int} (h0 : 0 ≤ i) (h1 : i < n) {x : AV} (hx : cs[i.toNat]? = some x) :
    ∃ b o, (∀ k, iaA 1 v (.int k i) = some (.ptr b o)) ∧ h.cell b o = some x := by
  obtain ⟨hl, r⟩ := r
  rcases r with ⟨rfl, rfl⟩ | ⟨b, off, cap, rfl, hfit, hr⟩
  · omega
  · refine ⟨b, off + i.toNat * 1, fun k => by simp only [iaA_s, h0, h1, and_self, if_true], ?_⟩
    unfold H.read at hr
    unfold H.cell
    rw [Nat.mul_one]
    split at hr
    · rename_i known e own hg
      split at hr
      · injection hr with hr
        rw [← hr, Nat.mul_one, List.getElem?_take, List.getElem?_drop, if_pos (by omega)] at hx
        exact hx
      · cases hr
    · cases hr
theorem Row.len {h : H} {v : AV} {n esz : Nat} {cs : List AV} (r : Row h v n esz cs) : lenA false v = some (.int .i64 n) := by
  rcases r.2 with ⟨rfl, rfl⟩ | ⟨b, off, cap, rfl, _, _⟩ <;> rfl
theorem Row.mono {h h' : H} {v : AV} {n esz : Nat} {cs : List AV} (r : Row h v n esz cs) (hk : ∀ b off cap o, v = .sl b off n cap → h.get b = some o → h'.get b = some o) : Row h' v n esz cs := by
  refine ⟨r.1, ?_⟩
  rcases r.2 with q | ⟨b, off, cap, rfl, hfit, hr⟩
  · exact .inl q
  · refine .inr ⟨b, off, cap, rfl, hfit, ?_⟩
    unfold H.read at hr ⊢
    cases hg : h.get b with
    | none => rw [hg] at hr; cases hr
    | some o => rw [hk b off cap o rfl hg]; rw [hg] at hr; exact hr
theorem Row.fr {h h' : H} {v : AV} {n esz : Nat} {cs : List AV} (r : Row h v n esz cs) (f : Fr [] h h') : Row h' v n esz cs := r.mono fun b _ _ o _ hg => f b o (by simp) hg

theorem Row.slice {h : H} {v : AV} {n esz : Nat} {cs : List AV} (r : Row h v n esz cs) {k k' : IntKind} {i j : Int} (h0 : 0 ≤ i) (h1 : i ≤ j) (h2 : j ≤ n) (hn : 0 < n) :
    ∃ v', sliceOp (.row esz) v (some (.int k i)) (some (.int k' j)) none = some v' ∧ Row h v' (j.toNat - i.toNat) esz ((cs.drop (i.toNat * esz)).take ((j.toNat - i.toNat) * esz)) := by
  obtain ⟨hl, r⟩ := r
  rcases r with ⟨rfl, rfl⟩ | ⟨b, off, cap, rfl, hfit, hr⟩
  · omega
  · have hj : 0 ≤ j := by omega
    have hw : within n cap j.toNat = true := by simp only [within, Bool.or_eq_true, decide_eq_true_eq]; left; omega
    refine ⟨.sl b (off + i.toNat * esz) (j.toNat - i.toNat) (cap.less i.toNat), ?_, ?_, .inr ⟨b, _, _, rfl, ?_, ?_⟩⟩
    · have hij : i.toNat ≤ j.toNat := by omega
      simp only [sliceOp, hfit, if_true, slBounds, loB, hiB, natOf, h0, hj, hw, hij, and_self]
    · have : (j.toNat - i.toNat) * esz ≤ cs.length - i.toNat * esz := by
        rw [hl, ← Nat.sub_mul]
        exact Nat.mul_le_mul_right _ (by omega)
      rw [List.length_take, List.length_drop, Nat.min_eq_left this]
    · cases cap <;> simp_all [Cap.less, Cap.fits]
    · unfold H.read at hr ⊢
      split at hr
      · rename_i known e own hg
        split at hr
        · rename_i hle
          injection hr with hr
          have h3 : i.toNat * esz + (j.toNat - i.toNat) * esz ≤ n * esz := by
            rw [← Nat.add_mul]; exact Nat.mul_le_mul_right _ (by omega)
          rw [if_pos (by omega), ← hr, ← List.drop_drop]
          congr 1
          rw [List.drop_take, List.take_take, Nat.min_eq_left (by omega)]
        · cases hr
      · cases hr

/-! ### Bytes -/
def bc (l : List Nat) : List AV := l.map fun n : Nat => AV.int .u8 (n : Int)
theorem bc_length (l : List Nat) : (bc l).length = l.length := by simp [bc]
theorem bc_append (a b : List Nat) : bc (a ++ b) = bc a ++ bc b := by simp [bc]
theorem bc_leaves (l : List Nat) : leaves (bc l) = true := leaves_map _ (fun _ => rfl) l
theorem bytesOf_bc : ∀ l : List Nat, bytesOf (bc l) = some (l.map UInt8.ofNat)
  | [] => rfl
  | x :: l => by
    have := bytesOf_bc l
    simp only [bc] at this
    simp [bc, bytesOf, this]
theorem Row.b2s {h : H} {v : AV} {l : List Nat} (r : Row h v l.length 1 (bc l)) : b2sA h v = some (.str (l.map UInt8.ofNat)) := by
  rcases r.2 with ⟨q, rfl⟩ | ⟨b, off, cap, rfl, hfit, hr⟩
  · have : l = [] := List.eq_nil_of_length_eq_zero q
    subst this; rfl
  · simp only [b2sA]
    rw [Nat.mul_one] at hr
    rw [hr]
    simp only [bytesOf_bc, Option.map_some]
theorem ofNat_inj {a b : List Nat} (ha : ∀ x ∈ a, x < 256) (hb : ∀ x ∈ b, x < 256) (h : a.map UInt8.ofNat = b.map UInt8.ofNat) : a = b := by
  induction a generalizing b with
  | nil => cases b with
    | nil => rfl
    | cons => simp at h
  | cons x a ih => cases b with
    | nil => simp at h
    | cons y b =>
      simp only [List.map_cons, List.cons.injEq] at h
      have h1 := congrArg UInt8.toNat h.1
      have hx := ha x (by simp)
      have hy := hb y (by simp)
      simp only [UInt8.toNat_ofNat'] at h1
      rw [Nat.mod_eq_of_lt (by simpa using hx), Nat.mod_eq_of_lt (by simpa using hy)] at h1
      rw [h1, ih (fun z hz => ha z (by simp [hz])) (fun z hz => hb z (by simp [hz])) h.2]
end Go.Proofs.Ytljkkfcokpimkaa.X
