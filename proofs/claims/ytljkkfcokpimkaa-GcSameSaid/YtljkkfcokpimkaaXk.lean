/- What a law's input is to the plain machine: numbers, truth values, texts, rows and structs, laid into plain memory. -/
import Derived.Test.YtljkkfcokpimkaaXj
import Derived.Carry
import Derived.ChangeArms
import Derived.DataReads
import Derived.DataElems
set_option linter.unusedVariables false
set_option linter.unusedSimpArgs false
namespace Go.Proofs.Ytljkkfcokpimkaa.X
open Go Go.RowKit

/-- A type's outline. -/
inductive Sh where
  | int (k : IntKind)
  | bool
  | str
  | sl (e : Sh)
  | st (fs : List Sh)

mutual
def Sh.size : Sh → Nat
  | .st fs => Sh.sizes fs
  | _ => 1
def Sh.sizes : List Sh → Nat
  | [] => 0
  | s :: l => s.size + Sh.sizes l
end

mutual
def okSh (P : Program) (t : TypeId) : Sh → Bool
  | .int k => match P.underlying t with | some (.int k') => decide (k = k') | _ => false
  | .bool => match P.underlying t with | some .bool => true | _ => false
  | .str => match P.underlying t with | some .string => true | _ => false
  | .sl s => match P.underlying t with | some (.slice e) => okSh P e s && decide (P.cellsOf e = s.size) && decide (0 < s.size) && decide (0 < P.bytesOf e) | _ => false
  | .st ss => match P.underlying t with | some (.struct fs) => okShs P fs.toList 0 ss && decide (P.cellsOf t = Sh.sizes ss) | _ => false
def okShs (P : Program) : List Field → Nat → List Sh → Bool
  | [], _, [] => true
  | f :: fs, off, s :: ss => decide (f.offset = off) && okSh P f.type s && decide (P.cellsOf f.type = s.size) && okShs P fs (off + s.size) ss
  | _, _, _ => false
end

variable {bd : Nat}
mutual
/-- The cells of a value of such a type. -/
def Sits (bd : Nat) (m : Mem) : Sh → List AV → Prop
  | .int k, l => ∃ n, l = [.int k n] ∧ (Lit.int k n).wf = true
  | .bool, l => ∃ b, l = [.bool b]
  | .str, l => ∃ s : List UInt8, l = [.str s] ∧ s.length ≤ bd
  | .sl s, l => l = [.nilsl] ∨ ∃ (b ei : Nat) (css : List (List AV)), l = [.sl b 0 css.length .any] ∧ m.get b = some (.live css.flatten ei false) ∧ css.length ≤ bd ∧ ∀ c ∈ css, Sits bd m s c
  | .st ss, l => SitsL bd m ss l
def SitsL (bd : Nat) (m : Mem) : List Sh → List AV → Prop
  | [], l => l = []
  | s :: ss, l => ∃ l1 l2, l = l1 ++ l2 ∧ Sits bd m s l1 ∧ SitsL bd m ss l2
end

def Grows (m m' : Mem) : Prop := m.next ≤ m'.next ∧ ∀ b o, m.get b = some o → m'.get b = some o
theorem Grows.refl (m : Mem) : Grows m m := ⟨Nat.le_refl _, fun _ _ h => h⟩
theorem Grows.trans {a b c : Mem} (h : Grows a b) (h' : Grows b c) : Grows a c := ⟨Nat.le_trans h.1 h'.1, fun k o x => h'.2 k o (h.2 k o x)⟩

mutual
theorem Sits.mono {m m' : Mem} (h : Grows m m') : ∀ (s : Sh) (l : List AV), Sits bd m s l → Sits bd m' s l
  | .int _, _, hl => by simpa only [Sits] using hl
  | .bool, _, hl => by simpa only [Sits] using hl
  | .str, _, hl => by simpa only [Sits] using hl
  | .sl s, l, hl => by
    simp only [Sits] at hl ⊢
    rcases hl with hl | ⟨b, ei, css, h1, h2, h3, h4⟩
    · exact .inl hl
    · exact .inr ⟨b, ei, css, h1, h.2 _ _ h2, h3, fun c hc => Sits.mono h s c (h4 c hc)⟩
  | .st ss, l, hl => by
    simp only [Sits] at hl ⊢
    exact SitsL.mono h ss l hl
theorem SitsL.mono {m m' : Mem} (h : Grows m m') : ∀ (ss : List Sh) (l : List AV), SitsL bd m ss l → SitsL bd m' ss l
  | [], _, hl => by simpa only [SitsL] using hl
  | s :: ss, l, hl => by
    simp only [SitsL] at hl ⊢
    obtain ⟨l1, l2, h1, h2, h3⟩ := hl
    exact ⟨l1, l2, h1, Sits.mono h s l1 h2, SitsL.mono h ss l2 h3⟩
end

mutual
theorem Sits.facts {m : Mem} : ∀ (s : Sh) (l : List AV), Sits bd m s l → leaves l = true ∧ l.length = s.size
  | .int _, _, hl => by simp only [Sits] at hl; obtain ⟨_, rfl, _⟩ := hl; exact ⟨rfl, rfl⟩
  | .bool, _, hl => by simp only [Sits] at hl; obtain ⟨_, rfl⟩ := hl; exact ⟨rfl, rfl⟩
  | .str, _, hl => by simp only [Sits] at hl; obtain ⟨_, rfl, _⟩ := hl; exact ⟨rfl, rfl⟩
  | .sl s, l, hl => by
    simp only [Sits] at hl
    rcases hl with rfl | ⟨b, ei, css, rfl, _⟩
    · exact ⟨rfl, rfl⟩
    · exact ⟨rfl, rfl⟩
  | .st ss, l, hl => by
    simp only [Sits] at hl
    have := SitsL.facts ss l hl
    exact ⟨this.1, by simpa only [Sh.size] using this.2⟩
theorem SitsL.facts {m : Mem} : ∀ (ss : List Sh) (l : List AV), SitsL bd m ss l → leaves l = true ∧ l.length = Sh.sizes ss
  | [], _, hl => by simp only [SitsL] at hl; subst hl; exact ⟨rfl, rfl⟩
  | s :: ss, l, hl => by
    simp only [SitsL] at hl
    obtain ⟨l1, l2, rfl, h2, h3⟩ := hl
    have a := Sits.facts s l1 h2
    have b := SitsL.facts ss l2 h3
    refine ⟨leaves_of_all fun x hx => ?_, by simp only [List.length_append, Sh.sizes, a.2, b.2]⟩
    rcases List.mem_append.1 hx with hx | hx
    · exact leaves_all a.1 x hx
    · exact leaves_all b.1 x hx
end

/-- No block is the call's own yet. -/
def Bare (m : Mem) : Prop := ∀ b cs e own, m.get b = some (.live cs e own) → own = false

theorem MR.lay {P : Program} {base : Nat} {ρ : Map} {m : Mem} {w : World} (h : MR P base ρ m w) (hb : Bare m) {cs : List AV} {e : Nat} {r : Reg} (ho : OR P ρ base w r (.live cs e false)) :
    ∃ ρ', ρ.le ρ' ∧ ρ' m.next = some r ∧ MR P base ρ' ⟨m.next + 1, m.t.set m.next (.live cs e false)⟩ w ∧ Grows m ⟨m.next + 1, m.t.set m.next (.live cs e false)⟩ ∧ Bare ⟨m.next + 1, m.t.set m.next (.live cs e false)⟩ ∧ Mem.get ⟨m.next + 1, m.t.set m.next (.live cs e false)⟩ m.next = some (.live cs e false) := by
  have hget : ∀ b, Mem.get ⟨m.next + 1, m.t.set m.next (.live cs e false)⟩ b = if b = m.next then some (.live cs e false) else m.get b := fun b => T.get_set ..
  have hno : ρ m.next = none := by
    cases hx : ρ m.next with
    | none => rfl
    | some r => exact absurd (h.lt hx) (Nat.lt_irrefl _)
  have hle : ρ.le (fun b => if b = m.next then some r else ρ b) := fun b q hq => by
    have : b ≠ m.next := fun e => by rw [e, hno] at hq; cases hq
    simp [this, hq]
  have hold : ∀ b o, m.get b = some o → b < m.next := fun b o hbo => (h.dom b o hbo).1
  refine ⟨fun b => if b = m.next then some r else ρ b, hle, by simp, ⟨fun b o hbo => ?_, fun b q hq => ?_, h.low, fun b b' cs' e' o' q q' h1 => ?_⟩, ⟨Nat.le_succ _, fun b o hbo => ?_⟩, fun b cs' e' own hbo => ?_, by rw [hget]; simp⟩
  · rw [hget] at hbo
    split at hbo
    · rename_i hbe
      injection hbo with hbo
      subst hbo
      exact ⟨by subst hbe; exact Nat.lt_succ_self _, r, by simp [hbe], ho.mono hle⟩
    · obtain ⟨h1, q, h2, h3⟩ := h.dom b o hbo
      exact ⟨Nat.lt_succ_of_lt h1, q, hle _ _ h2, h3.mono hle⟩
  · rw [hget]
    split
    · simp
    · rename_i hbe
      simp only [hbe, if_false] at hq
      exact h.used b q hq
  · rw [hget] at h1
    split at h1
    · injection h1 with h1; injection h1 with _ _ h1; cases h1
    · have := hb _ _ _ _ h1; cases this
  · rw [hget]
    have := hold b o hbo
    rw [if_neg (by omega)]
    exact hbo
  · rw [hget] at hbo
    split at hbo
    · injection hbo with hbo; injection hbo with _ _ h1; exact h1.symm
    · exact hb _ _ _ _ hbo

section
variable {H : Type} {enc : TypeId × Value → H} {P : Program} {w : World} {base : Nat}

/-- Some block of cells is there, if a row is. -/
def Some1 (w : World) (cs : List Value) : Prop := (∃ a n c, Value.slice (some a) n c ∈ cs) → ∃ (b : Nat) (carr : Array Value) (e : TypeId) (fr : Nat × Nat), w.heap[b]? = some (Go.Obj.cells carr e fr)

/-- What is made of cells. -/
structure Laid (P : Program) (base : Nat) (w : World) (ρ : Map) (m : Mem) (cs : List Value) (Q : Mem → List AV → Prop) (ρ' : Map) (m' : Mem) (l : List AV) : Prop where
  le : ρ.le ρ'
  mr : MR P base ρ' m' w
  bare : Bare m'
  grows : Grows m m'
  vr : VRL ρ' l cs
  sits : Q m' l

theorem cells_some {a : Addr} {v : Value} (h : w.cell? a = some v) : a.spot = none ∧ ∃ carr e fr, w.heap[a.block]? = some (.cells carr e fr) ∧ carr[a.off]? = some v := by
  unfold World.cell? at h
  split at h
  · rename_i c e fr hc
    split at h
    · cases h
    · rename_i hs
      refine ⟨by simpa using hs, c, e, fr, hc, h⟩
  · cases h

theorem row_laid {e : TypeId} {s : Sh} {sp : Nat → Bool} {held : Bool} {n : Nat} {a : Addr} (hpos : 0 < s.size) (hsz : P.cellsOf e = s.size)
    (ih : ∀ (cs : List Value) (x : DataW H × List MemPlace), (∀ k ∈ x.1.weights P e, k ≤ bd) → DataW.trod enc P w 0 sp held n e cs = some x → Some1 w cs → ∀ ρ m, MR P base ρ m w → Bare m → ∃ ρ' m' l, Laid P base w ρ m cs (fun m l => Sits bd m s l) ρ' m' l) :
    ∀ (len i0 : Nat) (elems : List (DataW H × List MemPlace)), (∀ x ∈ elems, ∀ k ∈ x.1.weights P e, k ≤ bd) → elems.length = len → (∀ i, i < len → (w.cells? 0 (a.add ((i0 + i) * P.cellsOf e)) (P.cellsOf e)).bind (DataW.trod enc P w 0 sp held n e) = elems[i]?) →
      ∀ ρ m, MR P base ρ m w → Bare m → ∃ (ρ' : Map) (m' : Mem) (css : List (List AV)) (cs : List Value), Laid P base w ρ m cs (fun m l => l = css.flatten ∧ css.length = len ∧ ∀ c ∈ css, Sits bd m s c) ρ' m' css.flatten ∧ cs.length = len * s.size ∧
        ∀ j u, cs[j]? = some u → w.cell? (a.add (i0 * s.size + j)) = some u := by
  intro len
  induction len with
  | zero =>
    intro i0 elems _ _ _ ρ m hm hb
    exact ⟨ρ, m, [], [], ⟨ρ.le_refl, hm, hb, Grows.refl _, VRL.nil', rfl, rfl, fun c hc => by cases hc⟩, by simp, fun j u hj => by simp at hj⟩
  | succ len ihl =>
    intro i0 elems hwt hlen hel ρ m hm hb
    obtain ⟨x, elems, rfl⟩ : ∃ x l, elems = x :: l := by cases elems <;> simp at hlen; exact ⟨_, _, rfl⟩
    have h0 := hel 0 (by omega)
    simp only [Nat.add_zero, List.getElem?_cons_zero, Option.bind_eq_some_iff] at h0
    obtain ⟨c0, hc0, hx⟩ := h0
    obtain ⟨_, hl0, hcell⟩ := World.cells?_some hc0
    have hw : ∃ (b : Nat) (carr : Array Value) (e : TypeId) (fr : Nat × Nat), w.heap[b]? = some (Go.Obj.cells carr e fr) := by
      have := hcell 0 (by omega)
      cases hz : c0[0]? with
      | none => rw [List.getElem?_eq_none_iff] at hz; omega
      | some v =>
        rw [hz] at this
        obtain ⟨_, carr, e, fr, h1, _⟩ := cells_some this
        exact ⟨_, carr, e, fr, h1⟩
    obtain ⟨ρ1, m1, l1, L1⟩ := ih c0 x (hwt x (by simp)) hx (fun _ => hw) ρ m hm hb
    obtain ⟨ρ2, m2, css, cs, L2, hcl, hcs⟩ := ihl (i0 + 1) elems (fun x hx => hwt x (by simp [hx])) (by simpa using hlen) (fun i hi => by
      have := hel (i + 1) (by omega)
      rw [show i0 + (i + 1) = i0 + 1 + i by omega] at this
      simpa using this) ρ1 m1 L1.mr L1.bare
    have hs1 := L1.sits.mono L2.grows
    refine ⟨ρ2, m2, l1 :: css, c0 ++ cs, ⟨Map.le_trans L1.le L2.le, L2.mr, L2.bare, L1.grows.trans L2.grows, ?_, rfl, by simp [L2.sits.2.1], ?_⟩, by rw [List.length_append, hl0, hcl, hsz, Nat.succ_mul]; omega, ?_⟩
    · simp only [List.flatten_cons]
      exact (VRL.mono L2.le _ _ L1.vr).append L2.vr
    · intro c hc
      rcases List.mem_cons.1 hc with rfl | hc
      · exact hs1
      · exact L2.sits.2.2 c hc
    · intro j u hj
      by_cases hjl : j < c0.length
      · rw [List.getElem?_append_left hjl] at hj
        have := hcell j (by omega)
        rw [hj, hsz, Addr.add_add] at this
        exact this
      · rw [List.getElem?_append_right (by omega)] at hj
        have := hcs _ u hj
        rw [show i0 * s.size + j = (i0 + 1) * s.size + (j - c0.length) by rw [Nat.succ_mul, hl0, hsz]; omega]
        exact this

theorem fields_laid {sp : Nat → Bool} {held : Bool} {n : Nat} : ∀ (fs : List Field) (ss : List Sh) (off : Nat) (xs : List (DataW H × List MemPlace)) (cs : List Value),
    (∀ s ∈ ss, ∀ t cs x, okSh P t s = true → (∀ k ∈ x.1.weights P t, k ≤ bd) → DataW.trod enc P w 0 sp held n t cs = some x → Some1 w cs → ∀ ρ m, MR P base ρ m w → Bare m → ∃ ρ' m' l, Laid P base w ρ m cs (fun m l => Sits bd m s l) ρ' m' l) →
    okShs P fs off ss = true → (∀ k ∈ DataW.weightsEach P (fs.map (·.type)) (xs.map (·.1)), k ≤ bd) → xs.length = fs.length → cs.length = off + Sh.sizes ss → (∀ (i : Nat) (f : Field), fs[i]? = some f → DataW.trod enc P w 0 sp held n f.type ((cs.drop f.offset).take (P.cellsOf f.type)) = xs[i]?) → Some1 w cs →
    ∀ ρ m, MR P base ρ m w → Bare m → ∃ ρ' m' l, Laid P base w ρ m (cs.drop off) (fun m l => SitsL bd m ss l) ρ' m' l
  | [], [], off, xs, cs, _, _, _, _, hlen, _, _, ρ, m, hm, hb => by
    refine ⟨ρ, m, [], ρ.le_refl, hm, hb, Grows.refl _, ?_, by simp only [SitsL]⟩
    rw [List.drop_eq_nil_of_le (by simp only [Sh.sizes] at hlen; omega)]
    exact VRL.nil'
  | [], _ :: _, _, _, _, _, h, _, _, _, _, _, _, _, _, _ => by simp [okShs] at h
  | _ :: _, [], _, _, _, _, h, _, _, _, _, _, _, _, _, _ => by simp [okShs] at h
  | f :: fs, s :: ss, off, xs, cs, ih, h, hwt, hxl, hlen, hf, h1, ρ, m, hm, hb => by
    simp only [okShs, Bool.and_eq_true, decide_eq_true_eq] at h
    obtain ⟨⟨⟨ho, hs⟩, hz⟩, hrest⟩ := h
    obtain ⟨x, xs, rfl⟩ : ∃ x l, xs = x :: l := by cases xs <;> simp at hxl; exact ⟨_, _, rfl⟩
    have hx := hf 0 f rfl
    simp only [List.getElem?_cons_zero] at hx
    simp only [List.map_cons, DataW.weightsEach, List.mem_append] at hwt
    have sub : ∀ (k j : Nat), Some1 w ((cs.drop k).take j) := fun k j ⟨a, c, d, hm⟩ => h1 ⟨a, c, d, List.mem_of_mem_drop (List.mem_of_mem_take hm)⟩
    obtain ⟨ρ1, m1, l1, L1⟩ := ih s (by simp) _ _ _ hs (fun k hk => hwt k (.inl hk)) hx (sub _ _) ρ m hm hb
    obtain ⟨ρ2, m2, l2, L2⟩ := fields_laid fs ss (off + s.size) xs cs (fun s' hs' => ih s' (by simp [hs'])) hrest (fun k hk => hwt k (.inr hk)) (by simpa using hxl) (by simp only [Sh.sizes] at hlen; omega) (fun i f' hf' => by simpa using hf (i + 1) f' (by simpa using hf')) h1 ρ1 m1 L1.mr L1.bare
    refine ⟨ρ2, m2, l1 ++ l2, Map.le_trans L1.le L2.le, L2.mr, L2.bare, L1.grows.trans L2.grows, ?_, ?_⟩
    · have := (VRL.mono L2.le _ _ L1.vr).append L2.vr
      rw [ho, hz, show cs.drop (off + s.size) = (cs.drop off).drop s.size by rw [List.drop_drop], List.take_append_drop] at this
      exact this
    · simp only [SitsL]
      exact ⟨l1, l2, rfl, L1.sits.mono L2.grows, L2.sits⟩

mutual
theorem laid {sp : Nat → Bool} {held : Bool} : ∀ (s : Sh) (n : Nat) (t : TypeId) (cs : List Value) (x : DataW H × List MemPlace), okSh P t s = true → (∀ k ∈ x.1.weights P t, k ≤ bd) → DataW.trod enc P w 0 sp held n t cs = some x → Some1 w cs →
    ∀ ρ m, MR P base ρ m w → Bare m → ∃ ρ' m' l, Laid P base w ρ m cs (fun m l => Sits bd m s l) ρ' m' l
  | .int k, n, t, cs, x, hok, hwt, hx, _, ρ, m, hm, hb => by
    unfold okSh at hok
    split at hok
    · rename_i k' ht
      simp only [decide_eq_true_eq] at hok
      subst hok
      obtain ⟨q, rfl, _, hw⟩ := DataW.trod_int ht hx
      exact ⟨ρ, m, [.int k q], ρ.le_refl, hm, hb, Grows.refl _, .cons (by simp [VR]) VRL.nil', by simp only [Sits]; exact ⟨q, rfl, hw⟩⟩
    · cases hok
  | .bool, n, t, cs, x, hok, hwt, hx, _, ρ, m, hm, hb => by
    unfold okSh at hok
    split at hok
    · rename_i ht
      obtain ⟨q, rfl, _⟩ := DataW.trod_bool ht hx
      exact ⟨ρ, m, [.bool q], ρ.le_refl, hm, hb, Grows.refl _, .cons (by simp [VR]) VRL.nil', by simp only [Sits]; exact ⟨q, rfl⟩⟩
    · cases hok
  | .str, n, t, cs, x, hok, hwt, hx, _, ρ, m, hm, hb => by
    unfold okSh at hok
    split at hok
    · rename_i ht
      obtain ⟨q, rfl, rfl, hw⟩ := DataW.trod_string ht hx
      exact ⟨ρ, m, [.str q.data.toList], ρ.le_refl, hm, hb, Grows.refl _, .cons (by simp [VR]) VRL.nil', by simp only [Sits]; exact ⟨_, rfl, hwt _ (by simp [DataW.weights])⟩⟩
    · cases hok
  | .st ss, n, t, cs, x, hok, hwt, hx, h1, ρ, m, hm, hb => by
    unfold okSh at hok
    split at hok
    · rename_i fs ht
      simp only [Bool.and_eq_true, decide_eq_true_eq] at hok
      obtain ⟨xs, n', rfl, rfl, hl, hxl, hf⟩ := DataW.trod_struct ht hx
      have hwt' : ∀ k ∈ DataW.weightsEach P (fs.toList.map (·.type)) (xs.map (·.1)), k ≤ bd := fun k hk => hwt k (by simp only [DataW.weights, ht]; exact hk)
      obtain ⟨ρ', m', l, L⟩ := fields_laid fs.toList ss 0 xs cs (fun s hs t cs x hok hw hx => laids ss s hs n' t cs x hok hw hx) hok.1 hwt' (by simpa using hxl) (by rw [hl, hok.2]; omega) (fun i f hf' => hf i f (by simpa using hf')) h1 ρ m hm hb
      exact ⟨ρ', m', l, L.le, L.mr, L.bare, L.grows, by simpa using L.vr, by simp only [Sits]; exact L.sits⟩
    · cases hok
  | .sl s, n, t, cs, x, hok, hwt, hx, h1, ρ, m, hm, hb => by
    unfold okSh at hok
    split at hok
    · rename_i e ht
      simp only [Bool.and_eq_true, decide_eq_true_eq] at hok
      obtain ⟨⟨⟨hs, hsz⟩, hpos⟩, hby⟩ := hok
      rcases DataW.trod_slice ht hx with ⟨rfl, _⟩ | ⟨a, len, cap, elems, rest, n', rfl, rfl, hxe, _, hlc, hcm, hel, hE, _⟩
      · exact ⟨ρ, m, [.nilsl], ρ.le_refl, hm, hb, Grows.refl _, .cons (by simp [VR]) VRL.nil', by simp [Sits]⟩
      · subst hxe
        simp only [DataW.weights, ht] at hwt
        have hwall : ∀ (ds : List (DataW H)) (d : DataW H), d ∈ ds → ∀ k ∈ d.weights P e, k ∈ DataW.weightsAll P e ds := by
          intro ds
          induction ds with
          | nil => intro d hd; cases hd
          | cons d0 ds ih =>
            intro d hd k hk
            simp only [DataW.weightsAll, List.mem_append]
            rcases List.mem_cons.1 hd with rfl | hd
            · exact .inl hk
            · exact .inr (ih d hd k hk)
        have hwe : ∀ x ∈ elems, ∀ k ∈ x.1.weights P e, k ≤ bd := fun x hx k hk => hwt k (List.mem_cons_of_mem _ (List.mem_append_left _ (hwall _ x.1 (List.mem_map_of_mem hx) k hk)))
        have hlenb : len ≤ bd := by
          have h1 := hwt _ (List.mem_cons_self ..)
          simp only [List.length_map, hel] at h1
          have h2 : len * 1 ≤ (len + rest.length) * P.bytesOf e := Nat.mul_le_mul (Nat.le_add_right _ _) hby
          omega
        obtain ⟨ρ1, m1, css, cs, L, hcl, hcs⟩ := row_laid (sp := sp) (held := held) (n := n') (a := a) hpos hsz (fun cs x hw hx => laid s n' e cs x hs hw hx) len 0 elems hwe hel (by simpa using hE) ρ m hm hb
        have hcss := L.sits
        have hfl : css.flatten.length = len * s.size := by rw [← hcl, L.vr.length]
        have hor : ∃ r : Reg, OR P ρ1 base w r (.live css.flatten 0 false) ∧ slAt r 0 len cap .any a := by
          by_cases h0 : len = 0
          · obtain ⟨b, carr, e', fr, hbl⟩ := h1 ⟨a, len, cap, by simp⟩
            have hnil : css.flatten = [] := List.eq_nil_of_length_eq_zero (by rw [hfl, h0]; simp)
            refine ⟨⟨b, 0, 0, 0⟩, ⟨carr, e', fr, hbl, by rw [hnil]; simp, by rw [hnil]; rfl, fun i a ha => by rw [hnil] at ha; simp at ha, fun h => by cases h⟩, .inr ⟨h0, .inr rfl⟩⟩
          · have hp : 0 < len * s.size := Nat.mul_pos (Nat.pos_of_ne_zero h0) hpos
            obtain ⟨u, hu⟩ : ∃ u, cs[0]? = some u := ⟨cs[0], by simp [hcl, hp]⟩
            obtain ⟨hsp, carr, e', fr, hbl, _⟩ := cells_some (hcs 0 u hu)
            have hblk : ∀ j, (a.add j).block = a.block := fun j => by unfold Addr.add; split <;> rfl
            have hoff : ∀ j, (a.add j).off = a.off + j := fun j => by unfold Addr.add; split <;> simp_all
            have hspot : a.spot = none := by
              have h0' := hcs 0 u hu
              simp only [Nat.zero_mul, Nat.add_zero] at h0'
              have := cells_some h0'
              simpa [Addr.add] using this.1
            rw [hblk] at hbl
            have hcell : ∀ j u, cs[j]? = some u → carr[a.off + j]? = some u := fun j u hj => by
              have := hcs j u hj
              simp only [Nat.zero_mul, Nat.zero_add] at this
              obtain ⟨_, carr', e'', fr', g1, g2⟩ := cells_some this
              rw [hblk, hbl] at g1
              injection g1 with g1
              injection g1 with g1
              rw [hoff, ← g1] at g2
              exact g2
            refine ⟨⟨a.block, a.off, 0, 0⟩, ⟨carr, e', fr, hbl, ?_, ?_, fun i x hx => ?_, fun h => by cases h⟩, .inl ?_⟩
            · show a.off + css.flatten.length ≤ carr.size
              rw [hfl]
              obtain ⟨u', hu'⟩ : ∃ u, cs[len * s.size - 1]? = some u := ⟨cs[len * s.size - 1]'(by omega), by simp⟩
              have := (Array.getElem?_eq_some_iff.1 (hcell _ _ hu')).1
              omega
            · refine leaves_of_all fun x hx => ?_
              obtain ⟨c, hc, hxc⟩ := List.mem_flatten.1 hx
              exact leaves_all (hcss.2.2 c hc).facts.1 x hxc
            · obtain ⟨u', hu', hv⟩ := L.vr.get i x hx
              exact ⟨u', hcell i u' hu', hv⟩
            · cases a with
              | mk b o sp => simp only at hspot; subst hspot; simp
        obtain ⟨r, hor, hat⟩ := hor
        obtain ⟨ρ2, q1, q2, q3, q4, q5, q6⟩ := L.mr.lay L.bare hor
        refine ⟨ρ2, _, [.sl m1.next 0 len .any], Map.le_trans L.le q1, q3, q5, L.grows.trans q4, .cons ?_ VRL.nil', ?_⟩
        · simp only [VR]
          exact ⟨r, a, cap, q2, hlc, hat, rfl⟩
        · simp only [Sits]
          refine .inr ⟨m1.next, 0, css, by rw [hcss.2.1], q6, by rw [hcss.2.1]; exact hlenb, fun c hc => (hcss.2.2 c hc).mono q4⟩
    · cases hok
theorem laids {sp : Nat → Bool} {held : Bool} : ∀ (ss : List Sh) (s : Sh), s ∈ ss → ∀ (n : Nat) (t : TypeId) (cs : List Value) (x : DataW H × List MemPlace), okSh P t s = true → (∀ k ∈ x.1.weights P t, k ≤ bd) → DataW.trod enc P w 0 sp held n t cs = some x → Some1 w cs →
    ∀ ρ m, MR P base ρ m w → Bare m → ∃ ρ' m' l, Laid P base w ρ m cs (fun m l => Sits bd m s l) ρ' m' l
  | [], _, h => by cases h
  | s0 :: ss, s, h => by
    by_cases he : s = s0
    · rw [he]; exact laid s0
    · exact laids ss s (by simpa [he] using h)
end

/-! ### The arguments of a call -/
def argOf : Sh → List AV → AV
  | .st _, l => .agg l
  | _, l => l.headD .undef
def argsOf : List Sh → List (List AV) → List AV
  | s :: ss, l :: ls => argOf s l :: argsOf ss ls
  | _, _ => []
def SitsA (bd : Nat) (m : Mem) : List Sh → List (List AV) → Prop
  | [], [] => True
  | s :: ss, l :: ls => Sits bd m s l ∧ SitsA bd m ss ls
  | _, _ => False
theorem SitsA.mono {m m' : Mem} (h : Grows m m') : ∀ (ss : List Sh) (ls : List (List AV)), SitsA bd m ss ls → SitsA bd m' ss ls
  | [], [], hl => hl
  | [], _ :: _, hl => hl
  | _ :: _, [], hl => hl
  | s :: ss, l :: ls, hl => by
    simp only [SitsA] at hl ⊢
    exact ⟨hl.1.mono h, SitsA.mono h ss ls hl.2⟩
def okTs (P : Program) : List TypeId → List Sh → Bool
  | [], [] => true
  | t :: ts, s :: ss => okSh P t s && okTs P ts ss && (P.readableRec t && decide (t < P.types.size))
  | _, _ => false

theorem has_some {r : Reach} {b : Nat} {u : TypeId} {a : Addr} {n c : Nat} (h : Cell.okWide P w r b u (.slice (some a) n c)) : ∃ (b : Nat) (carr : Array Value) (e : TypeId) (fr : Nat × Nat), w.heap[b]? = some (Go.Obj.cells carr e fr) := by
  have h2 : ∃ e m, w.has P r b a e m := by
    unfold Cell.okWide Cell.ok at h
    cases hu : P.underlying u with
    | none => simp [hu] at h
    | some d =>
      simp only [hu] at h
      cases d <;> simp at h
      exact ⟨_, _, h.2.2⟩
  obtain ⟨e, m, _, _, row, cells, h3, _⟩ := h2
  unfold World.shape? at h3
  split at h3
  · rename_i c e fr hc
    exact ⟨_, _, _, _, hc⟩
  · cases h3
theorem val_some {r : Reach} {b : Nat} {t : TypeId} {v : Value} (h : Value.okWide P w r b t v) : Some1 w v.cells.toList := by
  rintro ⟨a, n, c, hm⟩
  unfold Value.okWide at h
  have flat : Cell.okWide P w r b t v → ∃ (b : Nat) (carr : Array Value) (e : TypeId) (fr : Nat × Nat), w.heap[b]? = some (Go.Obj.cells carr e fr) := by
    intro h
    cases v with
    | agg cs =>
      exfalso
      unfold Cell.okWide Cell.ok at h
      cases hu : P.underlying t with
      | none => simp [hu] at h
      | some d => simp [hu] at h
    | slice x n' c' =>
      simp [Value.cells] at hm
      obtain ⟨rfl, rfl, rfl⟩ := hm
      exact has_some h
    | _ => simp [Value.cells] at hm
  have rows : (∃ cs, v = .agg cs ∧ cs.size = P.cellsOf t ∧ Row.okWide P w r b t cs) → ∃ (b : Nat) (carr : Array Value) (e : TypeId) (fr : Nat × Nat), w.heap[b]? = some (Go.Obj.cells carr e fr) := by
    rintro ⟨cs, rfl, _, ts, _, _, hc⟩
    simp only [Value.cells] at hm
    obtain ⟨i, hi⟩ := List.getElem?_of_mem hm
    obtain ⟨u, _, hu⟩ := hc i _ (by simpa using hi)
    exact has_some hu
  split at h
  · exact rows h
  · exact rows h
  · exact flat h
theorem arg_VR {ρ : Map} {m : Mem} {r : Reach} {b : Nat} {t : TypeId} {s : Sh} {v : Value} {l : List AV} (hok : okSh P t s = true) (h : Value.okWide P w r b t v) (hv : VRL ρ l v.cells.toList) (hs : Sits bd m s l) : VR ρ (argOf s l) v := by
  have flat : ∀ {d : TypeDesc}, P.underlying t = some d → (∀ fs, d ≠ .struct fs) → (∀ n e, d ≠ .array n e) → v.cells = #[v] := by
    intro d hd h1 h2
    unfold Value.okWide at h
    rw [hd] at h
    have h3 : Cell.okWide P w r b t v := by cases d <;> first | exact h | (exact absurd rfl (h1 _)) | (exact absurd rfl (h2 _ _))
    cases v <;> first | rfl | skip
    exfalso
    unfold Cell.okWide Cell.ok at h3
    simp [hd] at h3
  have one : l.length = 1 → v.cells = #[v] → VR ρ (l.headD .undef) v := by
    intro h1 h2
    rw [h2] at hv
    obtain ⟨x, rfl⟩ : ∃ x, l = [x] := by
      cases l with
      | nil => simp at h1
      | cons x l => cases l with
        | nil => exact ⟨x, rfl⟩
        | cons => simp at h1
    simp only [VRL] at hv
    obtain ⟨y, ys, e, hy, hz⟩ := hv
    injection e with e1 e2
    rw [e1]
    exact hy
  have hlen := hs.facts.2
  cases s with
  | st ss =>
    unfold okSh at hok
    split at hok
    · rename_i fs ht
      unfold Value.okWide at h
      rw [ht] at h
      obtain ⟨cs, rfl, _⟩ := h
      simp only [argOf, VR]
      exact ⟨cs.toList, by simpa [Value.cells] using hv, by simp⟩
    · cases hok
  | int k =>
    unfold okSh at hok
    split at hok
    · rename_i ht
      exact one hlen (flat ht (by simp) (by simp))
    · cases hok
  | bool =>
    unfold okSh at hok
    split at hok
    · rename_i ht
      exact one hlen (flat ht (by simp) (by simp))
    · cases hok
  | str =>
    unfold okSh at hok
    split at hok
    · rename_i ht
      exact one hlen (flat ht (by simp) (by simp))
    · cases hok
  | sl e =>
    unfold okSh at hok
    split at hok
    · rename_i ht
      exact one hlen (flat ht (by simp) (by simp))
    · cases hok

theorem args_laid {sp : Nat → Bool} {held : Bool} {r : Reach} {b : Nat} : ∀ (ts : List TypeId) (ss : List Sh) (vs : List Value) (ds : List (DataW H)) (p : List MemPlace), okTs P ts ss = true → (∀ k ∈ DataW.weightsEach P ts ds, k ≤ bd) → DataW.TrodAll enc P w 0 sp held ts vs ds p →
    (∀ (j : Nat) t v, ts[j]? = some t → vs[j]? = some v → Value.okWide P w r b t v) → ∀ ρ m, MR P base ρ m w → Bare m → ∃ ρ' m' ls, ρ.le ρ' ∧ MR P base ρ' m' w ∧ Grows m m' ∧ VRL ρ' (argsOf ss ls) vs ∧ SitsA bd m' ss ls
  | [], [], [], ds, p, _, _, _, _, ρ, m, hm, hb => ⟨ρ, m, [], ρ.le_refl, hm, Grows.refl _, VRL.nil', trivial⟩
  | [], [], _ :: _, ds, p, _, _, h, _, _, _, _, _ => by cases ds <;> exact h.elim
  | [], _ :: _, _, _, _, h, _, _, _, _, _, _, _ => by simp [okTs] at h
  | _ :: _, [], _, _, _, h, _, _, _, _, _, _, _ => by simp [okTs] at h
  | t :: ts, s :: ss, vs, ds, p, hok, hwt, h, hval, ρ, m, hm, hb => by
    cases vs with
    | nil => cases ds <;> exact h.elim
    | cons v vs =>
      cases ds with
      | nil => exact h.elim
      | cons d ds =>
        obtain ⟨p1, q1, ⟨n, hx⟩, hrest, _⟩ := h
        simp only [okTs, Bool.and_eq_true] at hok
        have hv := hval 0 t v rfl rfl
        simp only [DataW.weightsEach, List.mem_append] at hwt
        obtain ⟨ρ1, m1, l, L⟩ := laid s n t _ _ hok.1.1 (fun k hk => hwt k (.inl hk)) hx (val_some hv) ρ m hm hb
        obtain ⟨ρ2, m2, ls, g1, g2, g3, g4, g5⟩ := args_laid ts ss vs ds q1 hok.1.2 (fun k hk => hwt k (.inr hk)) hrest (fun j t' v' h1 h2 => hval (j + 1) t' v' (by simpa using h1) (by simpa using h2)) ρ1 m1 L.mr L.bare
        refine ⟨ρ2, m2, l :: ls, Map.le_trans L.le g1, g2, L.grows.trans g3, ?_, L.sits.mono g3, g5⟩
        simp only [argsOf]
        exact .cons (VR.mono g1 _ _ (arg_VR hok.1.1 hv L.vr L.sits)) g4

theorem below_all (hl : laidOutB P = true) {W' : World} (hb : Below w.heap.size w W') : ∀ (ts : List TypeId) (ss : List Sh) (vs : List Value) (ds : List (DataW H)) (p : List MemPlace), okTs P ts ss = true →
    DataW.TrodAll enc P w 0 (fun _ => true) true ts vs ds p → (∀ x ∈ p, x.block < w.heap.size) → DataW.TrodAll enc P W' 0 (fun b => decide (b < w.heap.size)) true ts vs ds p
  | [], [], vs, ds, p, _, h, _ => by
    cases vs <;> cases ds <;> first | exact h | exact h.elim
  | [], _ :: _, _, _, _, h, _, _ => by simp [okTs] at h
  | _ :: _, [], _, _, _, h, _, _ => by simp [okTs] at h
  | t :: ts, s :: ss, vs, ds, p, hok, h, hlt => by
    cases vs with
    | nil => cases ds <;> exact h.elim
    | cons v vs =>
      cases ds with
      | nil => exact h.elim
      | cons d ds =>
        obtain ⟨p1, q1, hx, hrest, rfl⟩ := h
        simp only [okTs, Bool.and_eq_true, decide_eq_true_eq] at hok
        exact ⟨p1, q1, Below.trod hl hok.2.1 hok.2.2 hx hb fun x hx => hlt x (by simp [hx]), below_all hl hb ts ss vs ds q1 hok.1.2 hrest fun x hx => hlt x (by simp [hx]), rfl⟩

theorem MR_none (P : Program) (w : World) : MR P w.heap.size (fun _ => none) ⟨0, .nil⟩ w := by
  have hg : ∀ b, Mem.get ⟨0, .nil⟩ b = none := fun b => by unfold Mem.get T.get; rfl
  exact ⟨fun b o h => (by rw [hg] at h; cases h), fun b r h => (by cases h), Nat.le_refl _, fun b b' cs e o' r r' h => (by rw [hg] at h; cases h)⟩

end
end Go.Proofs.Ytljkkfcokpimkaa.X
