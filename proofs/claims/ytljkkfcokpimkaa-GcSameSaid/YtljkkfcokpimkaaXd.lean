/- Each operation of the plain machine (calls apart) is done by the model as well, with the same value and the same memory. -/
import Derived.Test.YtljkkfcokpimkaaXc
set_option linter.unusedVariables false
set_option linter.unusedSimpArgs false
namespace Go.Proofs.Ytljkkfcokpimkaa.X
open Go Go.RowKit

/-- A piece of the model's machine comes to a value that is v, and to memory that is m'. -/
def SRuns (P : Program) (base : Nat) (ρ : Map) (s : Sem Value) (w : World) (v : AV) (m' : Mem) : Prop :=
  ∃ u w' ρ', s.run P w = .ok u w' ∧ ρ.le ρ' ∧ VR ρ' v u ∧ MR P base ρ' m' w' ∧ Below base w w'
/-- Likewise, of an operation: a value, or none. -/
def ORuns (P : Program) (base : Nat) (ρ : Map) (s : Sem Next) (w : World) (v : AV) (m' : Mem) : Prop :=
  ∃ nx u w' ρ', s.run P w = .ok nx w' ∧ (nx = .value u ∨ nx = .skip ∧ u = undef) ∧ ρ.le ρ' ∧ VR ρ' v u ∧ MR P base ρ' m' w' ∧ Below base w w'

theorem SRuns.val {P : Program} {base : Nat} {ρ : Map} {s : Sem Value} {w : World} {v : AV} {m' : Mem} (h : SRuns P base ρ s w v m') : ORuns P base ρ (do pure (.value (← s))) w v m' := by
  obtain ⟨u, w', ρ', h1, h2⟩ := h
  exact ⟨.value u, u, w', ρ', by simp [h1], .inl rfl, h2⟩
theorem SRuns.same {P : Program} {base : Nat} {ρ : Map} {s : Sem Value} {w : World} {v : AV} {m : Mem} (hm : MR P base ρ m w) (u : Value) (h : s.run P w = .ok u w) (hv : VR ρ v u) : SRuns P base ρ s w v m :=
  ⟨u, w, ρ, h, ρ.le_refl, hv, hm, Below.refl _ _⟩
theorem ORuns.same {P : Program} {base : Nat} {ρ : Map} {s : Sem Next} {w : World} {v : AV} {m : Mem} (hm : MR P base ρ m w) (u : Value) (h : s.run P w = .ok (.value u) w) (hv : VR ρ v u) : ORuns P base ρ s w v m :=
  ⟨_, u, w, ρ, h, .inl rfl, ρ.le_refl, hv, hm, Below.refl _ _⟩

section
variable {P : Program} {base : Nat} {ρ : Map} {m m' : Mem} {w : World} {v : AV}

theorem newRow_runs (hm : MR P base ρ m w) {b0 : Nat} {at_ : Option Nat} {cs : List AV} {e : Nat} {mk : Nat → AV} (hn : newRow m b0 at_ cs e mk = some (v, m')) (carr : Array Value) (hv : VRL ρ cs carr.toList) (u : Value)
    (hmk : ∀ ρ' b, ρ' b = some ⟨w.heap.size, 0, carr.size, P.cellsOf e⟩ → VR ρ' (mk b) u) (s : Sem Value) (hs : s.run P w = .ok u (w.alloc (.cells carr e))) : SRuns P base ρ s w v m' := by
  unfold newRow at hn
  split at hn
  · rename_i b m1 hnew
    injection hn with hn
    injection hn with h1 h2
    subst h1 h2
    obtain ⟨hsz, hget⟩ := VRL_toArray hv
    obtain ⟨ρ', h1, h2, h3, _⟩ := hm.new hnew carr (by omega) hget (0, 0) (by simp)
    exact ⟨u, _, ρ', hs, h1, hmk ρ' b h2, h3, (Below.refl _ _).alloc hm.low _⟩
  · cases hn

theorem newVar_run (e : TypeId) (u : Value) : (newVar e u).run P w = .ok ⟨w.heap.size, 0, none⟩ (w.alloc (.cells u.cells e)) := by
  simp [newVar, Go.newRow, newObj]; rfl
theorem newRow_run (e : TypeId) (c : Array Value) : (Go.newRow e c).run P w = .ok ⟨w.heap.size, 0, none⟩ (w.alloc (.cells c e)) := by
  simp [Go.newRow, newObj]; rfl

theorem al_runs (hm : MR P base ρ m w) {b0 : Nat} {at_ : Option Nat} {zs : List AV} {e : Nat} (hz : zeroOk P e zs = true) (hn : newRow m b0 at_ zs e (fun b => .ptr b 0) = some (v, m')) : SRuns P base ρ (Instr.alloc e true (.tuple #[])) w v m' := by
  obtain ⟨z, i, _, _, h3, _, h5⟩ := zeroOk_run hz
  refine newRow_runs hm hn z.cells (cstsOk_VRL ρ _ _ h3) (.pointer (some ⟨w.heap.size, 0, none⟩)) (fun ρ' b hb => ?_) _ ?_
  · simp only [VR]; exact ⟨_, hb, rfl⟩
  · simp [Instr.alloc, h5, newVar_run]
theorem bx_runs (hm : MR P base ρ m w) {b0 : Nat} {at_ : Option Nat} {x : AV} {u : Value} {e : Nat} (hx : VR ρ x u) (hn : newRow m b0 at_ x.cells e (fun b => .ptr b 0) = some (v, m')) : SRuns P base ρ (Instr.box e u) w v m' := by
  have hl : leaves x.cells = true := by
    unfold newRow Mem.new at hn
    cases hl : leaves x.cells
    · simp [hl] at hn
    · rfl
  refine newRow_runs hm hn u.cells (cells_VRL hx hl) (.pointer (some ⟨w.heap.size, 0, none⟩)) (fun ρ' b hb => ?_) _ ?_
  · simp only [VR]; exact ⟨_, hb, rfl⟩
  · simp [Instr.box, newVar_run]

theorem ld_runs (hm : MR P base ρ m w) {n : Option Nat} {t : TypeId} (ha : aggOk P t n = true) {b off : Nat} {cs : List AV} (hr : m.read b off (n.getD 1) = some cs) (hv : v = match n with | some _ => .agg cs | none => cs.getD 0 .undef) {u : Value} (hx : VR ρ (.ptr b off) u) : SRuns P base ρ (Instr.loadAt t u) w v m := by
  simp only [VR] at hx
  obtain ⟨r, hρ, rfl⟩ := hx
  obtain ⟨r', hρ', hlen, _, us, hvr, hul, hus⟩ := hm.read hr
  rw [hρ] at hρ'
  injection hρ' with hρ'
  subst hρ'
  have hcell : ∀ j u, us[j]? = some u → w.cell? ((⟨r.cb, r.sh + off, none⟩ : Addr).add j) = some u := fun j u hj => by rw [addr_add]; exact hus j u hj
  unfold aggOk at ha
  cases hagg : isAggT P t with
  | none => simp [hagg] at ha
  | some g =>
    cases n with
    | none =>
      cases g <;> simp [hagg] at ha
      simp at hlen hul hv
      obtain ⟨c, rfl⟩ := List.length_eq_one_iff.1 hlen
      obtain ⟨u, rfl⟩ := List.length_eq_one_iff.1 hul
      simp [VRL] at hvr
      have := hcell 0 u rfl
      simp only [Addr.add_zero'] at this
      refine .same hm u ?_ (by rw [hv]; simpa using hvr)
      simp [Instr.loadAt, Instr.sureAddr, loadVar, isAgg_run hagg, this]
    | some k =>
      cases g <;> simp [hagg] at ha
      simp at hlen hul hv
      refine .same hm (.agg us.toArray) ?_ (by rw [hv]; simp only [VR]; exact ⟨us, hvr, rfl⟩)
      have := run_loadCells P w ⟨r.cb, r.sh + off, none⟩ us hcell
      rw [hul] at this
      simp [Instr.loadAt, Instr.sureAddr, loadVar, isAgg_run hagg, sizeIs_run ha, this]

/-- A result's variable is read. -/
theorem var_runs (hm : MR P base ρ m w) {n : Option Nat} {t : TypeId} (ha : aggOk P t n = true) {b off : Nat} {cs : List AV} (hr : m.read b off (n.getD 1) = some cs) (hv : v = match n with | some _ => .agg cs | none => cs.getD 0 .undef) {u : Value} (hx : VR ρ (.ptr b off) u) : ∃ y, (do loadVar t (← asAddr u) : Sem Value).run P w = .ok y w ∧ VR ρ v y := by
  simp only [VR] at hx
  obtain ⟨r, hρ, rfl⟩ := hx
  obtain ⟨r', hρ', hlen, _, us, hvr, hul, hus⟩ := hm.read hr
  rw [hρ] at hρ'
  injection hρ' with hρ'
  subst hρ'
  have hcell : ∀ j u, us[j]? = some u → w.cell? ((⟨r.cb, r.sh + off, none⟩ : Addr).add j) = some u := fun j u hj => by rw [addr_add]; exact hus j u hj
  unfold aggOk at ha
  cases hagg : isAggT P t with
  | none => simp [hagg] at ha
  | some g =>
    cases n with
    | none =>
      cases g <;> simp [hagg] at ha
      simp at hlen hul hv
      obtain ⟨c, rfl⟩ := List.length_eq_one_iff.1 hlen
      obtain ⟨u, rfl⟩ := List.length_eq_one_iff.1 hul
      simp [VRL] at hvr
      have := hcell 0 u rfl
      simp only [Addr.add_zero'] at this
      refine ⟨u, ?_, by rw [hv]; simpa using hvr⟩
      simp [asAddr, loadVar, isAgg_run hagg, this]
    | some k =>
      cases g <;> simp [hagg] at ha
      simp at hlen hul hv
      refine ⟨.agg us.toArray, ?_, by rw [hv]; simp only [VR]; exact ⟨us, hvr, rfl⟩⟩
      have := run_loadCells P w ⟨r.cb, r.sh + off, none⟩ us hcell
      rw [hul] at this
      simp [asAddr, loadVar, isAgg_run hagg, sizeIs_run ha, this]

/-- Cells are stored. -/
theorem store_runs (hm : MR P base ρ m w) {b off : Nat} {vs : List AV} (hw : m.write b off vs = some m') {us : List Value} (hv : VRL ρ vs us) {r : Reg} (hr : ρ b = some r) :
    ∃ w', (storeCells ⟨r.cb, r.sh + off, none⟩ us).run P w = .ok () w' ∧ MR P base ρ m' w' ∧ Below base w w' := by
  have hw0 := hw
  unfold Mem.write at hw
  split at hw
  · rename_i known e0 hg
    split at hw
    · rename_i hle
      obtain ⟨_, r0, hr0, carr, e', fr, h1, h2, h3, h4, h5⟩ := hm.dom b _ hg
      rw [hr] at hr0
      injection hr0 with hr0
      subst hr0
      have hul := hv.length
      obtain ⟨hb, he, _, _, hfr⟩ := h5 rfl
      obtain ⟨w', carr', q1, q2, q3, q4⟩ := run_storeCells_block P r.cb e' fr us (r.sh + off) 0 carr w h1 (by omega) (fun j hj => by have := hfr j hj; omega) (fun u hu => by
        obtain ⟨i, hi⟩ := List.getElem?_of_mem hu
        have hlt : i < vs.length := by
          rcases Nat.lt_or_ge i us.length with x | x
          · omega
          · rw [List.getElem?_eq_none x] at hi; cases hi
        obtain ⟨u', hu', hvu⟩ := hv.get i vs[i] (by simp [hlt])
        rw [hi] at hu'
        injection hu' with hu'
        subst hu'
        exact leaf_oneCell hvu (leaves_all hle.2 _ (by simp)))
      simp only [Nat.add_zero] at q4
      exact ⟨w', q1, hm.write hw0 hv hr h1 q2 q3 q4, ⟨q2.os, q2.tape, q2.output, Nat.le_of_eq q2.size.symm, fun k hk => q2.else_ k (by omega)⟩⟩
    · cases hw
  · cases hw
theorem st_runs (hm : MR P base ρ m w) {t : TypeId} {n : Nat} (hn : sizeIs P t n = true) {b off : Nat} {y : AV} {p u : Value} (hp : VR ρ (.ptr b off) p) (hy : VR ρ y u) (hl : y.cells.length = n) (hw : m.write b off y.cells = some m') :
    ∃ w', (Instr.storeAt t p u).run P w = .ok () w' ∧ MR P base ρ m' w' ∧ Below base w w' := by
  simp only [VR] at hp
  obtain ⟨r, hρ, rfl⟩ := hp
  have hlv : leaves y.cells = true := by
    unfold Mem.write at hw
    split at hw
    · split at hw
      · rename_i h; exact h.2
      · cases hw
    · cases hw
  have hc := cells_VRL hy hlv
  obtain ⟨w', h1, h2, h3⟩ := store_runs hm hw hc hρ
  refine ⟨w', ?_, h2, h3⟩
  have hsz : u.cells.size = n := by rw [(VRL_toArray hc).1, hl]
  simp [Instr.storeAt, Instr.sureAddr, storeVar, sizeIs_run hn, hsz, h1]

/-! ### Reckoning -/
theorem intOp_run {op : BinOp} {k : IntKind} {x y : Int} (h : intOp op k x y = some v) (hne : op ≠ .shl ∧ op ≠ .shr) (t : TypeId) : ∃ u, (Go.binOp op t (.int k x) (.int k y)).run P w = .ok u w ∧ ∀ ρ, VR ρ v u := by
  cases op <;> simp [intOp] at h
  case and => subst h; exact ⟨.int k (bits .and k x y), by simp only [Go.binOp, ne_eq, not_true_eq_false, if_false, intBits_and, Sem.run_pure], fun ρ => by simp only [VR]⟩
  case or => subst h; exact ⟨.int k (bits .or k x y), by simp only [Go.binOp, ne_eq, not_true_eq_false, if_false, intBits_or, Sem.run_pure], fun ρ => by simp only [VR]⟩
  case xor => subst h; exact ⟨.int k (bits .xor k x y), by simp only [Go.binOp, ne_eq, not_true_eq_false, if_false, intBits_xor, Sem.run_pure], fun ρ => by simp only [VR]⟩
  case andNot => subst h; exact ⟨.int k (bits .andNot k x y), by simp only [Go.binOp, ne_eq, not_true_eq_false, if_false, intBits_andNot, Sem.run_pure], fun ρ => by simp only [VR]⟩
  case quo =>
    obtain ⟨h0, rfl⟩ := h
    exact ⟨_, by simp [Go.binOp, Op.intDiv, h0]; rfl, fun ρ => by simp [VR]⟩
  case rem =>
    obtain ⟨h0, rfl⟩ := h
    exact ⟨_, by simp [Go.binOp, Op.intDiv, h0]; rfl, fun ρ => by simp [VR]⟩
  all_goals (subst h; exact ⟨_, by simp only [Go.binOp, ne_eq, not_true_eq_false, if_false, Op.intArith, Op.intCmp, Sem.run_pure]; rfl, fun ρ => by simp only [VR]⟩)
theorem shiftOp_run {op : BinOp} {k k' : IntKind} {x y : Int} (h : shiftOp op k x y = some v) (t : TypeId) : ∃ u, (Go.binOp op t (.int k x) (.int k' y)).run P w = .ok u w ∧ ∀ ρ, VR ρ v u := by
  unfold shiftOp at h
  split at h
  · cases h
  · rename_i h0
    cases op <;> simp at h <;> subst h
    · exact ⟨_, by simp [Go.binOp, Op.shift, h0]; rfl, fun ρ => by simp [VR]⟩
    · exact ⟨_, by simp [Go.binOp, Op.shift, h0]; rfl, fun ρ => by simp [VR]⟩
theorem strOp_run {op : BinOp} {x y : List UInt8} (h : strOp op x y = some v) (t : TypeId) : ∃ u, (Go.binOp op t (.string ⟨x.toArray⟩) (.string ⟨y.toArray⟩)).run P w = .ok u w ∧ ∀ ρ, VR ρ v u := by
  have e1 : (⟨x.toArray⟩ : ByteArray).toList = x := by rw [ByteArray.toList_eq]
  have e2 : (⟨y.toArray⟩ : ByteArray).toList = y := by rw [ByteArray.toList_eq]
  have s1 : (⟨x.toArray⟩ : ByteArray).size = x.length := by simp [ByteArray.size]
  have s2 : (⟨y.toArray⟩ : ByteArray).size = y.length := by simp [ByteArray.size]
  cases op <;> simp [strOp] at h
  case add =>
    obtain ⟨h0, rfl⟩ := h
    refine ⟨_, by simp only [Go.binOp, Op.stringOp, s1, s2]; rw [if_neg (by simp [IntKind.max, IntKind.signed, IntKind.bits]; omega)]; rfl, fun ρ => ?_⟩
    simp only [VR]
    congr 1
  all_goals (subst h; exact ⟨_, by simp [Go.binOp, Op.stringOp, e1, e2]; rfl, fun ρ => by simp [VR]⟩)
theorem eqlOp_run {op : BinOp} {b : Bool} (h : eqlOp op b = some v) (t : TypeId) (x y : Value) (h1 : Go.binOp .eql t x y = (do pure (.bool (← Op.equal t x y)))) (h2 : Go.binOp .neq t x y = (do pure (.bool (!(← Op.equal t x y))))) (he : (Op.equal t x y).run P w = .ok b w) : ∃ u, (Go.binOp op t x y).run P w = .ok u w ∧ ∀ ρ, VR ρ v u := by
  cases op <;> simp [eqlOp] at h
  · subst h
    exact ⟨.bool b, by rw [h1]; simp only [Sem.run_bind, he, Result.andThen_ok, Sem.run_pure], fun ρ => by simp only [VR]⟩
  · subst h
    exact ⟨.bool !b, by rw [h2]; simp only [Sem.run_bind, he, Result.andThen_ok, Sem.run_pure], fun ρ => by simp only [VR]⟩

theorem equalIn_ptr (d : Nat) (t e : TypeId) (h : P.underlying t = some (.pointer e)) (a : Option Addr) : (Op.equalIn (d + 1) t (.pointer none) (.pointer a)).run P w = .ok a.isNone w ∧ (Op.equalIn (d + 1) t (.pointer a) (.pointer none)).run P w = .ok a.isNone w := by
  cases a <;> simp [Op.equalIn, run_underlying h]
theorem equal_ptr (t e : TypeId) (h : P.underlying t = some (.pointer e)) (a : Option Addr) : (Op.equal t (.pointer none) (.pointer a)).run P w = .ok a.isNone w ∧ (Op.equal t (.pointer a) (.pointer none)).run P w = .ok a.isNone w := equalIn_ptr 9999 t e h a
theorem equalIn_sl (d : Nat) (t e : TypeId) (h : P.underlying t = some (.slice e)) (a : Option Addr) (n c : Nat) : (Op.equalIn (d + 1) t (.slice none 0 0) (.slice a n c)).run P w = .ok a.isNone w ∧ (Op.equalIn (d + 1) t (.slice a n c) (.slice none 0 0)).run P w = .ok a.isNone w := by
  cases a <;> simp [Op.equalIn, run_underlying h]
theorem equal_sl (t e : TypeId) (h : P.underlying t = some (.slice e)) (a : Option Addr) (n c : Nat) : (Op.equal t (.slice none 0 0) (.slice a n c)).run P w = .ok a.isNone w ∧ (Op.equal t (.slice a n c) (.slice none 0 0)).run P w = .ok a.isNone w := equalIn_sl 9999 t e h a n c
theorem equalIn_fn (d : Nat) (t : TypeId) (a b : Array TypeId) (c : Bool) (h : P.underlying t = some (.func a b c)) :
    (Op.equalIn (d + 1) t .nilFunc .nilFunc).run P w = .ok true w ∧ (∀ f x y, (Op.equalIn (d + 1) t .nilFunc (.func f x y)).run P w = .ok false w) ∧ ∀ f x y, (Op.equalIn (d + 1) t (.func f x y) .nilFunc).run P w = .ok false w := by
  refine ⟨?_, fun f x y => ?_, fun f x y => ?_⟩ <;> simp [Op.equalIn, run_underlying h]
theorem equal_fn (t : TypeId) (a b : Array TypeId) (c : Bool) (h : P.underlying t = some (.func a b c)) :
    (Op.equal t .nilFunc .nilFunc).run P w = .ok true w ∧ (∀ f x y, (Op.equal t .nilFunc (.func f x y)).run P w = .ok false w) ∧ ∀ f x y, (Op.equal t (.func f x y) .nilFunc).run P w = .ok false w := equalIn_fn 9999 t a b c h
theorem equal_bool (t : TypeId) (h : P.underlying t = some .bool) (a b : Bool) : (Op.equal t (.bool a) (.bool b)).run P w = .ok (a == b) w := run_equal_bool w t a b h

theorem eqGuard_pure (op : BinOp) (t : TypeId) (x y : Operand) (X : AV) (a b : Value) (hX : X.leaf = true) (hv : VR ρ X a) : (eqGuard op t x y a b).run P w = .ok () w := by
  cases X <;> simp [AV.leaf] at hX <;> simp only [VR] at hv
  case ptr => obtain ⟨_, _, rfl⟩ := hv; cases op <;> rfl
  case sl => obtain ⟨_, _, _, _, _, _, rfl⟩ := hv; cases op <;> rfl
  case fn => obtain ⟨_, _, _, _, rfl⟩ := hv; cases op <;> rfl
  all_goals (subst hv; cases op <;> rfl)

theorem bin_run {op : BinOp} {kd : EK} {x y : AV} (h : binOp op kd x y = some v) {t : TypeId} (hk : kindOk P t kd = true) {X Y : Operand} {a b : Value} (hx : VR ρ x a) (hy : VR ρ y b) :
    ∃ u, (do eqGuard op t X Y a b; Go.binOp op t a b : Sem Value).run P w = .ok u w ∧ VR ρ v u := by
  have hl : x.leaf = true := by
    unfold binOp at h
    split at h <;> first | rfl | cases h
  have hg := eqGuard_pure (P := P) (w := w) op t X Y x a b hl hx
  suffices hs : ∃ u, (Go.binOp op t a b).run P w = .ok u w ∧ ∀ ρ, VR ρ v u by
    obtain ⟨u, h1, h2⟩ := hs
    exact ⟨u, by simp [hg, h1], h2 ρ⟩
  unfold binOp at h
  unfold kindOk at hk
  split at h <;> (try simp only [VR] at hx hy)
  · subst hx hy
    split at h
    · exact shiftOp_run h t
    · exact shiftOp_run h t
    · rename_i n1 n2
      split at h
      · rename_i hkk
        subst hkk
        exact intOp_run h ⟨fun e => n1 e, fun e => n2 e⟩ t
      · cases h
  · subst hx hy
    exact strOp_run h t
  · subst hx hy
    cases hu : P.underlying t with
    | none => simp [hu] at hk
    | some d =>
      cases d <;> simp [hu] at hk
      exact eqlOp_run h t _ _ rfl rfl (equal_bool t hu _ _)
  · subst hx hy
    cases hu : P.underlying t with
    | none => simp [hu] at hk
    | some d =>
      cases d <;> simp [hu] at hk
      exact eqlOp_run h t _ _ rfl rfl (equal_ptr t _ hu none).1
  · obtain ⟨r, _, rfl⟩ := hy
    subst hx
    cases hu : P.underlying t with
    | none => simp [hu] at hk
    | some d =>
      cases d <;> simp [hu] at hk
      exact eqlOp_run h t _ _ rfl rfl (equal_ptr t _ hu (some _)).1
  · obtain ⟨r, _, rfl⟩ := hx
    subst hy
    cases hu : P.underlying t with
    | none => simp [hu] at hk
    | some d =>
      cases d <;> simp [hu] at hk
      exact eqlOp_run h t _ _ rfl rfl (equal_ptr t _ hu (some _)).2
  · subst hx hy
    cases hu : P.underlying t with
    | none => simp [hu] at hk
    | some d =>
      cases d <;> simp [hu] at hk
      exact eqlOp_run h t _ _ rfl rfl (equal_sl t _ hu none 0 0).1
  · obtain ⟨_, _, _, _, _, _, rfl⟩ := hy
    subst hx
    cases hu : P.underlying t with
    | none => simp [hu] at hk
    | some d =>
      cases d <;> simp [hu] at hk
      exact eqlOp_run h t _ _ rfl rfl (equal_sl t _ hu (some _) _ _).1
  · obtain ⟨_, _, _, _, _, _, rfl⟩ := hx
    subst hy
    cases hu : P.underlying t with
    | none => simp [hu] at hk
    | some d =>
      cases d <;> simp [hu] at hk
      exact eqlOp_run h t _ _ rfl rfl (equal_sl t _ hu (some _) _ _).2
  · subst hx hy
    cases hu : P.underlying t with
    | none => simp [hu] at hk
    | some d =>
      cases d <;> simp [hu] at hk
      exact eqlOp_run h t _ _ rfl rfl (equal_fn t _ _ _ hu).1
  · obtain ⟨_, _, _, _, rfl⟩ := hy
    subst hx
    cases hu : P.underlying t with
    | none => simp [hu] at hk
    | some d =>
      cases d <;> simp [hu] at hk
      exact eqlOp_run h t _ _ rfl rfl ((equal_fn t _ _ _ hu).2.1 _ _ _)
  · obtain ⟨_, _, _, _, rfl⟩ := hx
    subst hy
    cases hu : P.underlying t with
    | none => simp [hu] at hk
    | some d =>
      cases d <;> simp [hu] at hk
      exact eqlOp_run h t _ _ rfl rfl ((equal_fn t _ _ _ hu).2.2 _ _ _)
  · cases h
theorem un_run {op : UnOp} {x : AV} (h : unOp op x = some v) {a : Value} (hx : VR ρ x a) : ∃ u, (Op.unary op a).run P w = .ok u w ∧ VR ρ v u := by
  unfold unOp at h
  split at h
  · simp only [VR] at hx; subst hx
    injection h with h; subst h
    exact ⟨_, by simp only [Op.unary, Op.intArith, Sem.run_pure]; rfl, by simp only [VR]⟩
  · simp only [VR] at hx; subst hx
    injection h with h; subst h
    exact ⟨_, by simp only [Op.unary, intBits_xor, Sem.run_pure]; rfl, by simp only [VR]⟩
  · simp only [VR] at hx; subst hx
    injection h with h; subst h
    exact ⟨_, by simp only [Op.unary, Sem.run_pure]; rfl, by simp only [VR]⟩
  · cases h
end
end Go.Proofs.Ytljkkfcokpimkaa.X
