/- When an operation of the plain machine stands for one of the model's; that it then does the same. -/
import Derived.Test.YtljkkfcokpimkaaXb
import Derived.Laws.Small
import Derived.Laws.Cover3
import Derived.Laws.Pointers
import Derived.ChangeKeysEq
set_option linter.unusedVariables false
set_option linter.unusedSimpArgs false
namespace Go.Proofs.Ytljkkfcokpimkaa.X
open Go Go.RowKit

/-! ### The test -/
mutual
def cstOk : AV → Value → Bool
  | .int k n, .int k' n' => decide (k = k') && decide (n = n')
  | .bool b, .bool b' => b == b'
  | .str s, .string b => decide (s = b.data.toList)
  | .nilp, .pointer none => true
  | .nilsl, .slice none n c => decide (n = 0) && decide (c = 0)
  | .nilfn, .nilFunc => true
  | .agg l, .agg cs => cstsOk l cs.toList
  | _, _ => false
def cstsOk : List AV → List Value → Bool
  | [], [] => true
  | x :: l, y :: l' => cstOk x y && cstsOk l l'
  | _, _ => false
end
def okOpd : Operand → Opd → Bool
  | .tmp t, .t t' => decide (t = t')
  | .const v, .c a => cstOk a v
  | .func f, .c (.fn f' [] []) => decide (f = f')
  | _, _ => false
def okOpds : List Operand → List Opd → Bool
  | [], [] => true
  | x :: l, y :: l' => okOpd x y && okOpds l l'
  | _, _ => false
def okOpt : Option Operand → Option Opd → Bool
  | none, none => true
  | some x, some y => okOpd x y
  | _, _ => false
def zeroOk (P : Program) (e : TypeId) (zs : List AV) : Bool :=
  match P.info? e with
  | some i => match i.zero with
    | some z => cstsOk zs z.cells.toList && decide (i.size = z.cells.size)
    | none => false
  | none => false
def sizeIs (P : Program) (t : TypeId) (n : Nat) : Bool := match P.info? t with | some i => decide (i.size = n) | none => false
def bytesIs (P : Program) (t : TypeId) (n : Nat) : Bool := match P.info? t with | some i => decide (i.bytes = n) | none => false
def isAggT (P : Program) (t : TypeId) : Option Bool :=
  match P.underlying t with
  | some (.struct _) | some (.array _ _) => some true
  | some _ => some false
  | none => none
def aggOk (P : Program) (t : TypeId) (n : Option Nat) : Bool :=
  match isAggT P t, n with
  | some true, some n => sizeIs P t n
  | some false, none => true
  | _, _ => false
def partsOk (P : Program) (place : Nat → Option (Nat × TypeId)) : List (Nat × Operand) → List (Nat × Nat × Opd) → Bool
  | [], [] => true
  | (i, x) :: l, (off, n, x') :: l' => (match place i with | some (o, t) => decide (o = off) && sizeIs P t n | none => false) && okOpd x x' && partsOk P place l l'
  | _, _ => false
def fieldIs (fs : Array Field) (i : Nat) : Option (Nat × TypeId) := match fs[i]? with | some f => some (f.offset, f.type) | none => none
def buildOk (P : Program) (t : TypeId) (ps : List (Nat × Operand)) (ps' : List (Nat × Nat × Opd)) : Bool :=
  match P.underlying t with
  | some (.struct fs) => fs.toList.all (fun f => (P.info? f.type).isSome) && partsOk P (fieldIs fs) ps ps'
  | some (.array _ e) => match P.info? e with | some i => partsOk P (fun j => some (j * i.size, e)) ps ps' | none => false
  | _ => false
def mkslOk (P : Program) (t : TypeId) (len : Nat) (ps : List (Nat × Operand)) (e : Nat) (tpl : List AV) (len' : Nat) (ps' : List (Nat × Nat × Opd)) : Bool :=
  match P.underlying t with
  | some (.slice e') => match P.info? e' with
    | some i => match i.zero with
      | some z => decide (e' = e) && decide (len = len') && decide (len * i.size ≤ 2 ^ 24) && decide (tpl.length = len * i.size) &&
          cstsOk tpl (((Array.range (len * i.size)).map (z.cells[· % z.cells.size]!)).toList) && partsOk P (fun j => some (j * i.size, e')) ps ps'
      | none => false
    | none => false
  | _ => false
def kindOk (P : Program) (t : TypeId) (kd : EK) : Bool :=
  match kd, P.underlying t with
  | .num, _ => true
  | .bool, some .bool => true
  | .ptr, some (.pointer _) => true
  | .sl, some (.slice _) => true
  | .fn, some (.func ..) => true
  | _, _ => false
def convOk (P : Program) (s d : TypeId) (c : Conv) : Bool :=
  match c, P.underlying s, P.underlying d with
  | .toInt k, some (.int _), some (.int k') => decide (k = k')
  | .same, some .string, some .string => true
  | .keep, some (.slice _), some (.slice e) => decide (s = d) && (match P.underlying e with | some (.int .u8) => true | _ => false)
  | .b2s, some (.slice e), some .string => (match P.underlying e with | some (.int .u8) => sizeIs P e 1 | _ => false)
  | .s2b e, some .string, some (.slice e') => decide (e = e') && (match P.underlying e with | some (.int .u8) => sizeIs P e 1 | _ => false)
  | _, _, _ => false
def sliceOk (P : Program) (t : TypeId) (k : SlK) : Bool :=
  match k, P.underlying t with
  | .str, some .string => true
  | .row esz, some (.slice e) => sizeIs P e esz
  | .arr n esz, some (.array n' e) => decide (n = n') && sizeIs P e esz
  | _, _ => false
def rowOk (P : Program) (t : TypeId) (e esz bytes : Nat) (zero : List AV) : Bool :=
  match P.underlying t with
  | some (.slice e') => decide (e' = e) && sizeIs P e esz && bytesIs P e bytes && zeroOk P e zero && decide (zero.length = esz) && decide (0 < esz) && decide (0 < bytes)
  | _ => false
def srcOk (P : Program) (t : TypeId) : Bool :=
  match P.underlying t with
  | some (.slice _) | some .string => true
  | _ => false
def callOk (P : Program) (f : FuncId) : Bool :=
  match P.funcs[f]? with
  | some fn => fn.name != "runtime.NumGoroutine" && fn.body.isSome
  | none => false
def builtinOk (P : Program) (b : Builtin) (ts : Array TypeId) (xs : List Operand) : IOp → Bool
  | .app e esz bytes zero x y => decide (b = .append) && (match xs with | [x', y'] => okOpd x' x && okOpd y' y && (match ts[0]?, ts[1]? with | some t, some u => rowOk P t e esz bytes zero && srcOk P u | _, _ => false) | _ => false)
  | .grow e esz bytes zero x y => decide (b = .append) && (match xs with | [x', y'] => okOpd x' x && okOpd y' y && (match ts[0]?, ts[1]? with | some t, some u => rowOk P t e esz bytes zero && (match P.underlying u with | some (.int _) => true | _ => false) | _, _ => false) | _ => false)
  | .clear zero x => decide (b = .clear) && (match xs with | [x'] => okOpd x' x && (match ts[0]? with | some t => (match P.underlying t with | some (.slice e) => zeroOk P e zero && decide (0 < zero.length) | _ => false) | _ => false) | _ => false)
  | .copy esz x y => decide (b = .copy) && (match xs with | [x', y'] => okOpd x' x && okOpd y' y && (match ts[0]? with | some t => (match P.underlying t with | some (.slice e) => sizeIs P e esz && decide (0 < esz) | _ => false) | _ => false) | _ => false)
  | .len str x => decide (b = .len) && (match xs with | [x'] => okOpd x' x && (match ts[0]? with | some t => (match P.underlying t with | some .string => str | some (.slice _) => !str | _ => false) | _ => false) | _ => false)
  | .cap x => decide (b = .cap) && (match xs with | [x'] => okOpd x' x && (match ts[0]? with | some t => (match P.underlying t with | some (.slice _) => true | _ => false) | _ => false) | _ => false)
  | .mn l => decide (b = .min) && okOpds xs l
  | .mx l => decide (b = .max) && okOpds xs l
  | _ => false

def okOp (P : Program) (o : Op) (io : IOp) : Bool :=
  match o, io with
  | .move x, .mv x' => okOpd x x'
  | .assign x, .mv x' => okOpd x x'
  | .pick c a b, .pick c' a' b' => okOpd c c' && okOpd a a' && okOpd b b'
  | .alloc e, .al _ e' zs => decide (e = e') && zeroOk P e zs
  | .box e x, .bx _ e' x' => decide (e = e') && okOpd x x'
  | .build t ps, .build tpl ps' => zeroOk P t tpl && buildOk P t ps.toList ps'
  | .buildSlice t len ps, .mksl _ e tpl len' ps' => mkslOk P t len ps.toList e tpl len' ps'
  | .load t x, .ld n x' => aggOk P t n && okOpd x x'
  | .store t a x, .st n a' x' => sizeIs P t n && okOpd a a' && okOpd x x'
  | .nilCheck x, .nilc x' => okOpd x x'
  | .binOp op t x y _, .bin op' kd x' y' => decide (op = op') && kindOk P t kd && okOpd x x' && okOpd y y'
  | .unOp op _ x, .un op' x' => decide (op = op') && okOpd x x'
  | .convert s d x, .cv _ c x' => convOk P s d c && okOpd x x'
  | .makeFunc (.func f) first cap, .mkf f' first' cap' => decide (f = f') && okOpds first.toList first' && okOpds cap.toList cap'
  | .makeSlice t l c, .mks _ e zero bytes l' c' => okOpd l l' && okOpd c c' && (match P.underlying t with | some (.slice e') => decide (e' = e) && bytesIs P e bytes && zeroOk P e zero && decide (0 < zero.length) | _ => false)
  | .slice t x lo hi mx, .sli k x' lo' hi' mx' => sliceOk P t k && okOpd x x' && okOpt lo lo' && okOpt hi hi' && okOpt mx mx'
  | .fieldAddr s x i, .fa off x' => okOpd x x' && (match P.underlying s with | some (.struct fs) => (match fs[i]? with | some f => decide (f.offset = off) && (match P.info? f.type with | some j => decide (j.size ≠ 0) | none => false) | none => false) | _ => false)
  | .field t x i, .fld off n x' => okOpd x x' && (match P.underlying t with | some (.struct fs) => (match fs[i]? with | some f => decide (f.offset = off) && aggOk P f.type n | none => false) | _ => false)
  | .indexAddr t x i, .ia arr esz x' i' => okOpd x x' && okOpd i i' && (match P.underlying t, arr with | some (.slice e), none => sizeIs P e esz | some (.array n e), some n' => decide (n = n') && sizeIs P e esz | _, _ => false)
  | .index t x i, .ix arr x' i' => okOpd x x' && okOpd i i' && (match P.underlying t, arr with | some .string, none => true | some (.array n e), some (n', esz, k) => decide (n = n') && sizeIs P e esz && aggOk P e k | _, _ => false)
  | .extract x i, .ext x' i' => decide (i = i') && okOpd x x'
  | .call c, io => match c.callee with
    | .builtin b => builtinOk P b c.argTypes c.args.toList io
    | .value f => (match io with
      | .call g args => okOpd f (.c (.fn g [] [])) && okOpds c.args.toList args
      | .callv x args => okOpd f x && okOpds c.args.toList args
      | _ => false)
    | .invoke .. => false
  | _, _ => false

/-! ### Operands -/
mutual
theorem cstOk_VR (ρ : Map) : ∀ (a : AV) (v : Value), cstOk a v = true → VR ρ a v
  | .undef, v, h => by cases v <;> simp [cstOk] at h
  | .int .., v, h => by cases v <;> simp [cstOk] at h; simp [VR, h]
  | .bool _, v, h => by cases v <;> simp [cstOk] at h; simp [VR, h]
  | .str s, v, h => by
    cases v <;> simp [cstOk] at h
    simp [VR, h]
  | .ptr .., v, h => by cases v <;> simp [cstOk] at h
  | .nilp, v, h => by
    cases v with
    | pointer a =>
      cases a with
      | none => simp [VR]
      | some a => simp [cstOk] at h
    | _ => simp [cstOk] at h
  | .sl .., v, h => by cases v <;> simp [cstOk] at h
  | .nilsl, v, h => by
    cases v with
    | slice a n c =>
      cases a with
      | none =>
        simp [cstOk] at h
        simp [VR, h]
      | some a => simp [cstOk] at h
    | _ => simp [cstOk] at h
  | .fn .., v, h => by cases v <;> simp [cstOk] at h
  | .nilfn, v, h => by cases v <;> simp [cstOk] at h; simp [VR]
  | .tup _, v, h => by cases v <;> simp [cstOk] at h
  | .agg l, v, h => by
    cases v <;> simp [cstOk] at h
    rename_i cs
    simp only [VR]
    exact ⟨cs.toList, cstsOk_VRL ρ l _ h, by simp⟩
theorem cstsOk_VRL (ρ : Map) : ∀ (l : List AV) (vs : List Value), cstsOk l vs = true → VRL ρ l vs
  | [], vs, h => by cases vs <;> simp [cstsOk] at h; simp [VRL]
  | x :: l, vs, h => by
    cases vs <;> simp [cstsOk] at h
    exact .cons (cstOk_VR ρ x _ h.1) (cstsOk_VRL ρ l _ h.2)
end

section
variable {ρ : Map} {tm : List AV} {a : Act} (ht : VRL ρ tm a.tmps.toList)
include ht
theorem opd_VR {x : Operand} {x' : Opd} (h : okOpd x x' = true) : VR ρ (x'.eval tm) (a.eval x) := by
  cases x <;> cases x' <;> simp only [okOpd, decide_eq_true_eq, Bool.false_eq_true] at h
  · rename_i t t'
    subst h
    simp only [Opd.eval, Act.eval]
    cases hx : tm[t]? with
    | none =>
      have e1 : tm.getD t .undef = .undef := by simp [List.getD_eq_getElem?_getD, hx]
      have hl := ht.length
      have hx' : tm.length ≤ t := List.getElem?_eq_none_iff.1 hx
      have e2 : a.tmps.getD t undef = undef := by
        rw [Array.getD_eq_getD_getElem?, Array.getElem?_eq_none (by simp at hl; omega)]; rfl
      rw [e1, e2]; simp [VR, Go.undef]
    | some v =>
      obtain ⟨u, hu, hv⟩ := ht.get t v hx
      rw [Array.getElem?_toList] at hu
      have e1 : tm.getD t .undef = v := by simp [List.getD_eq_getElem?_getD, hx]
      have e2 : a.tmps.getD t undef = u := by simp [Array.getD_eq_getD_getElem?, hu]
      rw [e1, e2]; exact hv
  · simp only [Opd.eval, Act.eval]
    exact cstOk_VR ρ _ _ h
  · rename_i f v
    cases v with
    | fn f' x y =>
      cases x with
      | nil =>
        cases y with
        | nil =>
          simp at h
          subst h
          simp only [Opd.eval, Act.eval, VR, VRL]
          exact ⟨[], [], rfl, rfl, rfl⟩
        | cons => simp at h
      | cons => simp at h
    | _ => simp at h
theorem opds_VR : ∀ {xs : List Operand} {xs' : List Opd}, okOpds xs xs' = true → VRL ρ (xs'.map (·.eval tm)) (xs.map a.eval)
  | [], [], _ => by simp [VRL]
  | [], _ :: _, h => by simp [okOpds] at h
  | _ :: _, [], h => by simp [okOpds] at h
  | x :: l, y :: l', h => by
    simp [okOpds] at h
    simp only [List.map_cons]
    exact .cons (opd_VR ht h.1) (opds_VR h.2)
end

theorem cells_VRL {ρ : Map} {x : AV} {v : Value} (h : VR ρ x v) (hl : leaves x.cells = true) : VRL ρ x.cells v.cells.toList := by
  cases x
  case agg l =>
    simp only [VR] at h
    obtain ⟨l', h1, rfl⟩ := h
    simpa [AV.cells, Value.cells] using h1
  case undef => simp [AV.cells, leaves, AV.leaf] at hl
  case tup => simp [AV.cells, leaves, AV.leaf] at hl
  all_goals
    have h1 := leaf_oneCell h (by rfl)
    rw [leaf_vcells h1, leaf_cells (by rfl)]
    exact .cons h .nil'

theorem VRL_toArray {ρ : Map} {l : List AV} {c : Array Value} (h : VRL ρ l c.toList) : c.size = l.length ∧ ∀ (i : Nat) (a : AV), l[i]? = some a → ∃ u, c[i]? = some u ∧ VR ρ a u := by
  refine ⟨by simpa using h.length, fun i a ha => ?_⟩
  obtain ⟨u, hu, hv⟩ := h.get i a ha
  exact ⟨u, by simpa using hu, hv⟩

/-! ### Types -/
theorem sizeIs_run {P : Program} {t : TypeId} {n : Nat} (h : sizeIs P t n = true) (w : World) : (sizeOf t).run P w = .ok n w := by
  unfold sizeIs at h
  split at h
  · rename_i i hi
    simp at h
    rw [run_sizeOf w hi]
    simp [Program.cellsOf, hi, h]
  · simp at h
theorem sizeIs_cells {P : Program} {t : TypeId} {n : Nat} (h : sizeIs P t n = true) : P.cellsOf t = n := by
  unfold sizeIs at h
  split at h
  · rename_i i hi
    simp at h
    simp [Program.cellsOf, hi, h]
  · simp at h
theorem zeroOk_run {P : Program} {e : TypeId} {zs : List AV} (h : zeroOk P e zs = true) : ∃ z i, P.info? e = some i ∧ i.zero = some z ∧ cstsOk zs z.cells.toList = true ∧ i.size = z.cells.size ∧ ∀ w, (zeroValue e).run P w = .ok z w := by
  unfold zeroOk at h
  split at h
  · rename_i i hi
    split at h
    · rename_i z hz
      simp at h
      refine ⟨z, i, hi, hz, h.1, h.2, fun w => ?_⟩
      simp [zeroValue, run_typeInfo w hi, hz]
    · simp at h
  · simp at h
theorem isAgg_run {P : Program} {t : TypeId} {b : Bool} (h : isAggT P t = some b) (w : World) : (isAgg t).run P w = .ok b w := by
  unfold isAggT at h
  cases hu : P.underlying t with
  | none => simp [hu] at h
  | some d =>
    simp only [hu] at h
    have hr := run_underlying hu w
    unfold isAgg
    cases d <;> simp at h <;> subst h <;> simp [hr]

theorem run_loadCellsFrom (P : Program) (w : World) (a : Addr) : ∀ (us : List Value) (i : Nat) (acc : Array Value), (∀ j u, us[j]? = some u → w.cell? (a.add (i + j)) = some u) → (loadCellsFrom a i us.length acc).run P w = .ok (acc ++ us.toArray) w
  | [], i, acc, _ => by simp [loadCellsFrom]
  | u :: us, i, acc, h => by
    have h0 := h 0 u rfl
    simp only [Nat.add_zero] at h0
    have ih := run_loadCellsFrom P w a us (i + 1) (acc.push u) (fun j v hj => by
      have := h (j + 1) v (by simpa using hj)
      rwa [show i + (j + 1) = i + 1 + j by omega] at this)
    simp only [List.length_cons, loadCellsFrom, Sem.run_bind, run_load, h0, Result.andThen_ok]
    rw [ih]
    simp
theorem run_loadCells (P : Program) (w : World) (a : Addr) (us : List Value) (h : ∀ j u, us[j]? = some u → w.cell? (a.add j) = some u) : (loadCells a us.length).run P w = .ok us.toArray w := by
  have := run_loadCellsFrom P w a us 0 #[] (by simpa using h)
  simpa [loadCells] using this
theorem addr_add (b o n : Nat) : (⟨b, o, none⟩ : Addr).add n = ⟨b, o + n, none⟩ := by unfold Addr.add; split <;> simp_all
end Go.Proofs.Ytljkkfcokpimkaa.X
