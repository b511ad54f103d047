/- The operations that build, cut, index, convert, append: they are done by the model as well. -/
import Derived.Test.YtljkkfcokpimkaaXd
import Derived.Great.BuildSlice
import Derived.Laws.Append
import Derived.Laws.AppendOwn
import Derived.Laws.BytesArg
set_option linter.unusedVariables false
set_option linter.unusedSimpArgs false
namespace Go.Proofs.Ytljkkfcokpimkaa.X
open Go Go.RowKit

section
variable {P : Program} {base : Nat} {ρ : Map} {m m' : Mem} {w : World} {v : AV}

/-! ### Parts laid into a template -/
def overlayV (cs : List Value) (off : Nat) : List Value → List Value
  | [] => cs
  | v :: vs => overlayV (cs.set off v) (off + 1) vs
theorem foldl_overlayV (off : Nat) : ∀ (us : List Value) (k : Nat) (carr : Array Value), ((us.zipIdx k).foldl (fun cs (x : Value × Nat) => cs.setIfInBounds (off + x.2) x.1) carr).toList = overlayV carr.toList (off + k) us
  | [], _, _ => rfl
  | u :: us, k, carr => by
    rw [List.zipIdx_cons, List.foldl_cons, foldl_overlayV off us (k + 1), overlayV]
    simp [Nat.add_assoc]
theorem overlayV_VRL {ρ : Map} : ∀ {ws : List AV} {us : List Value} {x : List AV} {v : List Value} (off : Nat), VRL ρ ws us → VRL ρ x v → VRL ρ (overlay x off ws) (overlayV v off us)
  | [], us, x, v, off, hw, hx => by
    simp [VRL] at hw; subst hw
    exact hx
  | w :: ws, us, x, v, off, hw, hx => by
    simp only [VRL] at hw
    obtain ⟨u, us, rfl, hu, hw⟩ := hw
    exact overlayV_VRL (off + 1) hw (hx.set off hu)

theorem fill_run {tm : List AV} {a : Act} (ht : VRL ρ tm a.tmps.toList) (place : Nat → Option (Nat × Nat)) (placeT : Nat → Option (Nat × TypeId)) (hp : ∀ i o t n, placeT i = some (o, t) → sizeIs P t n = true → place i = some (o, n)) :
    ∀ (ps : List (Nat × Operand)) (ps' : List (Nat × Nat × Opd)) (cs : List AV) (carr : Array Value) (cs' : List AV), partsOk P placeT ps ps' = true → VRL ρ cs carr.toList → fillParts tm cs ps' = some cs' →
      ∃ carr', Instr.fill place carr (ps.map fun x => (x.1, a.eval x.2)) = some carr' ∧ VRL ρ cs' carr'.toList
  | [], [], cs, carr, cs', _, hc, hf => by
    simp only [fillParts] at hf
    injection hf with hf
    subst hf
    exact ⟨carr, rfl, hc⟩
  | [], _ :: _, _, _, _, h, _, _ => by simp [partsOk] at h
  | (i, x) :: ps, [], _, _, _, h, _, _ => by simp [partsOk] at h
  | (i, x) :: ps, (off, n, x') :: ps', cs, carr, cs', h, hc, hf => by
    simp only [partsOk, Bool.and_eq_true] at h
    obtain ⟨⟨h1, h2⟩, h3⟩ := h
    simp only [fillParts] at hf
    split at hf
    · rename_i hle
      obtain ⟨e1, e2, e3⟩ := hle
      cases hpl : placeT i with
      | none => simp [hpl] at h1
      | some q =>
        obtain ⟨o, t⟩ := q
        simp [hpl] at h1
        obtain ⟨rfl, h1⟩ := h1
        have hpi := hp i o t n hpl h1
        have hx := opd_VR ht h2
        have hcx := cells_VRL hx e3
        have hsz := (VRL_toArray hcx).1
        have hcs := (VRL_toArray hc).1
        have hfold : ((a.eval x).cells.zipIdx.foldl (fun cs (y : Value × Nat) => cs.setIfInBounds (o + y.2) y.1) carr).toList = overlayV carr.toList o (a.eval x).cells.toList := by
          rw [← Array.foldl_toList, Array.toList_zipIdx]
          exact foldl_overlayV o _ 0 carr
        have ih := fill_run ht place placeT hp ps ps' (overlay cs o (x'.eval tm).cells) ((a.eval x).cells.zipIdx.foldl (fun cs (y : Value × Nat) => cs.setIfInBounds (o + y.2) y.1) carr) cs' h3 (by rw [hfold]; exact overlayV_VRL o hcx hc) hf
        obtain ⟨carr', h4, h5⟩ := ih
        refine ⟨carr', ?_, h5⟩
        simp only [List.map_cons, Instr.fill, hpi]
        rw [if_neg]
        · exact h4
        · simp only [Bool.or_eq_true, decide_eq_true_eq, not_or]
          exact ⟨by simp; omega, by omega⟩
    · cases hf

theorem places_some {fs : List Field} (h : fs.all (fun f => (P.info? f.type).isSome) = true) : fs.mapM (fun f => (P.info? f.type).map fun i => (f.offset, i.size)) = some (fs.map fun f => (f.offset, P.cellsOf f.type)) := by
  induction fs with
  | nil => rfl
  | cons f fs ih =>
    simp only [List.all_cons, Bool.and_eq_true] at h
    obtain ⟨i, hi⟩ := Option.isSome_iff_exists.1 h.1
    simp [List.mapM_cons, ih h.2, hi, Program.cellsOf]
theorem build_runs {tm : List AV} {a : Act} (ht : VRL ρ tm a.tmps.toList) {t : TypeId} {tpl : List AV} (hz : zeroOk P t tpl = true) {ps : Array (Nat × Operand)} {ps' : List (Nat × Nat × Opd)} (hb : buildOk P t ps.toList ps' = true) {cs : List AV} (hf : fillParts tm tpl ps' = some cs) :
    ∃ u, (Instr.build t (ps.map fun (i, x) => (i, a.eval x))).run P w = .ok u w ∧ VR ρ (.agg cs) u := by
  obtain ⟨z, i, hi, hzz, hc, hs, hr⟩ := zeroOk_run hz
  have hz0 := cstsOk_VRL ρ _ _ hc
  unfold buildOk at hb
  split at hb
  · rename_i fs hu
    simp only [Bool.and_eq_true] at hb
    obtain ⟨carr', h1, h2⟩ := fill_run (P := P) ht (((fs.toList.map fun f => (f.offset, P.cellsOf f.type)).toArray)[·]?) (fieldIs fs) (fun j o t n hj hn => by
      unfold fieldIs at hj
      split at hj
      · rename_i f hf
        injection hj with hj
        injection hj with h1 h2
        subst h1 h2
        simp [hf, sizeIs_cells hn]
      · cases hj) ps.toList ps' tpl z.cells cs hb.2 hz0 hf
    refine ⟨.agg carr', run_build w t _ carr' ?_, by simp only [VR]; exact ⟨carr'.toList, h2, by simp⟩⟩
    unfold Program.built
    simp only [hi, hu, hzz, places_some hb.1]
    simpa using h1
  · rename_i n e hu
    cases hie : P.info? e with
    | none => simp [hie] at hb
    | some ie =>
      simp only [hie] at hb
      obtain ⟨carr', h1, h2⟩ := fill_run (P := P) ht (fun j => some (j * ie.size, ie.size)) (fun j => some (j * ie.size, e)) (fun j o t n hj hn => by
        injection hj with hj
        injection hj with h1 h2
        subst h1 h2
        simp [sizeIs, hie] at hn
        simp [hn]) ps.toList ps' tpl z.cells cs hb hz0 hf
      refine ⟨.agg carr', run_build w t _ carr' ?_, by simp only [VR]; exact ⟨carr'.toList, h2, by simp⟩⟩
      unfold Program.built
      simp only [hi, hu, hzz, hie]
      simpa using h1
  · cases hb
theorem mksl_runs (hm : MR P base ρ m w) {tm : List AV} {a : Act} (ht : VRL ρ tm a.tmps.toList) {t : TypeId} {len len' : Nat} {ps : Array (Nat × Operand)} {e : Nat} {tpl : List AV} {ps' : List (Nat × Nat × Opd)}
    (hb : mkslOk P t len ps.toList e tpl len' ps' = true) {cs : List AV} (hf : fillParts tm tpl ps' = some cs) {b0 : Nat} {at_ : Option Nat} (hn : newRow m b0 at_ cs e (fun b => .sl b 0 len' (.exact len')) = some (v, m')) :
    SRuns P base ρ (Instr.buildSlice t len (ps.map fun (i, x) => (i, a.eval x))) w v m' := by
  unfold mkslOk at hb
  split at hb
  · rename_i e' hu
    cases hie : P.info? e' with
    | none => simp [hie] at hb
    | some ie =>
      cases hz : ie.zero with
      | none => simp [hie, hz] at hb
      | some z =>
        simp only [hie, hz, Bool.and_eq_true, decide_eq_true_eq] at hb
        obtain ⟨⟨⟨⟨⟨rfl, rfl⟩, h24⟩, htl⟩, hct⟩, hpo⟩ := hb
        have hz0 := cstsOk_VRL ρ _ _ hct
        obtain ⟨carr', h1, h2⟩ := fill_run (P := P) ht (fun j => some (j * ie.size, ie.size)) (fun j => some (j * ie.size, e')) (fun j o t n hj hn => by
          injection hj with hj
          injection hj with h1 h2
          subst h1 h2
          simp [sizeIs, hie] at hn
          simp [hn]) ps.toList ps' tpl _ cs hpo hz0 hf
        refine newRow_runs hm hn carr' h2 (.slice (some ⟨w.heap.size, 0, none⟩) len len) (fun ρ' b hb => ?_) _ ?_
        · simp only [VR]; exact ⟨_, _, _, hb, ⟨rfl, Nat.le_refl _⟩, .inl rfl, rfl⟩
        · by_cases hpos : len * ie.size = 0
          · have hzr : ((Array.range (len * ie.size)).map (z.cells[· % z.cells.size]!)) = #[] := by rw [hpos]; simp
            rw [hzr] at h1
            simp [Instr.buildSlice, run_underlying hu, sizeOf, typeInfo, hie, hpos, Go.newRow, newObj]
            rw [show (Array.map (fun _ : Nat => (default : Value)) (Array.range 0)) = #[] by simp, h1]
            rfl
          · exact run_buildSlice w t e' len _ carr' ie z hu hie hz (by omega) hpos (by simpa using h1)
  · cases hb

/-! ### Parts of values -/
theorem part_run {t : TypeId} {n : Option Nat} (ha : aggOk P t n = true) {cs : List AV} {off : Nat} (h : partOf cs off n = some v) {us : List Value} (hv : VRL ρ cs us) : ∃ u, (part t us.toArray off).run P w = .ok u w ∧ VR ρ v u := by
  unfold aggOk at ha
  cases hagg : isAggT P t with
  | none => simp [hagg] at ha
  | some g =>
    cases n with
    | none =>
      cases g <;> simp [hagg] at ha
      simp only [partOf] at h
      obtain ⟨u, hu, hvu⟩ := hv.get _ _ h
      exact ⟨u, by simp [part, isAgg_run hagg, hu], hvu⟩
    | some k =>
      cases g <;> simp [hagg] at ha
      simp only [partOf] at h
      split at h
      · injection h with h
        subst h
        refine ⟨.agg ((us.drop off).take k).toArray, ?_, by simp only [VR]; exact ⟨_, (hv.drop off).take k, rfl⟩⟩
        simp [part, isAgg_run hagg, sizeIs_run ha]
      · cases h
theorem fld_runs {t : TypeId} {i off : Nat} {n : Option Nat} {fs : Array Field} {f : Field} (hu : P.underlying t = some (.struct fs)) (hf : fs[i]? = some f) (ho : f.offset = off) (ha : aggOk P f.type n = true) {cs : List AV} (h : partOf cs off n = some v) {u : Value} (hv : VR ρ (.agg cs) u) :
    ∃ u', (Instr.field t u i).run P w = .ok u' w ∧ VR ρ v u' := by
  simp only [VR] at hv
  obtain ⟨us, h1, rfl⟩ := hv
  subst ho
  obtain ⟨u', h2, h3⟩ := part_run (w := w) ha h h1
  exact ⟨u', by simp [Instr.field, run_underlying hu, hf, asAgg, h2], h3⟩
theorem fa_runs {s : TypeId} {i off : Nat} {fs : Array Field} {f : Field} {j : TypeInfo} (hu : P.underlying s = some (.struct fs)) (hf : fs[i]? = some f) (ho : f.offset = off) (hj : P.info? f.type = some j) (h0 : j.size ≠ 0) {b o : Nat} {u : Value} (hv : VR ρ (.ptr b o) u) :
    ∃ u', (Instr.fieldAt s u i).run P w = .ok u' w ∧ VR ρ (.ptr b (o + off)) u' := by
  simp only [VR] at hv ⊢
  obtain ⟨r, h1, rfl⟩ := hv
  subst ho
  have hs : ∀ w, (sizeOf f.type).run P w = .ok j.size w := fun w => sizeIs_run (by simp [sizeIs, hj]) w
  refine ⟨_, ?_, r, h1, rfl⟩
  simp [Instr.fieldAt, run_underlying hu, hf, Instr.sureAddr, fieldPlace, hs, h0, addr_add, Nat.add_assoc]
theorem ia_runs_sl {t e : TypeId} {esz : Nat} (hu : P.underlying t = some (.slice e)) (hs : sizeIs P e esz = true) {b off len : Nat} {cap : Cap} {k : IntKind} {n : Int} (h0 : 0 ≤ n) (h1 : n < len) {x y : Value} (hx : VR ρ (.sl b off len cap) x) (hy : VR ρ (.int k n) y) :
    ∃ u', (Instr.indexAt t x y).run P w = .ok u' w ∧ VR ρ (.ptr b (off + n.toNat * esz)) u' := by
  simp only [VR] at hx hy ⊢
  obtain ⟨r, a, c', q1, q2, q3, rfl⟩ := hx
  subst hy
  rcases q3 with rfl | ⟨q3, _⟩
  · refine ⟨_, ?_, r, q1, rfl⟩
    simp [Instr.indexAt, asIntOf, run_underlying hu, h0, h1, sizeIs_run hs, addr_add, Nat.add_assoc]
  · omega
theorem ia_runs_arr {t e : TypeId} {esz len : Nat} (hu : P.underlying t = some (.array len e)) (hs : sizeIs P e esz = true) {b off : Nat} {k : IntKind} {n : Int} (h0 : 0 ≤ n) (h1 : n < len) {x y : Value} (hx : VR ρ (.ptr b off) x) (hy : VR ρ (.int k n) y) :
    ∃ u', (Instr.indexAt t x y).run P w = .ok u' w ∧ VR ρ (.ptr b (off + n.toNat * esz)) u' := by
  simp only [VR] at hx hy ⊢
  obtain ⟨r, q1, rfl⟩ := hx
  subst hy
  refine ⟨_, ?_, r, q1, rfl⟩
  simp [Instr.indexAt, asIntOf, run_underlying hu, h0, h1, sizeIs_run hs, addr_add, Nat.add_assoc, Instr.sureAddr]
theorem ix_runs_str {t : TypeId} (hu : P.underlying t = some .string) {s : List UInt8} {k : IntKind} {n : Int} (h0 : 0 ≤ n) {c : UInt8} (hc : s[n.toNat]? = some c) {x y : Value} (hx : VR ρ (.str s) x) (hy : VR ρ (.int k n) y) :
    ∃ u', (Instr.index t x y).run P w = .ok u' w ∧ VR ρ (.int .u8 c.toNat) u' := by
  simp only [VR] at hx hy ⊢
  subst hx hy
  have hlt : n.toNat < s.length := by
    rcases Nat.lt_or_ge n.toNat s.length with x | x
    · exact x
    · rw [List.getElem?_eq_none x] at hc; cases hc
  have hg : (⟨s.toArray⟩ : ByteArray)[n.toNat]? = some c := by
    rw [getElem?_pos _ _ (by simpa [ByteArray.size] using hlt)]
    rw [List.getElem?_eq_getElem hlt] at hc
    injection hc with hc
    rw [← hc]; rfl
  exact ⟨_, by simp [Instr.index, asIntOf, run_underlying hu, h0, hg], rfl⟩
theorem ix_runs_arr {t e : TypeId} {len esz : Nat} {kk : Option Nat} (hu : P.underlying t = some (.array len e)) (hs : sizeIs P e esz = true) (ha : aggOk P e kk = true) {cs : List AV} {k : IntKind} {n : Int} (h0 : 0 ≤ n) (h1 : n < len) (h : partOf cs (n.toNat * esz) kk = some v)
    {x y : Value} (hx : VR ρ (.agg cs) x) (hy : VR ρ (.int k n) y) : ∃ u', (Instr.index t x y).run P w = .ok u' w ∧ VR ρ v u' := by
  simp only [VR] at hx hy
  obtain ⟨us, q1, rfl⟩ := hx
  subst hy
  obtain ⟨u', h2, h3⟩ := part_run (w := w) ha h q1
  exact ⟨u', by simp [Instr.index, asIntOf, run_underlying hu, h0, h1, sizeIs_run hs, h2], h3⟩
theorem ext_runs {l : List AV} {i : Nat} (h : l[i]? = some v) {u : Value} (hv : VR ρ (.tup l) u) : ∃ u', (Instr.extract u i).run P w = .ok u' w ∧ VR ρ v u' := by
  simp only [VR] at hv
  obtain ⟨us, h1, rfl⟩ := hv
  obtain ⟨u', h2, h3⟩ := h1.get _ _ h
  exact ⟨u', by simp [Instr.extract, h2], h3⟩

/-! ### Slices -/
theorem natOf_VR {x : AV} {n : Nat} (h : natOf x = some n) {u : Value} (hv : VR ρ x u) : ∃ k, u = .int k (n : Int) := by
  unfold natOf at h
  split at h
  · rename_i k z
    split at h
    · simp only [VR] at hv
      injection h with h
      exact ⟨k, by rw [hv]; congr 1; omega⟩
    · cases h
  · cases h
theorem sliceBound_run {k : IntKind} {n y : Nat} (h : n ≤ y) (c : BoundsCode) : (Instr.sliceBound (.int k (n : Int)) y c).run P w = .ok n w := by
  simp [Instr.sliceBound, asIntOf]
  intro h'
  omega
def optV (ρ : Map) : Option AV → Option Value → Prop
  | none, none => True
  | some x, some v => VR ρ x v
  | _, _ => False
theorem within_le {len : Nat} {cap : Cap} {h c' : Nat} (hw : within len cap h = true) {r : Reg} {o : Nat} (hc : capR r o len c' cap) : h ≤ c' := by
  unfold within at hw
  simp only [Bool.or_eq_true, decide_eq_true_eq] at hw
  cases cap <;> simp [capR] at hc hw <;> omega
/-- The bounds, as the model asks them. -/
theorem slBounds_run {len : Nat} {cap : Cap} {lo hi mx : Option AV} {l h : Nat} {c : Cap} (hb : slBounds len cap lo hi mx = some (l, h, c)) {lo' hi' mx' : Option Value} (hlo : optV ρ lo lo') (hhi : optV ρ hi hi') (hmx : optV ρ mx mx') {r : Reg} {o c' : Nat} (hc : capR r o len c' cap) (isS : Bool) :
    ∃ m, (Instr.sliceBounds isS len c' lo' hi' mx').run P w = .ok (l, h, m) w ∧ l ≤ h ∧ h ≤ m ∧ m ≤ c' ∧ (mx = none → m = c' ∧ c = cap.less l) ∧ (mx.isSome = true → c = .exact (m - l)) := by
  have low : ∀ l h, loB lo = some l → l ≤ h → ∀ cd : BoundsCode, (match lo' with | some v => Instr.sliceBound v h cd | none => pure 0).run P w = .ok l w := by
    intro l h hl hle cd
    cases lo with
    | none => cases lo' <;> simp [optV] at hlo; simp [loB] at hl; subst hl; rfl
    | some x =>
      cases lo' <;> simp [optV] at hlo
      obtain ⟨k, rfl⟩ := natOf_VR hl hlo
      exact sliceBound_run hle cd
  unfold slBounds at hb
  cases hl0 : loB lo with
  | none => simp [hl0] at hb
  | some l0 =>
    cases hh0 : hiB len hi with
    | none => simp [hl0, hh0] at hb
    | some h0 =>
      cases mx with
      | none =>
        simp only [hl0, hh0] at hb
        split at hb
        · rename_i hle
          injection hb with hb
          injection hb with e1 hb
          injection hb with e2 e3
          subst e1 e2 e3
          have hmx' : mx' = none := by cases mx' <;> simp [optV] at hmx; rfl
          subst hmx'
          have hhc := within_le hle.2 hc
          refine ⟨c', ?_, hle.1, hhc, Nat.le_refl _, fun _ => ⟨rfl, rfl⟩, fun x => by simp at x⟩
          have hlow := low l0 h0 hl0 hle.1
          cases hi with
          | none =>
            cases hi' <;> simp [optV] at hhi
            simp [hiB] at hh0
            subst hh0
            cases lo' with
            | none => have := hlow .sliceB; simp at this; simp [Instr.sliceBounds, this]
            | some lv => have := hlow .sliceB; simp at this; simp [Instr.sliceBounds, this]
          | some x =>
            cases hi' <;> simp [optV] at hhi
            obtain ⟨k, rfl⟩ := natOf_VR hh0 hhi
            cases lo' with
            | none => have := hlow .sliceB; simp at this; simp [Instr.sliceBounds, sliceBound_run hhc, this]
            | some lv => have := hlow .sliceB; simp at this; simp [Instr.sliceBounds, sliceBound_run hhc, this]
        · cases hb
      | some vmx =>
        simp only [hl0, hh0] at hb
        cases hcm : natOf vmx with
        | none => simp [hcm] at hb
        | some cm =>
          simp only [hcm] at hb
          split at hb
          · rename_i hle
            obtain ⟨e1, e2, e3, e4⟩ := hle
            injection hb with hb
            injection hb with q1 hb
            injection hb with q2 q3
            subst q1 q2 q3
            have hcc := within_le e4 hc
            cases mx' with
            | none => simp [optV] at hmx
            | some mv =>
              simp only [optV] at hmx
              obtain ⟨km, rfl⟩ := natOf_VR hcm hmx
              cases hi with
              | none => simp at e3
              | some x =>
                cases hi' <;> simp [optV] at hhi
                obtain ⟨k, rfl⟩ := natOf_VR hh0 hhi
                refine ⟨cm, ?_, e1, e2, hcc, fun x => by simp at x, fun _ => rfl⟩
                cases lo' with
                | none => have := low l0 h0 hl0 e1 .slice3C; simp at this; simp [Instr.sliceBounds, sliceBound_run hcc, sliceBound_run e2, this]
                | some lv => have := low l0 h0 hl0 e1 .slice3C; simp at this; simp [Instr.sliceBounds, sliceBound_run hcc, sliceBound_run e2, this]
          · cases hb
/-- Of a room that nobody knows no more is taken than is there. -/
theorem slBounds_any {lo hi mx : Option AV} {l h : Nat} {c : Cap} (hb : slBounds 0 .any lo hi mx = some (l, h, c)) : h = 0 ∧ (mx = none ∨ ∃ n, c = .exact n ∧ n = 0) := by
  unfold slBounds at hb
  cases hl0 : loB lo with
  | none => simp [hl0] at hb
  | some l0 =>
    cases hh0 : hiB 0 hi with
    | none => simp [hl0, hh0] at hb
    | some h0 =>
      cases mx with
      | none =>
        simp only [hl0, hh0] at hb
        split at hb
        · rename_i hle
          injection hb with hb
          injection hb with e1 hb
          injection hb with e2 e3
          have := hle.2
          simp [within] at this
          exact ⟨by omega, .inl rfl⟩
        · cases hb
      | some vmx =>
        simp only [hl0, hh0] at hb
        cases hcm : natOf vmx with
        | none => simp [hcm] at hb
        | some cm =>
          simp only [hcm] at hb
          split at hb
          · rename_i hle
            injection hb with hb
            injection hb with e1 hb
            injection hb with e2 e3
            have := hle.2.2.2
            simp [within] at this
            exact ⟨by omega, .inr ⟨_, e3.symm, by omega⟩⟩
          · cases hb
end
end Go.Proofs.Ytljkkfcokpimkaa.X
