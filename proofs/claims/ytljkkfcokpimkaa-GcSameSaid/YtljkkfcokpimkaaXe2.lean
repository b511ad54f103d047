/- The rest of the operations: slices, conversions, append and the other builtins, calls; all of them in one theorem. -/
import Derived.Test.YtljkkfcokpimkaaXe
import Derived.Lib.ConvBytes
set_option linter.unusedVariables false
set_option linter.unusedSimpArgs false
namespace Go.Proofs.Ytljkkfcokpimkaa.X
open Go Go.RowKit

section
variable {P : Program} {base : Nat} {ρ : Map} {m m' : Mem} {w : World} {v : AV}

theorem sli_runs {t : TypeId} {k : SlK} (hk : sliceOk P t k = true) {x : AV} {lo hi mx : Option AV} (h : sliceOp k x lo hi mx = some v) {u : Value} {lo' hi' mx' : Option Value} (hx : VR ρ x u) (hlo : optV ρ lo lo') (hhi : optV ρ hi hi') (hmx : optV ρ mx mx') :
    ∃ u', (Instr.sliceAt t u lo' hi' mx').run P w = .ok u' w ∧ VR ρ v u' := by
  unfold sliceOp at h
  split at h
  · rename_i s
    split at h
    · rename_i l hh c hb
      injection h with h
      subst h
      have hmx' : mx' = none := by cases mx' <;> simp [optV] at hmx; rfl
      subst hmx'
      simp only [VR] at hx ⊢
      subst hx
      obtain ⟨mm, h1, h2, h3, h4, _, _⟩ := slBounds_run (P := P) (w := w) hb hlo hhi (mx' := none) (by simp [optV]) (r := ⟨0, 0, 0, 0⟩) (o := 0) (c' := s.length) (by simp [capR]) false
      have hu : P.underlying t = some .string := by
        cases hu : P.underlying t with
        | none => simp [sliceOk, hu] at hk
        | some d => cases d <;> simp [sliceOk, hu] at hk; rfl
      refine ⟨.string ((⟨s.toArray⟩ : ByteArray).extract l hh), ?_, ?_⟩
      · have hsz : (⟨s.toArray⟩ : ByteArray).size = s.length := by simp [ByteArray.size]
        simp [Instr.sliceAt, run_underlying hu, Instr.slice, hsz, h1]
      · congr 1
        apply ByteArray.ext
        simp [List.extract_eq_take_drop]
    · cases h
  · rename_i esz b off len cap
    split at h
    · rename_i hz
      split at h
      · rename_i l hh c hb
        injection h with h
        subst h
        simp only [VR] at hx ⊢
        obtain ⟨r, a, c', q1, q2, q3, rfl⟩ := hx
        obtain ⟨mm, h1, h2, h3, h4, h5, h6⟩ := slBounds_run (P := P) (w := w) hb hlo hhi hmx q2 true
        cases hu : P.underlying t with
        | none => simp [sliceOk, hu] at hk
        | some d =>
          cases d <;> simp [sliceOk, hu] at hk
          rename_i e
          refine ⟨.slice (some (if mm = l then a else a.add (l * esz))) (hh - l) (mm - l), ?_, r, _, _, q1, ?_, ?_, rfl⟩
          · simp only [Instr.sliceAt, run_underlying hu, Sem.run_bind, Result.andThen_ok, Instr.slice, h1, sizeIs_run hk, Sem.run_pure]
            split <;> rfl
          · cases mx with
            | none =>
              obtain ⟨rfl, rfl⟩ := h5 rfl
              cases cap with
              | exact n => simp [capR, Cap.less] at q2 ⊢; omega
              | any => simp [capR, Cap.less] at q2 ⊢; omega
              | more z =>
                simp [capR, Cap.less, Cap.fits] at q2 hz ⊢
                obtain ⟨e1, e2, e3⟩ := q2
                refine ⟨e1, ?_, by omega⟩
                have hd : l * r.esz + (mm - l) * r.esz = mm * r.esz := by rw [← Nat.add_mul]; congr 1; omega
                rw [← hz, e1]
                omega
            | some x =>
              rw [h6 rfl]
              simp [capR]
              omega
          · by_cases hml : mm = l
            · right
              exact ⟨by omega, .inl (by omega)⟩
            · rcases q3 with rfl | ⟨q3, q4⟩
              · left
                rw [if_neg hml, addr_add, Nat.add_assoc]
              · rcases q4 with q4 | q4
                · omega
                · subst q4
                  right
                  subst q3
                  obtain ⟨hh0, hx⟩ := slBounds_any hb
                  refine ⟨by omega, ?_⟩
                  rcases hx with hx | ⟨n, hx, hn⟩
                  · obtain ⟨_, e⟩ := h5 hx
                    rw [e]; right; rfl
                  · left
                    cases mx with
                    | none => obtain ⟨_, e⟩ := h5 rfl; rw [e] at hx; simp [Cap.less] at hx
                    | some x =>
                      have := h6 rfl
                      rw [hx] at this
                      injection this with this
                      omega
      · cases h
    · cases h
  · rename_i esz
    split at h
    · rename_i r0 hb
      injection h with h
      subst h
      obtain ⟨l, hh, c⟩ := r0
      simp only [VR] at hx ⊢
      subst hx
      obtain ⟨mm, h1, h2, h3, h4, h5, h6⟩ := slBounds_run (P := P) (w := w) hb hlo hhi hmx (r := ⟨0, 0, 0, 0⟩) (o := 0) (c' := 0) (by simp [capR]) true
      cases hu : P.underlying t with
      | none => simp [sliceOk, hu] at hk
      | some d =>
        cases d <;> simp [sliceOk, hu] at hk
        refine ⟨.slice none 0 0, ?_, rfl⟩
        obtain rfl : mm = 0 := by omega
        obtain rfl : hh = 0 := by omega
        obtain rfl : l = 0 := by omega
        simp [Instr.sliceAt, run_underlying hu, Instr.slice, h1, sizeIs_run hk]
    · cases h
  · rename_i n esz b off
    split at h
    · rename_i l hh c hb
      injection h with h
      subst h
      have hmx' : mx' = none := by cases mx' <;> simp [optV] at hmx; rfl
      subst hmx'
      simp only [VR] at hx ⊢
      obtain ⟨r, q1, rfl⟩ := hx
      obtain ⟨mm, h1, h2, h3, h4, h5, _⟩ := slBounds_run (P := P) (w := w) hb hlo hhi (mx' := none) (by simp [optV]) (r := r) (o := off) (c' := n) (by simp [capR]) false
      obtain ⟨rfl, rfl⟩ := h5 rfl
      cases hu : P.underlying t with
      | none => simp [sliceOk, hu] at hk
      | some d =>
        cases d <;> simp [sliceOk, hu] at hk
        rename_i n' e
        obtain ⟨rfl, hk⟩ := hk
        refine ⟨.slice (some (if mm = l then ⟨r.cb, r.sh + off, none⟩ else (⟨r.cb, r.sh + off, none⟩ : Addr).add (l * esz))) (hh - l) (mm - l), ?_, r, _, _, q1, ?_, ?_, rfl⟩
        · simp [Instr.sliceAt, run_underlying hu, Instr.sureAddr, h1, sizeIs_run hk]
        · simp [capR, Cap.less]; omega
        · by_cases hml : mm = l
          · right; exact ⟨by omega, .inl (by omega)⟩
          · left; rw [if_neg hml, addr_add, Nat.add_assoc]
    · cases h
  · cases h

/-! ### Conversions -/
theorem bytesOf_ints : ∀ (cs : List AV) (bs : List UInt8) (us : List Value), bytesOf cs = some bs → VRL ρ cs us → ∃ xs : List Int, us = xs.map (Value.int .u8) ∧ bs = xs.map fun n => UInt8.ofNat n.toNat
  | [], bs, us, h, hv => by
    simp [bytesOf] at h
    simp [VRL] at hv
    exact ⟨[], by simp [hv], by simp [h]⟩
  | c :: cs, bs, us, h, hv => by
    simp only [VRL] at hv
    obtain ⟨y, ys, rfl, hy, hv⟩ := hv
    cases c with
    | int k n =>
      cases k with
      | u8 =>
        cases hr : bytesOf cs with
        | none => simp [bytesOf, hr] at h
        | some r =>
          simp [bytesOf, hr] at h
          obtain ⟨xs, h1, h2⟩ := bytesOf_ints cs r ys hr hv
          simp only [VR] at hy
          exact ⟨n :: xs, by simp [hy, h1], by rw [← h, h2]; simp⟩
      | _ => simp [bytesOf] at h
    | _ => simp [bytesOf] at h
theorem b2s_runs (hm : MR P base ρ m w) {s d : TypeId} (hc : convOk P s d .b2s = true) {x : AV} {u : Value} (hx : VR ρ x u) {b0 : Nat} {tm : List AV} {call : CallF} {o : Opd} (ho : o.eval tm = x) {sl : Option Nat} (h : evOp call b0 tm m (.cv sl .b2s o) = some (v, m')) :
    m' = m ∧ ∃ u', (convert s d u).run P w = .ok u' w ∧ VR ρ v u' := by
  simp only [evOp, ho] at h
  unfold convOk at hc
  cases hs : P.underlying s with
  | none => simp [hs] at hc
  | some ds =>
    cases hd : P.underlying d with
    | none => cases ds <;> simp [hs, hd] at hc
    | some dd =>
      cases ds <;> cases dd <;> simp [hs, hd] at hc
      rename_i e
      cases he : P.underlying e with
      | none => simp [he] at hc
      | some de =>
        cases de <;> simp [he] at hc
        rename_i k
        cases k <;> simp at hc
        split at h
        · injection h with h; injection h with h1 h2
          subst h1 h2
          simp only [VR] at hx
          subst hx
          exact ⟨rfl, _, run_convert_bytes_nil w s e hs he 0 0 d hd, by simp [VR]; rfl⟩
        · rename_i b off len cap
          split at h
          · rename_i cs hr
            obtain ⟨h1, rfl⟩ := pureOp_some h
            refine ⟨rfl, ?_⟩
            cases hb : bytesOf cs with
            | none => simp [hb] at h1
            | some bs =>
              simp [hb] at h1
              subst h1
              simp only [VR] at hx
              obtain ⟨r, a, c', q1, q2, q3, rfl⟩ := hx
              obtain ⟨r', hρ', hlen, _, us, hvr, hul, hus⟩ := hm.read hr
              rw [q1] at hρ'
              injection hρ' with hρ'
              subst hρ'
              obtain ⟨xs, g1, g2⟩ := bytesOf_ints cs bs us hb hvr
              have hxl : xs.length = len := by rw [← hul, g1]; simp
              have hres : VR ρ (.str bs) (.string (strOfNums xs)) := by
                simp only [VR, strOfNums, g2]
              rcases q3 with rfl | ⟨q3, _⟩
              · refine ⟨_, run_convert_bytes_arg w s e hs he r.cb (r.sh + off) len c' xs hxl (fun i hi => ?_) d hd, hres⟩
                have hu : us[i]? = some (.int .u8 (xs.getD i 0)) := by
                  rw [g1]
                  simp [List.getD_eq_getElem?_getD, List.getElem?_eq_getElem (show i < xs.length by omega)]
                exact hus i _ hu
              · subst q3
                have hx0 : xs = [] := List.eq_nil_of_length_eq_zero hxl
                subst hx0
                refine ⟨.string (strOfNums []), ?_, hres⟩
                simp [convert, run_underlying hs, run_underlying hd, run_underlying he, Conv.bytesToString, loadCells, loadCellsFrom]
                rfl
          · cases h
        · cases h
theorem drew_heap (w : World) : w.drew.heap = w.heap := rfl
theorem Below.drew' (base : Nat) (w : World) : Below base w w.drew := ⟨rfl, rfl, rfl, Nat.le_refl _, fun _ _ => rfl⟩

/-- A new row that may be longer than is known. -/
theorem newMore_runs (hm : MR P base ρ m w) {s : Option Nat} {cs : List AV} {e b : Nat} (hn : m.new s cs e = some (b, m')) {us : List Value} (hv : VRL ρ cs us) (rest : List Value) (fr : Nat × Nat) (hfr : ∀ i, i < (us ++ rest).length → (i < fr.1 ∨ fr.1 = fr.2)) {n cap esz : Nat} (hsz : P.cellsOf e = esz) (hcap : cap * esz = (us ++ rest).length) (hle : n ≤ cap)
    {w' : World} (hw : w'.heap = w.heap.push (.cells (us ++ rest).toArray e fr)) (hb : Below base w w') :
    ∃ ρ', ρ.le ρ' ∧ VR ρ' (.sl b 0 n (.more esz)) (.slice (some ⟨w.heap.size, 0, none⟩) n cap) ∧ MR P base ρ' m' w' := by
  have hul := hv.length
  obtain ⟨ρ', h1, h2, h3, _⟩ := hm.new hn (us ++ rest).toArray (by simp; omega) (fun i a ha => by
    obtain ⟨u, hu, hvu⟩ := hv.get i a ha
    have hlt : i < us.length := by
      rcases Nat.lt_or_ge i us.length with x | x
      · exact x
      · rw [List.getElem?_eq_none x] at hu; cases hu
    exact ⟨u, by simp [List.getElem?_append_left hlt, hu], hvu⟩) fr (by simpa using hfr)
  refine ⟨ρ', h1, ?_, h3.heap (by rw [hw]; rfl)⟩
  simp only [VR]
  refine ⟨_, _, _, h2, ?_, .inl rfl, rfl⟩
  refine ⟨hsz.symm, ?_, hle⟩
  simp only [hsz]
  simp at hcap ⊢
  omega
theorem s2b_runs (hm : MR P base ρ m w) {s d : TypeId} {e : Nat} (hc : convOk P s d (.s2b e) = true) {l : List UInt8} {u : Value} (hx : VR ρ (.str l) u) {b0 : Nat} {sl : Option Nat} (h : newRow m b0 sl (l.map fun c => .int .u8 c.toNat) e (fun b => .sl b 0 l.length (.more 1)) = some (v, m')) : SRuns P base ρ (convert s d u) w v m' := by
  unfold convOk at hc
  cases hs : P.underlying s with
  | none => simp [hs] at hc
  | some ds =>
    cases hd : P.underlying d with
    | none => cases ds <;> simp [hs, hd] at hc
    | some dd =>
      cases ds <;> cases dd <;> simp [hs, hd] at hc
      rename_i e'
      obtain ⟨rfl, hc⟩ := hc
      cases he : P.underlying e with
      | none => simp [he] at hc
      | some de =>
        cases de <;> simp [he] at hc
        rename_i k
        cases k <;> simp at hc
        simp only [VR] at hx
        subst hx
        unfold newRow at h
        split at h
        · rename_i b m1 hn
          injection h with h; injection h with h1 h2
          subst h1 h2
          have hsz : (⟨l.toArray⟩ : ByteArray).size = l.length := by simp [ByteArray.size]
          have hv : VRL ρ (l.map fun c => AV.int .u8 c.toNat) (l.map fun c => Value.int .u8 c.toNat) := by
            refine VRL.of_get (by simp) fun i a b ha hb => ?_
            simp at ha hb
            obtain ⟨x, hx, rfl⟩ := ha
            obtain ⟨y, hy, rfl⟩ := hb
            rw [hx] at hy; injection hy with hy
            simp [VR, hy]
          have hcap : l.length ≤ grownCap w l.length 0 e := grownCap_ge w _ _ _
          have hrun := Go.Lib.run_convert_string_bytes (P := P) w s d e ⟨l.toArray⟩ hs hd he
          rw [hsz] at hrun
          have hbc : Go.Lib.bytesCells w e ⟨l.toArray⟩ = ((l.map fun c : UInt8 => Value.int .u8 (c.toNat : Int)) ++ List.replicate (grownCap w l.length 0 e - l.length) (Value.int .u8 0)).toArray := by
            simp [Go.Lib.bytesCells, hsz]
          have hheap : (Go.Lib.bytesWorld w e ⟨l.toArray⟩).heap = w.heap.push (.cells ((l.map fun c : UInt8 => Value.int .u8 (c.toNat : Int)) ++ List.replicate (grownCap w l.length 0 e - l.length) (Value.int .u8 0)).toArray e ((Go.Lib.bytesCells w e ⟨l.toArray⟩).size, (Go.Lib.bytesCells w e ⟨l.toArray⟩).size + 1)) := by
            rw [← hbc]
            apply Array.ext_getElem?
            intro i
            rcases Nat.lt_trichotomy i w.heap.size with h | h | h
            · rw [Go.Lib.bytesWorld_at_old w e _ i h, Array.getElem?_push, if_neg (by omega)]
            · subst h
              rw [Go.Lib.bytesWorld_at_new]; simp
            · rw [Array.getElem?_eq_none (by rw [Go.Lib.bytesWorld_size]; omega), Array.getElem?_eq_none (by simp; omega)]
          have hbel : Below base w (Go.Lib.bytesWorld w e ⟨l.toArray⟩) := ⟨rfl, rfl, rfl, by rw [Go.Lib.bytesWorld_size]; omega, fun k hk => Go.Lib.bytesWorld_at_old w e _ k (by have := hm.low; omega)⟩
          obtain ⟨ρ', q1, q2, q3⟩ := newMore_runs hm hn hv (List.replicate (grownCap w l.length 0 e - l.length) (Value.int .u8 0)) ((Go.Lib.bytesCells w e ⟨l.toArray⟩).size, (Go.Lib.bytesCells w e ⟨l.toArray⟩).size + 1) (fun i hi => by
            have : (Go.Lib.bytesCells w e ⟨l.toArray⟩).size = ((l.map fun c : UInt8 => Value.int .u8 (c.toNat : Int)) ++ List.replicate (grownCap w l.length 0 e - l.length) (Value.int .u8 0)).length := by rw [hbc]; simp
            omega) (n := l.length) (cap := grownCap w l.length 0 e) (esz := 1) (sizeIs_cells hc) (by simp; omega) hcap hheap hbel
          exact ⟨_, _, ρ', hrun, q1, q2, q3, hbel⟩
        · cases h
end
end Go.Proofs.Ytljkkfcokpimkaa.X
