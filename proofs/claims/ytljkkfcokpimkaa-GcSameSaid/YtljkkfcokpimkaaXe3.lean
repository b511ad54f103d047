/- make, append, clear, copy, len, min and max: they are done by the model as well. -/
import Derived.Test.YtljkkfcokpimkaaXe2
import Derived.Laws.MakeOwn
set_option linter.unusedVariables false
set_option linter.unusedSimpArgs false
namespace Go.Proofs.Ytljkkfcokpimkaa.X
open Go Go.RowKit

section
variable {P : Program} {base : Nat} {ρ : Map} {m m' : Mem} {w : World} {v : AV}

theorem repCells_length (zs : List AV) : ∀ n, (repCells zs n).length = n * zs.length
  | 0 => by simp [repCells]
  | n + 1 => by simp [repCells, repCells_length zs n, Nat.add_mul]; omega
theorem repCells_get (zs : List AV) (hz : 0 < zs.length) : ∀ (n i : Nat), i < n * zs.length → (repCells zs n)[i]? = zs[i % zs.length]?
  | 0, i, h => by omega
  | n + 1, i, h => by
    rw [repCells]
    by_cases hi : i < zs.length
    · rw [List.getElem?_append_left hi, Nat.mod_eq_of_lt hi]
    · rw [List.getElem?_append_right (by omega), repCells_get zs hz n _ (by rw [Nat.add_mul] at h; omega)]
      congr 1
      exact (Nat.mod_eq_sub_mod (by omega)).symm
theorem madeCells_VRL {ρ : Map} {zs : List AV} {z : Array Value} (h : VRL ρ zs z.toList) (hz : 0 < zs.length) (n : Nat) : VRL ρ (repCells zs n) (madeCells z (n * z.size)).toList := by
  have hsz := (VRL_toArray h).1
  refine VRL.of_get (by simp [madeCells, repCells_length, hsz]) fun i a b ha hb => ?_
  have hlt : i < n * zs.length := by
    rcases Nat.lt_or_ge i (repCells zs n).length with x | x
    · rwa [repCells_length] at x
    · rw [List.getElem?_eq_none x] at ha; cases ha
  rw [repCells_get zs hz n i hlt] at ha
  obtain ⟨u, hu, hv⟩ := h.get _ _ ha
  have hb' : b = u := by
    have hm : i % z.size < z.size := Nat.mod_lt _ (by omega)
    rw [Array.getElem?_toList, ← hsz] at hu
    simp [madeCells] at hb
    obtain ⟨j, hj, hb⟩ := hb
    have hji : j = i := by
      obtain ⟨_, h2⟩ := List.getElem?_eq_some_iff.1 hj
      simp at h2
      exact h2.symm
    subst hji
    rw [← hb]
    rw [Array.getElem?_eq_getElem hm] at hu
    injection hu with hu
    rw [← hu]
    simp [hm]
  rw [hb']; exact hv
theorem mks_runs (hm : MR P base ρ m w) {t : TypeId} {e bytes : Nat} {zero : List AV} (hu : P.underlying t = some (.slice e)) (hby : bytesIs P e bytes = true) (hz : zeroOk P e zero = true) (h0 : 0 < zero.length) {l c : Nat} (hlc : l ≤ c) (hmost : c * bytes ≤ most) (h63 : c < 9223372036854775808)
    {b0 : Nat} {s : Option Nat} (hn : newRow m b0 s (repCells zero c) e (fun b => .sl b 0 l (.exact c)) = some (v, m')) (kl kc : IntKind) : SRuns P base ρ (Instr.makeSlice t (.int kl (l : Int)) (.int kc (c : Int))) w v m' := by
  obtain ⟨z, i, hi, hzz, hc, hs, _⟩ := zeroOk_run hz
  have hb : i.bytes = bytes := by simpa [bytesIs, hi] using hby
  have hz0 := cstsOk_VRL ρ _ _ hc
  have hbytes : (i.bytes : Int) * (c : Int) ≤ 281474976710656 := by
    have : bytes * c ≤ 281474976710656 := by unfold most at hmost; rw [Nat.mul_comm]; omega
    have h2 : ((i.bytes * c : Nat) : Int) ≤ 281474976710656 := by rw [hb]; omega
    rwa [Int.natCast_mul] at h2
  have hrun := run_make (P := P) w t e i z hu hi hzz kl kc l c (by omega) (by omega) hbytes (by omega)
  simp only [Int.toNat_natCast, hs] at hrun
  refine newRow_runs hm hn _ (madeCells_VRL hz0 h0 c) _ (fun ρ' b hb => ?_) _ hrun
  simp only [VR]
  exact ⟨_, _, _, hb, ⟨rfl, hlc⟩, .inl rfl, rfl⟩

/-! ### What an append takes -/
theorem src_run (hm : MR P base ρ m w) {esz : Nat} {y : AV} {n : Nat} {cs : List AV} (hs : srcCells m esz y = some (n, cs)) {u : Value} (hv : VR ρ y u) :
    ∃ us, VRL ρ cs us ∧ us.length = n * esz ∧ ∀ w' : World, w'.heap = w.heap → (Builtin.lenOf u).run P w' = .ok n w' ∧ ∀ k, k ≤ n → (Builtin.firstCells esz k u).run P w' = .ok (us.take (k * esz)).toArray w' := by
  unfold srcCells at hs
  split at hs
  · injection hs with hs; injection hs with h1 h2
    subst h1 h2
    simp only [VR] at hv
    subst hv
    refine ⟨[], by simp [VRL], by simp, fun w' _ => ⟨rfl, fun k hk => ?_⟩⟩
    simp [Builtin.firstCells]
  · rename_i b off len cap
    split at hs
    · rename_i cs' hr
      injection hs with hs; injection hs with h1 h2
      subst h1 h2
      simp only [VR] at hv
      obtain ⟨r, a, c', q1, q2, q3, rfl⟩ := hv
      obtain ⟨r', hρ', hlen, _, us, hvr, hul, hus⟩ := hm.read hr
      rw [q1] at hρ'
      injection hρ' with hρ'
      subst hρ'
      refine ⟨us, hvr, hul, fun w' hw' => ⟨rfl, fun k hk => ?_⟩⟩
      have hcell : ∀ a, w'.cell? a = w.cell? a := fun a => by simp [World.cell?, hw']
      rcases q3 with rfl | ⟨q3, _⟩
      · have hl : (us.take (k * esz)).length = k * esz := by
          rw [List.length_take, hul]
          exact Nat.min_eq_left (Nat.mul_le_mul_right _ hk)
        have := run_loadCells P w' ⟨r.cb, r.sh + off, none⟩ (us.take (k * esz)) (fun j u hj => by
          rw [addr_add, hcell]
          rw [List.getElem?_take] at hj
          split at hj
          · exact hus j u hj
          · cases hj)
        rw [hl] at this
        simpa [Builtin.firstCells] using this
      · subst q3
        obtain rfl : k = 0 := by omega
        simp [Builtin.firstCells, loadCells, loadCellsFrom]
    · cases hs
  · rename_i s
    split at hs
    · rename_i hesz
      subst hesz
      injection hs with hs; injection hs with h1 h2
      subst h1 h2
      simp only [VR] at hv
      subst hv
      have hsz : (⟨s.toArray⟩ : ByteArray).size = s.length := by simp [ByteArray.size]
      refine ⟨s.map fun c => .int .u8 c.toNat, VRL.of_get (by simp) fun i a b ha hb => ?_, by simp, fun w' _ => ⟨by simp [Builtin.lenOf, hsz], fun k hk => ?_⟩⟩
      · simp at ha hb
        obtain ⟨x, hx, rfl⟩ := ha
        obtain ⟨y, hy, rfl⟩ := hb
        rw [hx] at hy; injection hy with hy
        simp [VR, hy]
      · simp only [Builtin.firstCells, Sem.run_pure, Nat.mul_one]
        congr 1
        apply Array.ext'
        simp
    · cases hs
  · cases hs

theorem app_room {ts : Array TypeId} {t u' e : TypeId} {esz : Nat} (h0 : ts[0]? = some t) (h1 : ts[1]? = some u') (ht : P.underlying t = some (.slice e)) (hs : sizeIs P e esz = true) (hsrc : srcOk P u' = true) {X : Value} {n : Nat} {us : List Value} (hl : (Builtin.lenOf X).run P w = .ok n w)
    (hf : (Builtin.firstCells esz n X).run P w = .ok us.toArray w) (ty : TypeId) (a : Option Addr) {sLen sCap : Nat} (hr : sLen + n ≤ sCap) {w' : World} (hst : match a with | some a => (storeCells (a.add (sLen * esz)) us).run P w = .ok () w' | none => w' = w) :
    (Builtin.append_ ts ty #[.slice a sLen sCap, X]).run P w = .ok (.slice a (sLen + n) sCap) w' := by
  have hi : ∃ i, P.info? e = some i ∧ i.size = esz := by
    unfold sizeIs at hs
    cases hi : P.info? e with
    | none => simp [hi] at hs
    | some i => simp [hi] at hs; exact ⟨i, rfl, hs⟩
  obtain ⟨i, hi, hsz⟩ := hi
  cases hu : P.underlying u' with
  | none => simp [srcOk, hu] at hsrc
  | some d =>
    cases a with
    | none =>
      simp only at hst
      subst hst
      cases d <;> simp [srcOk, hu] at hsrc <;>
        simp [Builtin.append_, h0, h1, run_underlying ht, run_underlying hu, sizeOf, typeInfo, hi, hsz, hl, hr, hf]
    | some a =>
      simp only at hst
      cases d <;> simp [srcOk, hu] at hsrc <;>
        simp [Builtin.append_, h0, h1, run_underlying ht, run_underlying hu, sizeOf, typeInfo, hi, hsz, hl, hr, hf, hst]
theorem app_grow {ts : Array TypeId} {t u' e : TypeId} {esz bytes : Nat} (h0 : ts[0]? = some t) (h1 : ts[1]? = some u') (ht : P.underlying t = some (.slice e)) {zero : List AV} (hs : sizeIs P e esz = true) (hby : bytesIs P e bytes = true) (hz : zeroOk P e zero = true) (hsrc : srcOk P u' = true) {X : Value} {n : Nat} {us olds : List Value} (hl : (Builtin.lenOf X).run P w = .ok n w)
    (hf : (Builtin.firstCells esz n X).run P w.drew = .ok us.toArray w.drew) (ty : TypeId) (a : Option Addr) {sLen sCap : Nat} (hr : sCap < sLen + n) (hfo : (Builtin.firstCells esz sLen (.slice a sLen sCap)).run P w.drew = .ok olds.toArray w.drew) (hmost : (sLen + n) * bytes ≤ most) (h63 : sLen + n ≤ 9223372036854775807) :
    ∃ rest : List Value, rest.length = (grownCap w (sLen + n) sCap e - (sLen + n)) * esz ∧
    (Builtin.append_ ts ty #[.slice a sLen sCap, X]).run P w = .ok (.slice (some ⟨w.heap.size, 0, none⟩) (sLen + n) (grownCap w (sLen + n) sCap e)) (w.drew.alloc (.cells (olds ++ us ++ rest).toArray e)) := by
  obtain ⟨z, i, hi, hzz, _, hzs, _⟩ := zeroOk_run hz
  have hsz : i.size = esz := by simpa [sizeIs, hi] using hs
  have hb : i.bytes = bytes := by simpa [bytesIs, hi] using hby
  have hn : ¬ (sLen + n ≤ sCap) := by omega
  have h63' : ¬ (9223372036854775807 < ((sLen : Int) + (n : Int))) := by omega
  have hfit := growslice_fits (need := sLen + n) (old := sCap) (bytes := bytes) hr hmost
  have h48' : ¬ (281474976710656 < Builtin.nextslicecap (sLen + n) sCap * bytes) := by omega
  refine ⟨(Builtin.zeroCells z.cells (grownCap w (sLen + n) sCap e - (sLen + n))).toList, by simp [size_zeroCells, ← hzs, hsz], ?_⟩
  have harr : ∀ r : Array Value, (olds ++ us ++ r.toList).toArray = olds.toArray ++ us.toArray ++ r := fun r => by apply Array.ext'; simp
  rw [harr]
  cases hu : P.underlying u' with
  | none => simp [srcOk, hu] at hsrc
  | some d =>
    cases d <;> simp [srcOk, hu] at hsrc <;>
      (simp [Builtin.append_, h0, h1, run_underlying ht, run_underlying hu, sizeOf, typeInfo, zeroValue, hi, hzz, hsz, hb, hl, hn, h63', h48', Question.forced, hf, hfo, Go.newRow, grownCap]
       try (congr 2; apply Array.ext'; simp [List.append_assoc]))

/-! ### append -/
theorem MR.kill (h : MR P base ρ m w) {b : Nat} (hb : m.get b ≠ none) : MR P base ρ (m.set b .dead) w := by
  obtain ⟨o0, ho0⟩ := Option.ne_none_iff_exists'.1 hb
  refine ⟨fun c o hc => ?_, fun c r hc => ?_, h.low, fun b1 b2 cs1 e1 o2 r1 r2 g1 g2 nd q1 q2 hcb => ?_⟩
  · rw [Mem.get_set] at hc
    split at hc
    · rename_i hcb
      subst hcb
      injection hc with hc
      subst hc
      obtain ⟨h1, r, h2, _⟩ := h.dom c o0 ho0
      exact ⟨h1, r, h2, trivial⟩
    · exact h.dom c o hc
  · rw [Mem.get_set]; split
    · simp
    · exact h.used c r hc
  · rw [Mem.get_set] at g1 g2
    split at g1
    · injection g1 with g1; cases g1
    · split at g2
      · injection g2 with g2; exact absurd g2.symm nd
      · exact h.inj b1 b2 cs1 e1 o2 r1 r2 g1 g2 nd q1 q2 hcb

/-- A row that grows where it stands: its number is another one, and the old one is dead. -/
theorem MR.grow (h : MR P base ρ m w) {b off k : Nat} {known : List AV} {e : Nat} (hg : m.get b = some (.live known e true)) {cs : List AV} {b' : Nat} {m' : Mem} (hn : (m.set b .dead).new none ((known.drop off).take k ++ cs) e = some (b', m')) (hk : off + k ≤ known.length) {us : List Value} (hv : VRL ρ cs us)
    {r : Reg} (hr : ρ b = some r) {carr carr' : Array Value} {fr : Nat × Nat} {e' : TypeId} {w' : World} (h0 : w.heap[r.cb]? = some (.cells carr e' fr)) (hu : Upd w w' r.cb carr' e' fr) (hs : carr'.size = carr.size) (hfit : r.sh + off + k + us.length ≤ carr.size)
    (hq : ∀ j, carr'[j]? = if r.sh + off + k ≤ j ∧ j < r.sh + off + k + us.length then us[j - (r.sh + off + k)]? else carr[j]?) :
    ∃ ρ', ρ.le ρ' ∧ ρ' b' = some ⟨r.cb, r.sh + off, r.size, r.esz⟩ ∧ MR P base ρ' m' w' := by
  unfold Mem.new at hn
  split at hn
  case isFalse => cases hn
  rename_i hlv
  simp only at hn
  injection hn with hn
  injection hn with hb' hm'
  subst hb' hm'
  have hbn : (m.set b .dead).next = m.next := rfl
  rw [hbn]
  obtain ⟨hlt, r0, hr0, carr0, e0, fr0, h1, h2, h3, h4, h5⟩ := h.dom b _ hg
  rw [hr] at hr0; injection hr0 with hr0; subst hr0
  rw [h0] at h1; injection h1 with h1; injection h1 with h1 h1e h1f
  subst h1 h1e h1f
  obtain ⟨g1, g2, g3, g4, g5⟩ := h5 rfl
  have hul := hv.length
  have hfree : m.get m.next = none := by
    cases hx : m.get m.next with
    | none => rfl
    | some o => have := (h.dom _ _ hx).1; omega
  let ρ' : Map := fun c => if c = m.next then some ⟨r.cb, r.sh + off, r.size, r.esz⟩ else ρ c
  have hρn : ρ m.next = none := by
    cases hx : ρ m.next with
    | none => rfl
    | some r => exact absurd hfree (h.used _ r hx)
  have hρ : ρ.le ρ' := by
    intro c r hc
    have : c ≠ m.next := fun x => by rw [x, hρn] at hc; cases hc
    simp [ρ', this, hc]
  have hρ'n : ρ' m.next = some ⟨r.cb, r.sh + off, r.size, r.esz⟩ := by simp [ρ']
  have hget : ∀ c, (⟨m.next + 1, (m.set b .dead).t.set m.next (.live ((known.drop off).take k ++ cs) e true)⟩ : Mem).get c = if c = m.next then some (.live ((known.drop off).take k ++ cs) e true) else if c = b then some .dead else m.get c := by
    intro c
    show (((m.set b .dead).t.set m.next _).get c) = _
    rw [T.get_set]
    split
    · rfl
    · exact Mem.get_set ..
  have hlen : ((known.drop off).take k ++ cs).length = k + us.length := by simp; omega
  refine ⟨ρ', hρ, hρ'n, ⟨fun c o hc => ?_, fun c r' hc => ?_, by rw [hu.size]; exact h.low, fun b1 b2 cs1 e1 o2 r1 r2 k1 k2 nd q1 q2 hcb => ?_⟩⟩
  · rw [hget] at hc
    split at hc
    · rename_i hcn
      subst hcn
      injection hc with hc
      subst hc
      refine ⟨Nat.lt_succ_self _, _, hρ'n, carr', _, fr, hu.here, by rw [hlen, hs]; simp; omega, hlv, fun i a ha => ?_, fun _ => ⟨g1, g2, by rw [hs]; exact g3, g4, by rw [hs]; exact g5⟩⟩
      show ∃ u, carr'[r.sh + off + i]? = some u ∧ VR ρ' a u
      by_cases hik : i < k
      · rw [List.getElem?_append_left (by simp; omega), List.getElem?_take, if_pos hik, List.getElem?_drop] at ha
        obtain ⟨u, hu1, hu2⟩ := h4 _ _ ha
        refine ⟨u, ?_, VR.mono hρ _ _ hu2⟩
        rw [hq, if_neg (by omega), Nat.add_assoc]; exact hu1
      · have hkl : ((known.drop off).take k).length = k := by simp; omega
        rw [List.getElem?_append_right (by omega), hkl] at ha
        obtain ⟨u, hu1, hu2⟩ := hv.get _ _ ha
        have hlt' : i - k < us.length := by
          rcases Nat.lt_or_ge (i - k) us.length with x | x
          · exact x
          · rw [List.getElem?_eq_none x] at hu1; cases hu1
        refine ⟨u, ?_, VR.mono hρ _ _ hu2⟩
        rw [hq, if_pos (by omega), show r.sh + off + i - (r.sh + off + k) = i - k by omega]; exact hu1
    · rename_i hcn
      split at hc
      · rename_i hcb
        subst hcb
        injection hc with hc
        subst hc
        exact ⟨Nat.lt_succ_of_lt hlt, r, hρ _ _ hr, trivial⟩
      · rename_i hcb
        obtain ⟨p1, r', p2, p3⟩ := h.dom c o hc
        refine ⟨Nat.lt_succ_of_lt p1, r', hρ _ _ p2, ?_⟩
        cases o with
        | dead => trivial
        | live cs' e'' own' =>
          refine (p3.mono hρ).same (hu.else_ _ fun hx => hcb ?_)
          exact (h.inj b c known e _ r r' hg hc (by simp) hr p2 hx.symm).symm
  · rw [hget]
    split
    · simp
    · rename_i hcn
      split
      · simp
      · exact h.used c r' (by simpa [ρ', hcn] using hc)
  · rw [hget] at k1 k2
    by_cases x1 : b1 = m.next
    · by_cases x2 : b2 = m.next
      · rw [x1, x2]
      · exfalso
        rw [if_neg x2] at k2
        have q2' : ρ b2 = some r2 := by simpa [ρ', x2] using q2
        rw [x1, hρ'n] at q1
        injection q1 with q1
        split at k2
        · injection k2 with k2; exact nd k2.symm
        · rename_i hb2
          exact hb2 (h.inj b b2 known e o2 r r2 hg k2 nd hr q2' (by rw [← hcb, ← q1])).symm
    · rw [if_neg x1] at k1
      have q1' : ρ b1 = some r1 := by simpa [ρ', x1] using q1
      split at k1
      · injection k1 with k1; cases k1
      · rename_i hb1
        by_cases x2 : b2 = m.next
        · exfalso
          rw [x2, hρ'n] at q2
          injection q2 with q2
          exact hb1 (h.inj b1 b cs1 e1 _ r1 r k1 hg (by simp) q1' hr (by rw [hcb, ← q2]))
        · rw [if_neg x2] at k2
          have q2' : ρ b2 = some r2 := by simpa [ρ', x2] using q2
          split at k2
          · injection k2 with k2; exact absurd k2.symm nd
          · exact h.inj b1 b2 cs1 e1 o2 r1 r2 k1 k2 nd q1' q2' hcb

/-- What growing comes to, of a row that is made for it. -/
theorem grow_grow {ts : Array TypeId} {t u' e : TypeId} {kd : IntKind} {esz bytes : Nat} (h0 : ts[0]? = some t) (h1 : ts[1]? = some u') (ht : P.underlying t = some (.slice e)) (hu : P.underlying u' = some (.int kd)) {zero : List AV} (hs : sizeIs P e esz = true) (hby : bytesIs P e bytes = true) (hz : zeroOk P e zero = true) (hpos : 0 < esz) (hbpos : 0 < bytes) {k : IntKind} {n : Nat} (hn0 : 0 < n) (hmost : n * bytes ≤ most) (ty : TypeId) :
    ∃ z rest : List Value, VRL ρ (repCells zero n) z ∧ z.length = n * esz ∧ rest.length = (grownCap w n 0 e - n) * esz ∧
    (Builtin.append_ ts ty #[.slice none 0 0, .int k n]).run P w = .ok (.slice (some ⟨w.heap.size, 0, none⟩) n (grownCap w n 0 e)) (w.drew.alloc (.cells (z ++ rest).toArray e)) := by
  obtain ⟨z, i, hi, hzz, hc, hzs, _⟩ := zeroOk_run hz
  have hsz : i.size = esz := by simpa [sizeIs, hi] using hs
  have hb : i.bytes = bytes := by simpa [bytesIs, hi] using hby
  have hnm : n ≤ most := by
    have : n * 1 ≤ n * bytes := Nat.mul_le_mul_left _ (by omega)
    omega
  have hzl : zero.length = esz := by
    have := (VRL_toArray (cstsOk_VRL ρ _ _ hc)).1
    omega
  have hv := madeCells_VRL (cstsOk_VRL ρ _ _ hc) (by omega) n
  have hzc : Builtin.zeroCells z.cells n = madeCells z.cells (n * z.cells.size) := rfl
  have hfit := growslice_fits (need := n) (old := 0) (bytes := bytes) hn0 hmost
  have h48' : ¬ (281474976710656 < Builtin.nextslicecap n 0 * bytes) := by omega
  have hw : IntKind.i64.wrap (n : Int) = n := by
    unfold most at hnm
    simp only [IntKind.wrap, IntKind.signed, IntKind.bits, IntKind.min, IntKind.max]
    first | omega | (simp; omega)
  have hne : n ≠ 0 := by omega
  have h48 : ¬ (281474976710656 < (n : Int) * (bytes : Int)) := by
    have : n * bytes ≤ 140737488355328 := hmost
    have : ((n * bytes : Nat) : Int) ≤ 140737488355328 := by omega
    rw [Int.natCast_mul] at this
    omega
  refine ⟨(Builtin.zeroCells z.cells n).toList, (Builtin.zeroCells z.cells (grownCap w n 0 e - n)).toList, by rw [hzc]; exact hv, by simp [size_zeroCells, ← hzs, hsz], by simp [size_zeroCells, ← hzs, hsz], ?_⟩
  have harr : ((Builtin.zeroCells z.cells n).toList ++ (Builtin.zeroCells z.cells (grownCap w n 0 e - n)).toList).toArray = Builtin.zeroCells z.cells n ++ Builtin.zeroCells z.cells (grownCap w n 0 e - n) := by apply Array.ext'; simp
  rw [harr]
  have hesz : ¬ (n * esz = 0) := by
    intro h
    rcases Nat.mul_eq_zero.1 h with h | h <;> omega
  have h63 : ¬ (9223372036854775807 < (n : Int)) := by unfold most at hnm; omega
  have hlt : ¬ ((n : Int) < 0) := by omega
  simp [Builtin.append_, h0, h1, run_underlying ht, run_underlying hu, sizeOf, typeInfo, zeroValue, hi, hzz, hsz, hb, hw, hne, hesz, h48, h48', h63, hlt, Question.forced, asInt, asIntOf, Go.newRow, grownCap, Builtin.firstCells]
theorem grow_runs (hm : MR P base ρ m w) {ts : Array TypeId} {t u' e : TypeId} {kd : IntKind} {esz bytes : Nat} {zero : List AV} (h0 : ts[0]? = some t) (h1 : ts[1]? = some u') (hrow : rowOk P t e esz bytes zero = true) (hu : P.underlying u' = some (.int kd)) {x y : AV} {X Y : Value} (hx : VR ρ x X) (hy : VR ρ y Y) (ty : TypeId)
    (h : growOp m e esz bytes zero x y = some (v, m')) : SRuns P base ρ (Builtin.append_ ts ty #[X, Y]) w v m' := by
  unfold rowOk at hrow
  split at hrow
  case h_2 => cases hrow
  rename_i e1 ht
  simp only [Bool.and_eq_true, decide_eq_true_eq] at hrow
  obtain ⟨⟨⟨⟨⟨⟨rfl, hs⟩, hby⟩, hz⟩, hzl⟩, hpos⟩, hbpos⟩ := hrow
  have hcells := sizeIs_cells hs
  unfold growOp at h
  split at h
  · rename_i k hk
    split at h
    · rename_i hb
      split at h
      · rename_i b' m2 hn
        injection h with h; injection h with e2 e3
        subst e2 e3
        simp only [VR] at hx
        subst hx
        unfold natOf at hk
        split at hk
        · rename_i kk nn
          split at hk
          · rename_i hnn
            injection hk with hk
            have hnn : nn = ((k + 1 : Nat) : Int) := by omega
            subst hnn
            simp only [VR] at hy
            subst hy
            obtain ⟨z, rest, hzv, hzl', hrl, hr⟩ := grow_grow (P := P) (ρ := ρ) (w := w) (k := kk) h0 h1 ht hu hs hby hz hpos hbpos (n := k + 1) (by omega) hb ty
            have hge := grownCap_ge w (k + 1) 0 e1
            obtain ⟨ρ', q1, q2, q3⟩ := newMore_runs hm hn hzv rest (0, 0) (by simp) (n := k + 1) (cap := grownCap w (k + 1) 0 e1) (esz := esz) hcells (by
                simp only [List.length_append, hzl', hrl, ← Nat.add_mul]
                congr 1; omega) hge (w' := w.drew.alloc (.cells (z ++ rest).toArray e1)) rfl ((Below.drew' base w).alloc hm.low _)
            exact ⟨_, _, ρ', hr, q1, q2, q3, (Below.drew' base w).alloc hm.low _⟩
          · cases hk
        · cases hk
      · cases h
    · cases h
  · cases h
theorem append_runs (hm : MR P base ρ m w) {ts : Array TypeId} {t u' e : TypeId} {esz bytes : Nat} {zero : List AV} (h0 : ts[0]? = some t) (h1 : ts[1]? = some u') (hrow : rowOk P t e esz bytes zero = true) (hsrc : srcOk P u' = true) {x y : AV} {X Y : Value} (hx : VR ρ x X) (hy : VR ρ y Y) (ty : TypeId)
    (h : appendOp m e esz bytes x y = some (v, m')) : SRuns P base ρ (Builtin.append_ ts ty #[X, Y]) w v m' := by
  unfold rowOk at hrow
  split at hrow
  case h_2 => cases hrow
  rename_i e1 ht
  simp only [Bool.and_eq_true, decide_eq_true_eq] at hrow
  obtain ⟨⟨⟨⟨⟨⟨rfl, hs⟩, hby⟩, hz⟩, hzl⟩, hpos⟩, hbpos⟩ := hrow
  have hcells := sizeIs_cells hs
  unfold appendOp at h
  cases hsrc' : srcCells m esz y with
  | none => simp [hsrc'] at h
  | some q =>
    obtain ⟨n, cs⟩ := q
    simp only [hsrc'] at h
    obtain ⟨us, hv, hul, hrun⟩ := src_run hm hsrc' hy
    have hl := (hrun w rfl).1
    have hf := (hrun w rfl).2 n (Nat.le_refl _)
    have hf' := (hrun w.drew rfl).2 n (Nat.le_refl _)
    rw [← hul, List.take_length] at hf hf'
    have small : ∀ k, k * bytes ≤ most → k ≤ 140737488355328 := fun k hk => by
      have : k * 1 ≤ k * bytes := Nat.mul_le_mul_left _ (by omega)
      unfold most at hk; omega
    -- what growing comes to
    have growing : ∀ (a : Option Addr) (sLen sCap : Nat) (olds : List Value) (old : List AV) (m1 : Mem) (b' : Nat) (m2 : Mem), MR P base ρ m1 w → m1.new none (old ++ cs) e1 = some (b', m2) → VRL ρ old olds → olds.length = sLen * esz → sCap < sLen + n →
        (Builtin.firstCells esz sLen (.slice a sLen sCap)).run P w.drew = .ok olds.toArray w.drew → (sLen + n) * bytes ≤ most → sLen + n ≤ 9223372036854775807 → SRuns P base ρ (Builtin.append_ ts ty #[.slice a sLen sCap, Y]) w (.sl b' 0 (sLen + n) (.more esz)) m2 := by
      intro a sLen sCap olds old m1 b' m2 hm1 hn ho hol hlt hfo hb h63
      obtain ⟨rest, hrl, hr⟩ := app_grow (P := P) h0 h1 ht hs hby hz hsrc hl hf' ty a hlt hfo hb h63
      have hge := grownCap_ge w (sLen + n) sCap e1
      obtain ⟨ρ', q1, q2, q3⟩ := newMore_runs hm1 hn (ho.append hv) rest (0, 0) (by simp) (n := sLen + n) (cap := grownCap w (sLen + n) sCap e1) (esz := esz) hcells (by
          simp only [List.length_append, hol, hul, hrl, ← Nat.add_mul]
          congr 1; omega) hge (w' := w.drew.alloc (.cells (olds ++ us ++ rest).toArray e1)) rfl ((Below.drew' base w).alloc hm.low _)
      exact ⟨_, _, ρ', hr, q1, q2, q3, (Below.drew' base w).alloc hm.low _⟩
    split at h
    · -- onto nil
      simp only [VR] at hx
      subst hx
      split at h
      · rename_i hn0
        subst hn0
        injection h with h; injection h with e2 e3
        subst e2 e3
        refine .same hm (.slice none 0 0) ?_ (by simp [VR])
        exact app_room (P := P) h0 h1 ht hs hsrc hl hf ty none (sLen := 0) (sCap := 0) (by omega) rfl
      · rename_i hn0
        split at h
        · rename_i hb
          split at h
          · rename_i b' m2 hn
            injection h with h; injection h with e2 e3
            subst e2 e3
            have := growing none 0 0 [] [] m b' m2 hm hn (by simp [VRL]) (by simp) (by omega) (by simp [Builtin.firstCells]) (by simpa using hb) (by have := small n hb; omega)
            simpa using this
          · cases h
        · cases h
    · -- onto a row
      rename_i b off len cap
      have hx0 := hx
      simp only [VR] at hx
      obtain ⟨r, a, c', q1, q2, q3, rfl⟩ := hx
      have hlc : len ≤ c' := by cases cap <;> simp [capR] at q2 <;> omega
      split at h
      · rename_i hn0
        subst hn0
        injection h with h; injection h with e2 e3
        subst e2 e3
        have hus0 : us = [] := List.eq_nil_of_length_eq_zero (by simpa using hul)
        subst hus0
        refine .same hm (.slice (some a) len c') ?_ hx0
        have := app_room (P := P) h0 h1 ht hs hsrc hl hf ty (some a) (sLen := len) (sCap := c') (by omega) (w' := w) rfl
        simpa using this
      · rename_i hn0
        -- in its own room
        have place : len + n ≤ c' → ∀ m1, m.write b (off + len * esz) cs = some m1 → SRuns P base ρ (Builtin.append_ ts ty #[.slice (some a) len c', Y]) w (.sl b off (len + n) cap) m1 := by
          intro hle m1 hw
          rcases q3 with rfl | ⟨q3, q4⟩
          · obtain ⟨w', p1, p2, p3⟩ := store_runs hm hw hv q1
            refine ⟨.slice (some ⟨r.cb, r.sh + off, none⟩) (len + n) c', w', ρ, ?_, ρ.le_refl, ?_, p2, p3⟩
            · exact app_room (P := P) h0 h1 ht hs hsrc hl hf ty (some _) hle (by show (storeCells ((⟨r.cb, r.sh + off, none⟩ : Addr).add (len * esz)) us).run P w = .ok () w'; rw [addr_add, Nat.add_assoc]; exact p1)
            · simp only [VR]
              exact ⟨r, _, _, q1, by cases cap <;> simp [capR] at q2 ⊢ <;> omega, .inl rfl, rfl⟩
          · rcases q4 with q4 | q4
            · omega
            · subst q4
              exfalso
              split at h <;> first | cases h | skip
              all_goals first | (rename_i hh; cases hh) | skip
        split at h
        · rename_i c
          simp only [capR] at q2
          obtain ⟨rfl, q2⟩ := q2
          split at h
          · rename_i hle
            split at h
            · rename_i m1 hw
              injection h with h; injection h with e2 e3
              subst e2 e3
              exact place hle _ hw
            · cases h
          · rename_i hle
            split at h
            · rename_i hb
              split at h
              · rename_i old hr
                split at h
                · rename_i b' m2 hn
                  injection h with h; injection h with e2 e3
                  subst e2 e3
                  obtain ⟨us', hv', hul', hrun'⟩ := src_run (esz := esz) (n := len) (cs := old) hm (y := .sl b off len (.exact c')) (by simp [srcCells, hr]) hx0
                  have hfo := (hrun' w.drew rfl).2 len (Nat.le_refl _)
                  rw [← hul', List.take_length] at hfo
                  exact growing (some a) len c' us' old m b' m2 hm hn hv' hul' (by omega) hfo hb (by have := small _ hb; omega)
                · cases h
              · cases h
            · cases h
        · rename_i z
          simp only [capR] at q2
          obtain ⟨rfl, q2, q2'⟩ := q2
          split at h
          · rename_i known e' hg
            split at h
            · rename_i hc
              obtain ⟨rfl, hz', hb, hk⟩ := hc
              obtain ⟨_, r0, hr0, carr, e0, fr, g1, g2, g3, g4, g5⟩ := hm.dom b _ hg
              rw [q1] at hr0; injection hr0 with hr0; subst hr0
              obtain ⟨k1, k2, k3, k4, k5⟩ := g5 rfl
              subst hz'
              split at h
              · rename_i hin
                split at h
                · rename_i m1 hw
                  injection h with h; injection h with e2 e3
                  subst e2 e3
                  refine place ?_ _ hw
                  have h2 : (len + n) * r.esz ≤ c' * r.esz := by omega
                  exact Nat.le_of_mul_le_mul_right h2 hpos
                · cases h
              · rename_i hin
                split at h
                · rename_i b' m2 hn
                  injection h with h; injection h with e2 e3
                  subst e2 e3
                  by_cases hle : len + n ≤ c'
                  · -- it grows where it stands
                    rcases q3 with rfl | ⟨q3, q4⟩
                    · have hmul : (len + n) * r.esz ≤ c' * r.esz := Nat.mul_le_mul_right _ hle
                      rw [Nat.add_mul] at hmul
                      have hlv : ∀ u ∈ us, u.oneCell' = true := by
                        have hl1 : leaves ((known.drop off).take (len * r.esz) ++ cs) = true := by
                          unfold Mem.new at hn
                          split at hn
                          · assumption
                          · cases hn
                        intro u hu
                        obtain ⟨i, hi⟩ := List.getElem?_of_mem hu
                        have hlt : i < cs.length := by
                          rcases Nat.lt_or_ge i us.length with x | x
                          · have := hv.length; omega
                          · rw [List.getElem?_eq_none x] at hi; cases hi
                        obtain ⟨u1, hu1, hvu⟩ := hv.get i cs[i] (by simp [hlt])
                        rw [hi] at hu1; injection hu1 with hu1; subst hu1
                        exact leaf_oneCell hvu (leaves_all hl1 _ (by simp))
                      obtain ⟨w', carr', p1, p2, p3, p4⟩ := run_storeCells_block P r.cb e0 fr us (r.sh + off + len * r.esz) 0 carr w g1 (by rw [hul]; omega) (fun j hj => by have := k5 j hj; omega) hlv
                      simp only [Nat.add_zero] at p4
                      obtain ⟨ρ', s1, s2, s3⟩ := hm.grow hg hn hk hv q1 g1 p2 p3 (by rw [hul]; omega) p4
                      refine ⟨.slice (some ⟨r.cb, r.sh + off, none⟩) (len + n) c', w', ρ', ?_, s1, ?_, s3, ⟨p2.os, p2.tape, p2.output, Nat.le_of_eq p2.size.symm, fun j hj => p2.else_ j (by omega)⟩⟩
                      · exact app_room (P := P) h0 h1 ht hs hsrc hl hf ty (some _) hle (by show (storeCells ((⟨r.cb, r.sh + off, none⟩ : Addr).add (len * r.esz)) us).run P w = .ok () w'; rw [addr_add]; exact p1)
                      · simp only [VR]
                        refine ⟨_, _, _, s2, ⟨rfl, ?_, hle⟩, .inl rfl, rfl⟩
                        simp only
                        omega
                    · rcases q4 with q4 | q4
                      · omega
                      · cases q4
                  · -- it is laid anew
                    have hrd : m.read b off (len * r.esz) = some ((known.drop off).take (len * r.esz)) := by
                      unfold Mem.read
                      simp only [hg, if_pos hk]
                    obtain ⟨us', hv', hul', hrun'⟩ := src_run (esz := r.esz) (n := len) (cs := (known.drop off).take (len * r.esz)) hm (y := .sl b off len (.more r.esz)) (by simp [srcCells, hrd]) hx0
                    have hfo := (hrun' w.drew rfl).2 len (Nat.le_refl _)
                    rw [← hul', List.take_length] at hfo
                    exact growing (some a) len c' us' _ (m.set b .dead) b' m2 (hm.kill (by simp [hg])) hn hv' hul' (by omega) hfo hb (by have := small _ hb; omega)
                · cases h
            · cases h
          · cases h
        · cases h
    · cases h
end
end Go.Proofs.Ytljkkfcokpimkaa.X
