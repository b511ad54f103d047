/- The library's sort does what is asked. -/
import Derived.Test.YtdljelicbnjfjaaGreatYf
import Derived.Test.YtdljelicbnjfjaaGreatYq0
set_option linter.unusedVariables false
set_option linter.unusedSimpArgs false
set_option maxRecDepth 100000
namespace Go.Proofs.YtdljelicbnjfjaaGreat.X
open Go Go.RowKit Go.Sort

def S1 : Sp := ⟨161, 119, 4, some 26, some 64⟩
theorem ints_VRL {ρ : Map} : ∀ {cs : List AV} {zs : List Int} {us : List Value}, intsOf cs = some zs → VRL ρ cs us → us = zs.map (Value.int .i64)
  | [], zs, us, h, hv => by
    simp only [intsOf] at h
    injection h with h; subst h
    simpa [VRL] using hv
  | .int .i64 n :: l, zs, us, h, hv => by
    simp only [intsOf] at h
    split at h
    · rename_i r hr
      injection h with h; subst h
      simp only [VRL, VR] at hv
      obtain ⟨y, ys, rfl, rfl, hv⟩ := hv
      rw [ints_VRL hr hv]; rfl
    · cases h
theorem VRL_ints {ρ : Map} : ∀ (zs : List Int), VRL ρ (zs.map fun n => .int .i64 n) (zs.map (Value.int .i64))
  | [] => by simp [VRL]
  | z :: zs => by
    simp only [List.map_cons, VRL, VR]
    exact ⟨_, _, rfl, rfl, VRL_ints zs⟩
theorem sortOk : SortOk Tryz.prog 64 := by
  refine ⟨by kernel_rfl, fun base ρ m w args args' r m' h ha hm => ?_⟩
  have nothing : ∀ (p : Option Addr) (cap : Nat), Calls Tryz.prog 64 #[.slice p 0 cap] w fun e w' => AV.tup [] = .tup [] ∧ e = .returned (.tuple #[]) ∧ MR Tryz.prog base ρ m w' ∧ Below base w w' := fun p cap => by
    have c := Any.slices_Sort_int_none Tryz.laysSort p cap w
    refine Calls.mono c ?_
    rintro e w' ⟨rfl, rfl⟩
    exact ⟨rfl, rfl, hm, Below.refl _ _⟩
  unfold evSort at h
  split at h
  · injection h with h; injection h with h2 h3
    subst h2 h3
    simp only [VRL, VR] at ha
    obtain ⟨u, us, rfl, rfl, rfl⟩ := ha
    exact nothing none 0
  · rename_i b off len cap
    simp only [VRL] at ha
    obtain ⟨u, us, rfl, hu, rfl⟩ := ha
    have hu' := hu
    simp only [VR] at hu
    obtain ⟨rg, a, c', q1, q2, q3, rfl⟩ := hu
    split at h
    · rename_i h0
      subst h0
      injection h with h; injection h with h2 h3
      subst h2 h3
      exact nothing (some a) c'
    · rename_i h0
      split at h
      · rename_i hlt
        split at h
        · rename_i cs hr
          split at h
          · rename_i zs hz
            split at h
            · rename_i m1 hw
              injection h with h; injection h with h2 h3
              subst h2 h3
              obtain ⟨r', hρ', hlen, _, us, hvr, hul, hus⟩ := hm.read hr
              rw [q1] at hρ'
              injection hρ' with hρ'
              subst hρ'
              have hu2 := ints_VRL hz hvr
              have hzl : zs.length = len := by
                have := congrArg List.length hu2
                simp at this; omega
              rcases q3 with rfl | ⟨q3, _⟩
              · have hw0 := hw
                unfold Mem.write at hw
                split at hw
                · rename_i known e0 hg
                  split at hw
                  · rename_i hle
                    obtain ⟨_, r0, hr0, carr, e', fr, h1, h2, h3, h4, h5⟩ := hm.dom b _ hg
                    rw [q1] at hr0
                    injection hr0 with hr0
                    subst hr0
                    obtain ⟨hb, he, _, _, hfr⟩ := h5 rfl
                    have hsl : (sorted zs).length = len := by unfold sorted; simp [hzl]
                    have hroom : rg.sh + off + len ≤ carr.size := by
                      have := hle.1
                      simp [hsl] at this
                      omega
                    have hH : Holds (Value.int .i64) w rg.cb (rg.sh + off) zs.toArray := by
                      intro j hj
                      have hj' : j < zs.length := by simpa using hj
                      refine ⟨?_, ?_⟩
                      · have := hus j (.int .i64 zs[j]) (by rw [hu2]; simp [hj'])
                        rw [this]
                        simp [hj']
                      · have := hfr (rg.sh + off + j) (by omega)
                        simp only [World.frozen?, h1, Bool.and_eq_false_iff, decide_eq_false_iff_not]
                        omega
                    have c := Any.slices_Sort_int Tryz.laysSort rg.cb (rg.sh + off) c' zs w hH (Array.getElem?_eq_some_iff.1 h1).1 (by rw [hzl]; exact hlt)
                    rw [hzl] at c
                    refine Calls.mono c ?_
                    rintro e w' ⟨rfl, n, os, rfl⟩
                    have hupd : Upd w (putRow (Value.int .i64) (Sort.ahead w n) rg.cb (rg.sh + off) (sorted zs).toArray) rg.cb (putCells (Value.int .i64) (rg.sh + off) (sorted zs).toArray carr) e' fr := by
                      refine ⟨?_, fun k hk => ?_, by simp, rfl, rfl, rfl⟩
                      · simp [putRow, mapBlock, Sort.ahead, Array.getElem?_modify, h1, onCells]
                      · simp [putRow, mapBlock, Sort.ahead, Array.getElem?_modify, show rg.cb ≠ k from fun e => hk e.symm]
                    have hmr := hm.write hw0 (VRL_ints (sorted zs)) q1 h1 hupd (by simp [putCells]) (fun k => by
                      simp only [putCells, Array.getElem?_mapIdx, List.length_map, hsl, List.size_toArray]
                      by_cases hk : rg.sh + off ≤ k ∧ k < rg.sh + off + len
                      · rw [if_pos hk]
                        have hkc : k < carr.size := by omega
                        have hks : k - (rg.sh + off) < (sorted zs).length := by omega
                        simp [hkc, hk, hks]
                      · rw [if_neg hk]
                        cases hc : carr[k]? with
                        | none => rfl
                        | some x => simp only [Option.map_some]; rw [if_neg hk])
                    have hbl : ∀ B, B ≤ (putRow (Value.int .i64) (Sort.ahead w n) rg.cb (rg.sh + off) (sorted zs).toArray).heap.size → Below B (putRow (Value.int .i64) (Sort.ahead w n) rg.cb (rg.sh + off) (sorted zs).toArray) (Go.Sort.grow (putRow (Value.int .i64) (Sort.ahead w n) rg.cb (rg.sh + off) (sorted zs).toArray) os) := fun B hB =>
                      ⟨rfl, rfl, rfl, by simp, fun k hk => heap_grow_old _ _ (by omega)⟩
                    have hsz : (putRow (Value.int .i64) (Sort.ahead w n) rg.cb (rg.sh + off) (sorted zs).toArray).heap.size = w.heap.size := by simp
                    refine ⟨rfl, rfl, hmr.below (hbl _ (Nat.le_refl _)), Below.trans ?_ (hbl base (by rw [hsz]; exact hm.low))⟩
                    exact ⟨rfl, rfl, rfl, Nat.le_of_eq hsz.symm, fun k hk => hupd.else_ k (by omega)⟩
                  · cases hw
                · cases hw
              · exact absurd q3 h0
            · cases h
          · cases h
        · cases h
      · cases h
  · cases h
end Go.Proofs.YtdljelicbnjfjaaGreat.X
