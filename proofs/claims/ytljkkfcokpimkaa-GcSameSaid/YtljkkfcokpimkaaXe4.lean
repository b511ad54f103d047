/- All operations of the plain machine in one theorem: the model does them, with the same value and the same memory; a call is a call. -/
import Derived.Test.YtljkkfcokpimkaaXe3
set_option linter.unusedVariables false
set_option linter.unusedSimpArgs false
namespace Go.Proofs.Ytljkkfcokpimkaa.X
open Go Go.RowKit

/-- A call of the plain machine is a call of the model's. -/
def CallSound (P : Program) (base : Nat) (call : CallF) : Prop :=
  ∀ f args m r m', call f args m = some (r, m') → callOk P f = true ∧ ∀ ρ w args', VRL ρ args args' → MR P base ρ m w →
    Calls P f args'.toArray w fun e w' => ∃ ρ' u, ρ.le ρ' ∧ e = .returned u ∧ VR ρ' r u ∧ MR P base ρ' m' w' ∧ Below base w w'

section
variable {P : Program} {base : Nat} {ρ : Map} {m m' : Mem} {w : World} {v : AV}

/-- Memory whose block's end is marked is the same memory. -/
theorem MR.frz (hm : MR P base ρ m w) {c e : Nat} {carr : Array Value} {fr : Nat × Nat} (h : w.heap[c]? = some (.cells carr e fr)) : MR P base ρ m (w.freeze ⟨c, carr.size, none⟩ 1) := by
  have hh : ∀ k, (w.freeze ⟨c, carr.size, none⟩ 1).heap[k]? = if k = c then some (.cells carr e (if fr.1 == fr.2 then (carr.size, carr.size + 1) else (min fr.1 carr.size, max fr.2 (carr.size + 1)))) else w.heap[k]? := by
    intro k
    simp only [World.freeze, Nat.one_ne_zero, if_false, Array.getElem?_modify]
    by_cases q : c = k
    · subst q; simp only [if_true, h, Option.map_some]
    · rw [if_neg q, if_neg (fun e => q e.symm)]
  have hsz : (w.freeze ⟨c, carr.size, none⟩ 1).heap.size = w.heap.size := by simp [World.freeze]
  refine ⟨fun b o hb => ?_, hm.used, by rw [hsz]; exact hm.low, hm.inj⟩
  obtain ⟨h1, r, h2, h3⟩ := hm.dom b o hb
  refine ⟨h1, r, h2, ?_⟩
  by_cases q : r.cb = c
  · cases o with
    | dead => trivial
    | live cs e' own =>
      obtain ⟨carr', e'', fr', k1, k2, k3, k4, k5⟩ := h3
      rw [q, h] at k1
      injection k1 with k1; injection k1 with k1 k1' k1''
      subst k1 k1' k1''
      refine ⟨carr, e, _, by rw [hh, if_pos q], k2, k3, k4, fun ho => ?_⟩
      obtain ⟨z1, z2, z3, z4, z5⟩ := k5 ho
      refine ⟨z1, z2, z3, z4, fun i hi => ?_⟩
      have := z5 i hi
      by_cases s : fr.1 = fr.2
      · simp [s, hi]
      · have s' : (fr.1 == fr.2) = false := by simpa using s
        simp only [s']
        left
        show i < min fr.1 carr.size
        rcases this with t | t
        · omega
        · exact absurd t s
  · exact h3.same (by rw [hh, if_neg q])
theorem keep_runs (hm : MR P base ρ m w) {s d : TypeId} (hc : convOk P s d .keep = true) {b off len : Nat} {c : Cap} {u : Value} (hx : VR ρ (.sl b off len c) u) {cs : List AV} {e : Nat} (hg : m.get b = some (.live cs e true)) (hl : 0 < len) : SRuns P base ρ (convert s d u) w (.sl b off len c) m := by
  have hx' := hx
  simp only [VR] at hx
  obtain ⟨r, a, c', q1, q2, q3, rfl⟩ := hx
  obtain ⟨_, r', p1, p2⟩ := hm.dom b _ hg
  rw [q1] at p1; injection p1 with p1; subst p1
  obtain ⟨carr, e', fr, k1, k2, k3, k4, k5⟩ := p2
  obtain ⟨z1, z2, z3, z4, z5⟩ := k5 rfl
  have ha : a.block = r.cb := by
    rcases q3 with rfl | ⟨q3, _⟩
    · rfl
    · omega
  unfold convOk at hc
  cases hs : P.underlying s with
  | none => simp [hs] at hc
  | some ds =>
    cases hd : P.underlying d with
    | none => cases ds <;> simp [hs, hd] at hc
    | some dd =>
      cases ds <;> cases dd <;> simp [hs, hd] at hc
      rename_i e1 e2
      obtain ⟨rfl, hc⟩ := hc
      cases he : P.underlying e2 with
      | none => simp [he] at hc
      | some de =>
        cases de <;> simp [he] at hc
        rename_i k
        cases k <;> simp at hc
        have hse : e1 = e2 := by rw [hs] at hd; injection hd with hd; injection hd
        subst hse
        refine ⟨_, w.freeze ⟨r.cb, carr.size, none⟩ 1, ρ, ?_, ρ.le_refl, hx', hm.frz k1, ?_⟩
        · have hsh : w.heap[a.block]? = some (.cells carr e' fr) := by rw [ha]; exact k1
          simp [convert, run_underlying hs, run_underlying hd, run_underlying he, markStringish, World.shape?, hsh, ha, k1]
        · refine ⟨rfl, rfl, rfl, by simp [World.freeze], fun k hk => ?_⟩
          simp only [World.freeze, Nat.one_ne_zero, if_false, Array.getElem?_modify]
          rw [if_neg (by omega)]
theorem clear_runs (hm : MR P base ρ m w) {ts : Array TypeId} {t e : TypeId} (h0 : ts[0]? = some t) (ht : P.underlying t = some (.slice e)) {zero : List AV} (hz : zeroOk P e zero = true) (hzp : 0 < zero.length) {x : AV} {X : Value} (hx : VR ρ x X) (ty : TypeId) {call : CallF} {b0 : Nat} {tm : List AV} {o : Opd} (ho : o.eval tm = x)
    (h : evOp call b0 tm m (.clear zero o) = some (v, m')) : SRuns P base ρ (Builtin.clear_ ts ty #[X]) w v m' := by
  simp only [evOp, ho] at h
  have hud : VR ρ .undef (Value.tuple #[]) := by simp [VR]
  split at h
  · injection h with h; injection h with e1 e2
    subst e1 e2
    simp only [VR] at hx
    subst hx
    exact .same hm (.tuple #[]) (by simp [Builtin.clear_, h0, run_underlying ht]) hud
  · rename_i b off len cap
    simp only [VR] at hx
    obtain ⟨r, a, c', q1, q2, q3, rfl⟩ := hx
    split at h
    · rename_i hl0
      injection h with h; injection h with e1 e2
      subst e1 e2 hl0
      exact .same hm (.tuple #[]) (by simp [Builtin.clear_, h0, run_underlying ht]) hud
    · rename_i hl0
      split at h
      · rename_i m1 hw
        injection h with h; injection h with e1 e2
        subst e1 e2
        obtain ⟨z, i, hi, hzz, hc, hzs, hr⟩ := zeroOk_run hz
        have hv := madeCells_VRL (cstsOk_VRL ρ _ _ hc) hzp len
        rcases q3 with rfl | ⟨q3, _⟩
        · obtain ⟨w', p1, p2, p3⟩ := store_runs hm hw hv q1
          refine ⟨.tuple #[], w', ρ, ?_, ρ.le_refl, hud, p2, p3⟩
          have hzc : Builtin.zeroCells z.cells len = madeCells z.cells (len * z.cells.size) := rfl
          obtain ⟨k, rfl⟩ : ∃ k, len = k + 1 := ⟨len - 1, by omega⟩
          rw [← hzc] at p1
          simp [Builtin.clear_, h0, run_underlying ht, hr, p1]
        · exact absurd q3 hl0
      · cases h
  · cases h
theorem copy_runs (hm : MR P base ρ m w) {ts : Array TypeId} {t e : TypeId} {esz : Nat} (h0 : ts[0]? = some t) (ht : P.underlying t = some (.slice e)) (hs : sizeIs P e esz = true) {x y : AV} {X Y : Value} (hx : VR ρ x X) (hy : VR ρ y Y) (ty : TypeId) {call : CallF} {b0 : Nat} {tm : List AV} {o p : Opd} (ho : o.eval tm = x) (hp : p.eval tm = y)
    (h : evOp call b0 tm m (.copy esz o p) = some (v, m')) : SRuns P base ρ (Builtin.copy_ ts ty #[X, Y]) w v m' := by
  simp only [evOp, ho, hp] at h
  split at h
  · rename_i q hq
    injection h with h; injection h with e1 e2
    subst e1 e2
    simp only [VR] at hx
    subst hx
    obtain ⟨n, cs⟩ := q
    obtain ⟨us, hv, hul, hrun⟩ := src_run hm hq hy
    have hl := (hrun w rfl).1
    have hf := (hrun w rfl).2 0 (Nat.zero_le _)
    refine .same hm (.int .i64 0) ?_ (by simp [VR])
    have hmin : Nat.min n 0 = 0 := by simp
    simp [Builtin.copy_, h0, run_underlying ht, hl, hmin, sizeIs_run hs, hf, goInt]
  · rename_i b off len cap n cs hq
    simp only [VR] at hx
    obtain ⟨r, a, c', q1, q2, q3, rfl⟩ := hx
    obtain ⟨us, hv, hul, hrun⟩ := src_run hm hq hy
    have hl := (hrun w rfl).1
    have hf := (hrun w rfl).2 (min n len) (Nat.min_le_left _ _)
    have hmin : Nat.min n len = min n len := rfl
    split at h
    · rename_i hk
      injection h with h; injection h with e1 e2
      subst e1 e2
      rw [hk] at hf
      refine .same hm (.int .i64 0) ?_ (by simp [VR])
      simp [Builtin.copy_, h0, run_underlying ht, hl, hmin, hk, sizeIs_run hs, hf, goInt, storeCells]
    · rename_i hk
      split at h
      · rename_i m1 hw
        injection h with h; injection h with e1 e2
        subst e1 e2
        rcases q3 with rfl | ⟨q3, _⟩
        · obtain ⟨w', p1, p2, p3⟩ := store_runs hm hw (hv.take (min n len * esz)) q1
          refine ⟨.int .i64 (min n len : Nat), w', ρ, ?_, ρ.le_refl, by simp [VR], p2, p3⟩
          simp [Builtin.copy_, h0, run_underlying ht, hl, hmin, sizeIs_run hs, hf, goInt, p1]
        · subst q3
          simp at hk
      · cases h
  · cases h
theorem min_runs : ∀ (l : List AV) (x : AV), minInt x l = some v → ∀ (X : Value) (us : List Value), VR ρ x X → VRL ρ l us → ∃ u, (us.foldlM Builtin.min2 X).run P w = .ok u w ∧ VR ρ v u
  | [], x, h, X, us, hx, hl => by
    simp only [minInt] at h
    injection h with h
    subst h
    simp [VRL] at hl
    subst hl
    exact ⟨X, by simp, hx⟩
  | y :: l, x, h, X, us, hx, hl => by
    cases x <;> try (simp [minInt] at h; done)
    cases y <;> try (simp [minInt] at h; done)
    rename_i k a k' b
    simp only [minInt] at h
    split at h
    · rename_i hk
      subst hk
      simp only [VRL] at hl
      obtain ⟨u, us, rfl, hu, hl⟩ := hl
      simp only [VR] at hx hu
      subst hx hu
      obtain ⟨u', h1, h2⟩ := min_runs l _ h (.int k (if b < a then b else a)) us (by simp [VR]) hl
      exact ⟨u', by simp [List.foldlM_cons, Builtin.min2, h1], h2⟩
    · cases h
theorem max_runs : ∀ (l : List AV) (x : AV), maxInt x l = some v → ∀ (X : Value) (us : List Value), VR ρ x X → VRL ρ l us → ∃ u, (us.foldlM Builtin.max2 X).run P w = .ok u w ∧ VR ρ v u
  | [], x, h, X, us, hx, hl => by
    simp only [maxInt] at h
    injection h with h
    subst h
    simp [VRL] at hl
    subst hl
    exact ⟨X, by simp, hx⟩
  | y :: l, x, h, X, us, hx, hl => by
    cases x <;> try (simp [maxInt] at h; done)
    cases y <;> try (simp [maxInt] at h; done)
    rename_i k a k' b
    simp only [maxInt] at h
    split at h
    · rename_i hk
      subst hk
      simp only [VRL] at hl
      obtain ⟨u, us, rfl, hu, hl⟩ := hl
      simp only [VR] at hx hu
      subst hx hu
      obtain ⟨u', h1, h2⟩ := max_runs l _ h (.int k (if a < b then b else a)) us (by simp [VR]) hl
      exact ⟨u', by simp [List.foldlM_cons, Builtin.max2, h1], h2⟩
    · cases h

theorem optV_of {tm : List AV} {a : Act} (ht : VRL ρ tm a.tmps.toList) {x : Option Operand} {x' : Option Opd} (h : okOpt x x' = true) : optV ρ (x'.map (·.eval tm)) (x.map a.eval) := by
  cases x with
  | none => cases x' <;> simp [okOpt] at h; simp [optV]
  | some x =>
    cases x' with
    | none => simp [okOpt] at h
    | some x' => simp only [okOpt] at h; simpa [optV] using opd_VR ht h

theorem callOk_run {f : FuncId} (h : callOk P f = true) (args : Array Value) : (callFunc f args).run P w = .ok (.enter f args) w := by
  unfold callOk at h
  cases hf : P.funcs[f]? with
  | none => simp [hf] at h
  | some fn =>
    simp [hf] at h
    obtain ⟨h1, h2⟩ := h
    simp [callFunc, hf, h1]
    intro hb
    simp [hb] at h2

/-- An operation of the plain machine. -/
theorem op_runs {call : CallF} (hcall : CallSound P base call) {tm : List AV} {a : Act} (ht : VRL ρ tm a.tmps.toList) (hm : MR P base ρ m w) {o : Oper} {io : IOp} (hok : okOp P o.op io = true) {b0 : Nat} (he : evOp call b0 tm m io = some (v, m')) :
    ORuns P base ρ (execOp a.eval o) w v m' ∨ ∃ f args, (execOp a.eval o).run P w = .ok (.enter f args) w ∧ Calls P f args w fun e w' => ∃ ρ' u, ρ.le ρ' ∧ e = .returned u ∧ VR ρ' v u ∧ MR P base ρ' m' w' ∧ Below base w w' := by
  have pureV : ∀ (s : Sem Value), (execOp a.eval o) = (do pure (.value (← s))) → ∀ u, m' = m → s.run P w = .ok u w → VR ρ v u → ORuns P base ρ (execOp a.eval o) w v m' := by
    intro s hs u hmm hr hv
    subst hmm
    rw [hs]
    exact (SRuns.same hm u hr hv).val
  by_cases hopc : ∃ c, o.op = .call c
  · -- call
    obtain ⟨c, hop⟩ := hopc
    rw [hop] at hok
    simp only [okOp] at hok
    obtain ⟨callee, cargs, ats⟩ := c
    have harr : ∀ l : List Operand, cargs.toList = l → cargs.map a.eval = (l.map a.eval).toArray := fun l hl => by
      apply Array.ext'; simp [hl]
    cases callee with
    | invoke r n => simp at hok
    | builtin b =>
      have run1 : ∀ (s : Sem Value) (l : List Operand), cargs.toList = l → (∀ consts, builtin b ats o.type consts (l.map a.eval).toArray = (do pure (.value (← s)))) → execOp a.eval o = (do pure (.value (← s))) := by
        intro s l hl hb
        have := harr l hl
        simp [execOp, hop, resolve, invoke, this, hb]
      simp only at hok
      left
      cases io <;> simp only [builtinOk, Bool.and_eq_true, decide_eq_true_eq, Bool.false_eq_true] at hok
      case app e esz bytes zero x y =>
        obtain ⟨rfl, hok⟩ := hok
        split at hok
        · rename_i x' y' hl
          simp only [Bool.and_eq_true] at hok
          obtain ⟨⟨hx, hy⟩, hr⟩ := hok
          split at hr
          · rename_i t u h0 h1
            simp only [Bool.and_eq_true] at hr
            simp only [evOp] at he
            have hs := (append_runs hm h0 h1 hr.1 hr.2 (opd_VR ht hx) (opd_VR ht hy) o.type he).val
            rw [run1 (Builtin.append_ ats o.type #[a.eval x', a.eval y']) _ hl (fun _ => rfl)]
            exact hs
          · cases hr
        · cases hok
      case grow e esz bytes zero x y =>
        obtain ⟨rfl, hok⟩ := hok
        split at hok
        · rename_i x' y' hl
          simp only [Bool.and_eq_true] at hok
          obtain ⟨⟨hx, hy⟩, hr⟩ := hok
          split at hr
          · rename_i t u h0 h1
            simp only [Bool.and_eq_true] at hr
            obtain ⟨hr1, hr2⟩ := hr
            simp only [evOp] at he
            cases hu : P.underlying u with
            | none => simp [hu] at hr2
            | some d =>
              cases d <;> simp [hu] at hr2
              have hs := (grow_runs hm h0 h1 hr1 hu (opd_VR ht hx) (opd_VR ht hy) o.type he).val
              rw [run1 (Builtin.append_ ats o.type #[a.eval x', a.eval y']) _ hl (fun _ => rfl)]
              exact hs
          · cases hr
        · cases hok
      case clear zero x =>
        obtain ⟨rfl, hok⟩ := hok
        split at hok
        · rename_i x' hl
          simp only [Bool.and_eq_true] at hok
          obtain ⟨hx, hr⟩ := hok
          cases h0 : ats[0]? with
          | none => simp [h0] at hr
          | some t =>
            cases hu : P.underlying t with
            | none => simp [h0, hu] at hr
            | some d =>
              cases d <;> simp [h0, hu] at hr
              have hs := (clear_runs hm h0 hu hr.1 hr.2 (opd_VR ht hx) o.type rfl he).val
              rw [run1 (Builtin.clear_ ats o.type #[a.eval x']) _ hl (fun _ => rfl)]
              exact hs
        · cases hok
      case copy esz x y =>
        obtain ⟨rfl, hok⟩ := hok
        split at hok
        · rename_i x' y' hl
          simp only [Bool.and_eq_true] at hok
          obtain ⟨⟨hx, hy⟩, hr⟩ := hok
          cases h0 : ats[0]? with
          | none => simp [h0] at hr
          | some t =>
            cases hu : P.underlying t with
            | none => simp [h0, hu] at hr
            | some d =>
              cases d <;> simp [h0, hu] at hr
              have hs := (copy_runs hm h0 hu hr.1 (opd_VR ht hx) (opd_VR ht hy) o.type rfl rfl he).val
              rw [run1 (Builtin.copy_ ats o.type #[a.eval x', a.eval y']) _ hl (fun _ => rfl)]
              exact hs
        · cases hok
      case len str x =>
        obtain ⟨rfl, hok⟩ := hok
        split at hok
        · rename_i x' hl
          simp only [Bool.and_eq_true] at hok
          obtain ⟨hx, hr⟩ := hok
          have hx := opd_VR ht hx
          have hex := run1 (Builtin.len_ ats o.type #[a.eval x']) _ hl (fun _ => rfl)
          cases h0 : ats[0]? with
          | none => simp [h0] at hr
          | some t =>
            cases hu : P.underlying t with
            | none => simp [h0, hu] at hr
            | some d =>
              cases str with
              | true =>
                cases d <;> simp [h0, hu] at hr
                simp only [evOp] at he
                split at he
                · rename_i s hv
                  injection he with he; injection he with e1 e2
                  subst e1 e2
                  rw [hv] at hx
                  simp only [VR] at hx
                  refine pureV _ hex (.int .i64 s.length) rfl ?_ (by simp [VR])
                  have hsz : (⟨s.toArray⟩ : ByteArray).size = s.length := by simp [ByteArray.size]
                  simp [Builtin.len_, h0, run_underlying hu, hx, goInt, hsz]
                · cases he
              | false =>
                cases d <;> simp [h0, hu] at hr
                simp only [evOp] at he
                split at he
                · rename_i hv
                  injection he with he; injection he with e1 e2
                  subst e1 e2
                  rw [hv] at hx
                  simp only [VR] at hx
                  exact pureV _ hex (.int .i64 0) rfl (by simp [Builtin.len_, h0, run_underlying hu, hx, goInt]) (by simp [VR])
                · rename_i b off n cap hv
                  injection he with he; injection he with e1 e2
                  subst e1 e2
                  rw [hv] at hx
                  simp only [VR] at hx
                  obtain ⟨_, _, _, _, _, _, hx⟩ := hx
                  exact pureV _ hex (.int .i64 n) rfl (by simp [Builtin.len_, h0, run_underlying hu, hx, goInt]) (by simp [VR])
                · cases he
        · cases hok
      case cap x =>
        obtain ⟨rfl, hok⟩ := hok
        split at hok
        · rename_i x' hl
          simp only [Bool.and_eq_true] at hok
          obtain ⟨hx, hr⟩ := hok
          have hx := opd_VR ht hx
          have hex := run1 (Builtin.cap_ ats o.type #[a.eval x']) _ hl (fun _ => rfl)
          cases h0 : ats[0]? with
          | none => simp [h0] at hr
          | some t =>
            cases hu : P.underlying t with
            | none => simp [h0, hu] at hr
            | some d =>
              cases d <;> simp [h0, hu] at hr
              simp only [evOp] at he
              split at he
              · rename_i hv
                injection he with he; injection he with e1 e2
                subst e1 e2
                rw [hv] at hx
                simp only [VR] at hx
                exact pureV _ hex (.int .i64 0) rfl (by simp [Builtin.cap_, h0, run_underlying hu, hx, goInt]) (by simp [VR])
              · rename_i b off n c hv
                injection he with he; injection he with e1 e2
                subst e1 e2
                rw [hv] at hx
                simp only [VR] at hx
                obtain ⟨_, _, c', _, hc, _, hx⟩ := hx
                simp only [capR] at hc
                obtain ⟨rfl, _⟩ := hc
                exact pureV _ hex (.int .i64 c') rfl (by simp [Builtin.cap_, h0, run_underlying hu, hx, goInt]) (by simp [VR])
              · cases he
        · cases hok
      case mn l =>
        obtain ⟨rfl, hok⟩ := hok
        have hl := opds_VR ht hok
        simp only [evOp] at he
        split at he
        · rename_i y ys hy
          obtain ⟨e1, rfl⟩ := pureOp_some he
          rw [hy] at hl
          simp only [VRL] at hl
          obtain ⟨u, us, hus, hu, hl⟩ := hl
          obtain ⟨u', h1, h2⟩ := min_runs (P := P) (w := w) ys y e1 u us hu hl
          refine pureV (Builtin.min_ ats o.type (cargs.toList.map a.eval).toArray) (run1 _ _ rfl (fun _ => rfl)) u' rfl ?_ h2
          simp [Builtin.min_, hus, h1]
        · cases he
      case mx l =>
        obtain ⟨rfl, hok⟩ := hok
        have hl := opds_VR ht hok
        simp only [evOp] at he
        split at he
        · rename_i y ys hy
          obtain ⟨e1, rfl⟩ := pureOp_some he
          rw [hy] at hl
          simp only [VRL] at hl
          obtain ⟨u, us, hus, hu, hl⟩ := hl
          obtain ⟨u', h1, h2⟩ := max_runs (P := P) (w := w) ys y e1 u us hu hl
          refine pureV (Builtin.max_ ats o.type (cargs.toList.map a.eval).toArray) (run1 _ _ rfl (fun _ => rfl)) u' rfl ?_ h2
          simp [Builtin.max_, hus, h1]
        · cases he
    | value f =>
      right
      have go : ∀ (g : Nat) (first captured : List AV) (F C : List Value), a.eval f = .func (.func g) F.toArray C.toArray → VRL ρ first F → VRL ρ captured C → ∀ (args : List Opd), okOpds cargs.toList args = true → call g (first ++ args.map (·.eval tm) ++ captured) m = some (v, m') →
          ∃ f args, (execOp a.eval o).run P w = .ok (.enter f args) w ∧ Calls P f args w fun e w' => ∃ ρ' u, ρ.le ρ' ∧ e = .returned u ∧ VR ρ' v u ∧ MR P base ρ' m' w' ∧ Below base w w' := by
        intro g first captured F C hf h1 h2 args ha hc
        obtain ⟨k1, k2⟩ := hcall _ _ _ _ _ hc
        refine ⟨g, _, ?_, k2 ρ w (F ++ cargs.toList.map a.eval ++ C) ((h1.append (opds_VR ht ha)).append h2) hm⟩
        have hrun := callOk_run (w := w) k1 (F ++ cargs.toList.map a.eval ++ C).toArray
        have hex : execOp a.eval o = callFunc g (F ++ cargs.toList.map a.eval ++ C).toArray := by
          have e1 : F.toArray ++ cargs.map a.eval ++ C.toArray = (F ++ cargs.toList.map a.eval ++ C).toArray := by apply Array.ext'; simp
          simp [execOp, hop, resolve, hf, Deferred.ofValue, invoke]
          congr 1
          apply Array.ext'
          simp
        rw [hex]; exact hrun
      cases io <;> simp only at hok <;> try (cases hok; done)
      case call g args =>
        simp only [Bool.and_eq_true] at hok
        simp only [evOp] at he
        have hf := opd_VR ht hok.1
        simp only [Opd.eval, VR, VRL] at hf
        obtain ⟨F, C, rfl, rfl, hf⟩ := hf
        exact go g [] [] [] [] hf (by simp [VRL]) (by simp [VRL]) args hok.2 (by simpa using he)
      case callv x args =>
        simp only [Bool.and_eq_true] at hok
        simp only [evOp] at he
        have hf := opd_VR ht hok.1
        split at he
        · rename_i g first captured hv
          rw [hv] at hf
          simp only [VR] at hf
          obtain ⟨F, C, h1, h2, hf⟩ := hf
          exact go g first captured F C hf h1 h2 args hok.2 he
        · cases he
  unfold okOp at hok
  split at hok
  · -- move
    rename_i x x' hop
    simp only [evOp] at he
    injection he with he; injection he with e1 e2
    subst e1 e2
    left
    exact .same hm (a.eval x) (by simp [execOp, hop]) (opd_VR ht hok)
  · -- assign
    rename_i x x' hop
    simp only [evOp] at he
    injection he with he; injection he with e1 e2
    subst e1 e2
    left
    exact .same hm (a.eval x) (by simp [execOp, hop]) (opd_VR ht hok)
  · -- pick
    rename_i c x y c' x' y' hop
    simp only [Bool.and_eq_true] at hok
    simp only [evOp] at he
    left
    have hc := opd_VR ht hok.1.1
    split at he
    · rename_i t hct
      injection he with he; injection he with e1 e2
      subst e1 e2
      rw [hct] at hc
      simp only [VR] at hc
      refine .same hm (if t then a.eval x else a.eval y) (by simp [execOp, hop, hc, asBool]) ?_
      cases t
      · exact opd_VR ht hok.2
      · exact opd_VR ht hok.1.2
    · cases he
  · -- alloc
    rename_i e s e' zs hop
    simp only [Bool.and_eq_true, decide_eq_true_eq] at hok
    obtain ⟨rfl, hz⟩ := hok
    simp only [evOp] at he
    left
    have hs := (al_runs hm hz he).val
    have : execOp a.eval o = (do pure (.value (← Instr.alloc e true (.tuple #[])))) := by simp [execOp, hop]
    rw [this]; exact hs
  · -- box
    rename_i e x s e' x' hop
    simp only [Bool.and_eq_true, decide_eq_true_eq] at hok
    obtain ⟨rfl, hx⟩ := hok
    simp only [evOp] at he
    left
    have hs := (bx_runs hm (opd_VR ht hx) he).val
    have : execOp a.eval o = (do pure (.value (← Instr.box e (a.eval x)))) := by simp [execOp, hop]
    rw [this]; exact hs
  · -- build
    rename_i t ps tpl ps' hop
    simp only [Bool.and_eq_true] at hok
    simp only [evOp] at he
    obtain ⟨e1, rfl⟩ := pureOp_some he
    cases hf : fillParts tm tpl ps' with
    | none => simp [hf] at e1
    | some cs =>
      simp [hf] at e1
      subst e1
      obtain ⟨u, h1, h2⟩ := build_runs (w := w) ht hok.1 hok.2 hf
      left
      exact pureV _ (by simp [execOp, hop]) u rfl h1 h2
  · -- buildSlice
    rename_i t len ps s e tpl len' ps' hop
    simp only [evOp] at he
    split at he
    · rename_i cs hf
      left
      have hs := (mksl_runs hm ht hok hf he).val
      have : execOp a.eval o = (do pure (.value (← Instr.buildSlice t len (ps.map fun (i, x) => (i, a.eval x))))) := by simp [execOp, hop]
      rw [this]; exact hs
    · cases he
  · -- load
    rename_i t x n x' hop
    simp only [Bool.and_eq_true] at hok
    have hx := opd_VR ht hok.2
    left
    have hex : execOp a.eval o = (do pure (.value (← Instr.loadAt t (a.eval x)))) := by simp [execOp, hop]
    cases n with
    | none =>
      simp only [evOp] at he
      split at he
      · rename_i b off hv
        split at he
        · rename_i c hr
          injection he with he; injection he with e1 e2
          subst e1 e2
          rw [hv] at hx
          rw [hex]
          exact (ld_runs hm hok.1 (n := none) hr rfl hx).val
        · cases he
      · cases he
    | some n =>
      simp only [evOp] at he
      split at he
      · rename_i b off hv
        split at he
        · rename_i cs hr
          injection he with he; injection he with e1 e2
          subst e1 e2
          rw [hv] at hx
          rw [hex]
          exact (ld_runs hm hok.1 (n := some n) hr rfl hx).val
        · cases he
      · cases he
  · -- store
    rename_i t x y n x' y' hop
    simp only [Bool.and_eq_true] at hok
    have hx := opd_VR ht hok.1.2
    have hy := opd_VR ht hok.2
    simp only [evOp] at he
    left
    split at he
    · rename_i b off hv
      split at he
      · rename_i hl
        split at he
        · rename_i m1 hw
          injection he with he; injection he with e1 e2
          subst e1 e2
          rw [hv] at hx
          obtain ⟨w', h1, h2, h3⟩ := st_runs hm hok.1.1 hx hy hl hw
          exact ⟨.skip, undef, w', ρ, by simp [execOp, hop, h1], .inr ⟨rfl, rfl⟩, ρ.le_refl, by simp [VR, undef], h2, h3⟩
        · cases he
      · cases he
    · cases he
  · -- nilCheck
    rename_i x x' hop
    have hx := opd_VR ht hok
    simp only [evOp] at he
    left
    split at he
    · rename_i b off hv
      injection he with he; injection he with e1 e2
      subst e1 e2
      rw [hv] at hx
      have hx' := hx
      simp only [VR] at hx
      obtain ⟨r, q1, q2⟩ := hx
      exact .same hm (a.eval x) (by simp [execOp, hop, q2]) hx'
    · rename_i f x1 x2 hv
      injection he with he; injection he with e1 e2
      subst e1 e2
      rw [hv] at hx
      have hx' := hx
      simp only [VR] at hx
      obtain ⟨y1, y2, _, _, q2⟩ := hx
      exact .same hm (a.eval x) (by simp [execOp, hop, q2]) hx'
    · cases he
  · -- binOp
    rename_i op t x y yt op' kd x' y' hop
    simp only [Bool.and_eq_true, decide_eq_true_eq] at hok
    obtain ⟨⟨⟨rfl, hk⟩, hx⟩, hy⟩ := hok
    simp only [evOp] at he
    obtain ⟨e1, rfl⟩ := pureOp_some he
    obtain ⟨u, h1, h2⟩ := bin_run (w := w) (X := x) (Y := y) e1 hk (opd_VR ht hx) (opd_VR ht hy)
    left
    exact pureV _ (by simp [execOp, hop]) u rfl h1 h2
  · -- unOp
    rename_i op t x op' x' hop
    simp only [Bool.and_eq_true, decide_eq_true_eq] at hok
    obtain ⟨rfl, hx⟩ := hok
    simp only [evOp] at he
    obtain ⟨e1, rfl⟩ := pureOp_some he
    obtain ⟨u, h1, h2⟩ := un_run (P := P) (w := w) e1 (opd_VR ht hx)
    left
    exact pureV _ (by simp [execOp, hop]) u rfl h1 h2
  · -- convert
    rename_i s d x sl c x' hop
    simp only [Bool.and_eq_true] at hok
    obtain ⟨hc, hx⟩ := hok
    have hx := opd_VR ht hx
    left
    have hex : execOp a.eval o = (do pure (.value (← convert s d (a.eval x)))) := by simp [execOp, hop]
    cases c with
    | toInt k =>
      simp only [evOp] at he
      split at he
      · rename_i k' n hv
        injection he with he; injection he with e1 e2
        subst e1 e2
        rw [hv] at hx
        simp only [VR] at hx
        cases hs : P.underlying s with
        | none => simp [convOk, hs] at hc
        | some ds =>
          cases hd : P.underlying d with
          | none => cases ds <;> simp [convOk, hs, hd] at hc
          | some dd =>
            cases ds <;> cases dd <;> simp [convOk, hs, hd] at hc
            subst hc
            exact pureV _ hex (.int k (k.wrap n)) rfl (by simp [convert, run_underlying hs, run_underlying hd, hx, Conv.intToInt]) (by simp [VR])
      · cases he
    | same =>
      simp only [evOp] at he
      split at he
      · rename_i l hv
        injection he with he; injection he with e1 e2
        subst e1 e2
        rw [hv] at hx
        have hx' := hx
        simp only [VR] at hx
        cases hs : P.underlying s with
        | none => simp [convOk, hs] at hc
        | some ds =>
          cases hd : P.underlying d with
          | none => cases ds <;> simp [convOk, hs, hd] at hc
          | some dd =>
            cases ds <;> cases dd <;> simp [convOk, hs, hd] at hc
            exact pureV _ hex (a.eval x) rfl (by simp [convert, run_underlying hs, run_underlying hd, hx]) hx'
      · cases he
    | keep =>
      simp only [evOp] at he
      split at he
      · rename_i b off len c hv
        split at he
        · rename_i cs e hg
          split at he
          · rename_i hl
            injection he with he; injection he with e1 e2
            subst e1 e2
            rw [hv] at hx
            rw [hex]
            exact (keep_runs hm hc hx hg hl).val
          · cases he
        · cases he
      · cases he
    | b2s =>
      obtain ⟨rfl, u, h1, h2⟩ := b2s_runs hm hc hx rfl he
      exact pureV _ hex u rfl h1 h2
    | s2b e =>
      simp only [evOp] at he
      split at he
      · rename_i l hv
        rw [hv] at hx
        rw [hex]
        exact (s2b_runs hm hc hx he).val
      · cases he
  · -- makeFunc
    rename_i f first cap f' first' cap' hop
    simp only [Bool.and_eq_true, decide_eq_true_eq] at hok
    obtain ⟨⟨rfl, h1⟩, h2⟩ := hok
    simp only [evOp] at he
    injection he with he; injection he with e1 e2
    subst e1 e2
    left
    refine .same hm (.func (.func f) (first.map a.eval) (cap.map a.eval)) (by simp [execOp, hop, Instr.makeFunc]) ?_
    simp only [VR]
    exact ⟨_, _, opds_VR ht h1, opds_VR ht h2, by
      rw [show first.map a.eval = (first.toList.map a.eval).toArray by apply Array.ext'; simp, show cap.map a.eval = (cap.toList.map a.eval).toArray by apply Array.ext'; simp]⟩
  · -- makeSlice
    rename_i t l c s e zero bytes l' c' hop
    simp only [Bool.and_eq_true] at hok
    obtain ⟨⟨hl, hc⟩, hr⟩ := hok
    simp only [evOp] at he
    left
    cases hu : P.underlying t with
    | none => simp [hu] at hr
    | some d =>
      cases d <;> simp [hu] at hr
      obtain ⟨⟨⟨rfl, hby⟩, hz⟩, hzp⟩ := hr
      split at he
      · rename_i ln cn hln hcn
        split at he
        · rename_i hle
          obtain ⟨kl, e1⟩ := natOf_VR hln (opd_VR ht hl)
          obtain ⟨kc, e2⟩ := natOf_VR hcn (opd_VR ht hc)
          have hs := (mks_runs hm hu hby hz hzp hle.1 hle.2.1 hle.2.2 he kl kc).val
          have : execOp a.eval o = (do pure (.value (← Instr.makeSlice t (.int kl (ln : Int)) (.int kc (cn : Int))))) := by simp [execOp, hop, e1, e2]
          rw [this]; exact hs
        · cases he
      · cases he
  · -- slice
    rename_i t x lo hi mx k x' lo' hi' mx' hop
    simp only [Bool.and_eq_true] at hok
    obtain ⟨⟨⟨⟨hk, hx⟩, hlo⟩, hhi⟩, hmx⟩ := hok
    simp only [evOp] at he
    obtain ⟨e1, rfl⟩ := pureOp_some he
    obtain ⟨u, h1, h2⟩ := sli_runs (P := P) (w := w) hk e1 (opd_VR ht hx) (optV_of ht hlo) (optV_of ht hhi) (optV_of ht hmx)
    left
    exact pureV _ (by simp [execOp, hop]) u rfl h1 h2
  · -- fieldAddr
    rename_i s x i off x' hop
    simp only [Bool.and_eq_true] at hok
    obtain ⟨hx, hr⟩ := hok
    have hx := opd_VR ht hx
    simp only [evOp] at he
    left
    split at he
    · rename_i b o' hv
      injection he with he; injection he with e1 e2
      subst e1 e2
      rw [hv] at hx
      cases hu : P.underlying s with
      | none => simp [hu] at hr
      | some d =>
        cases d <;> simp [hu] at hr
        rename_i fs
        cases hf : fs[i]? with
        | none => simp [hf] at hr
        | some f =>
          cases hj : P.info? f.type with
          | none => simp [hf, hj] at hr
          | some j =>
            simp [hf, hj] at hr
            obtain ⟨u, h1, h2⟩ := fa_runs (P := P) (w := w) hu hf hr.1 hj hr.2 hx
            exact pureV _ (by simp [execOp, hop]) u rfl h1 h2
    · cases he
  · -- field
    rename_i t x i off n x' hop
    simp only [Bool.and_eq_true] at hok
    obtain ⟨hx, hr⟩ := hok
    have hx := opd_VR ht hx
    simp only [evOp] at he
    left
    split at he
    · rename_i cs hv
      obtain ⟨e1, rfl⟩ := pureOp_some he
      rw [hv] at hx
      cases hu : P.underlying t with
      | none => simp [hu] at hr
      | some d =>
        cases d <;> simp [hu] at hr
        rename_i fs
        cases hf : fs[i]? with
        | none => simp [hf] at hr
        | some f =>
          simp [hf] at hr
          obtain ⟨u, h1, h2⟩ := fld_runs (P := P) (w := w) hu hf hr.1 hr.2 e1 hx
          exact pureV _ (by simp [execOp, hop]) u rfl h1 h2
    · cases he
  · -- indexAddr
    rename_i t x i arr esz x' i' hop
    simp only [Bool.and_eq_true] at hok
    obtain ⟨⟨hx, hi⟩, hr⟩ := hok
    have hx := opd_VR ht hx
    have hi := opd_VR ht hi
    left
    cases arr with
    | none =>
      simp only [evOp] at he
      split at he
      · rename_i b off len cap k n hv hn
        split at he
        · rename_i hlt
          injection he with he; injection he with e1 e2
          subst e1 e2
          rw [hv] at hx
          rw [hn] at hi
          cases hu : P.underlying t with
          | none => simp [hu] at hr
          | some d =>
            cases d <;> simp [hu] at hr
            obtain ⟨u, h1, h2⟩ := ia_runs_sl (P := P) (w := w) hu hr hlt.1 hlt.2 hx hi
            exact pureV _ (by simp [execOp, hop]) u rfl h1 h2
        · cases he
      · cases he
    | some ln =>
      simp only [evOp] at he
      split at he
      · rename_i b off k n hv hn
        split at he
        · rename_i hlt
          injection he with he; injection he with e1 e2
          subst e1 e2
          rw [hv] at hx
          rw [hn] at hi
          cases hu : P.underlying t with
          | none => simp [hu] at hr
          | some d =>
            cases d <;> simp [hu] at hr
            obtain ⟨rfl, hr⟩ := hr
            obtain ⟨u, h1, h2⟩ := ia_runs_arr (P := P) (w := w) hu hr hlt.1 hlt.2 hx hi
            exact pureV _ (by simp [execOp, hop]) u rfl h1 h2
        · cases he
      · cases he
  · -- index
    rename_i t x i arr x' i' hop
    simp only [Bool.and_eq_true] at hok
    obtain ⟨⟨hx, hi⟩, hr⟩ := hok
    have hx := opd_VR ht hx
    have hi := opd_VR ht hi
    left
    cases arr with
    | none =>
      simp only [evOp] at he
      split at he
      · rename_i s k n hv hn
        split at he
        · rename_i hlt
          split at he
          · rename_i c hc
            injection he with he; injection he with e1 e2
            subst e1 e2
            rw [hv] at hx
            rw [hn] at hi
            cases hu : P.underlying t with
            | none => simp [hu] at hr
            | some d =>
              cases d <;> simp [hu] at hr
              obtain ⟨u, h1, h2⟩ := ix_runs_str (P := P) (w := w) hu hlt hc hx hi
              exact pureV _ (by simp [execOp, hop]) u rfl h1 h2
          · cases he
        · cases he
      · cases he
    | some q =>
      obtain ⟨ln, esz, kk⟩ := q
      simp only [evOp] at he
      split at he
      · rename_i cs k n hv hn
        split at he
        · rename_i hlt
          obtain ⟨e1, rfl⟩ := pureOp_some he
          rw [hv] at hx
          rw [hn] at hi
          cases hu : P.underlying t with
          | none => simp [hu] at hr
          | some d =>
            cases d <;> simp [hu] at hr
            obtain ⟨⟨rfl, hr⟩, hr2⟩ := hr
            obtain ⟨u, h1, h2⟩ := ix_runs_arr (P := P) (w := w) hu hr hr2 hlt.1 hlt.2 e1 hx hi
            exact pureV _ (by simp [execOp, hop]) u rfl h1 h2
        · cases he
      · cases he
  · -- extract
    rename_i x i x' i' hop
    simp only [Bool.and_eq_true, decide_eq_true_eq] at hok
    obtain ⟨rfl, hx⟩ := hok
    have hx := opd_VR ht hx
    simp only [evOp] at he
    left
    split at he
    · rename_i l hv
      obtain ⟨e1, rfl⟩ := pureOp_some he
      rw [hv] at hx
      obtain ⟨u, h1, h2⟩ := ext_runs (P := P) (w := w) e1 hx
      exact pureV _ (by simp [execOp, hop]) u rfl h1 h2
    · cases he
  · rename_i hop
    exact absurd ⟨_, hop⟩ hopc
  · cases hok
end
end Go.Proofs.Ytljkkfcokpimkaa.X
