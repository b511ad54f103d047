/- What the law needs (2): the plain machine, functions' contracts, plain facts; put together out of texts of one's own. -/
import Derived.Test.YtdljelicbnjfjaaGreatS8A
set_option linter.unusedVariables false
set_option linter.unusedSimpArgs false
set_option maxRecDepth 100000
namespace Go.Proofs.YtdljelicbnjfjaaGreat.X
open Go Go.RowKit
abbrev O4 (pv : Value) : List PanicEntry:=[{ v:=pv,recovered:=false }]
def FI (P : Program) (base : Nat) (pv : Value) (callP : HJ) : Prop:=
 ∀ f args m m',callP f args m = some m' -> E0 P f = true /\ ∀ ρ w args',VRL ρ args args' -> MR P base ρ m w ->
  Calls P f args'.toArray w fun e w'=>∃ ρ',ρ.le ρ' /\ e = .panicked (O4 pv) /\ MR P base ρ' m' w' /\ Below base w w'
section
variable {P : Program} {base : Nat} {ρ : Map} {w0 w : World} {a : Act} {call : BN} {callP : HJ} {pv : Value}
theorem V9 (hcall : FI P base pv callP) {tm : List AV} (ht : VRL ρ tm a.tmps.toList) {m m' : Mem} (hm : MR P base ρ m w) {o : Oper} {g : Nat} {args : List Opd} (hok : QM P o.op (.call g args) = true) (hc : callP g (args.map (·.eval tm)) m = some m') :
  ∃ f as1,(execOp a.eval o).run P w = .ok (.enter f as1) w /\ Calls P f as1 w fun e w'=>∃ ρ',ρ.le ρ' /\ e = .panicked (O4 pv) /\ MR P base ρ' m' w' /\ Below base w w':=by
 cases hop : o.op
 case call c=>
  rw [hop] at hok
  simp only [QM] at hok
  obtain ⟨callee,cargs,ats⟩:=c
  cases callee with
  | invoke r n=>simp at hok
  | builtin b=>simp [MO] at hok
  | value f=>
   simp only [Bool.and_eq_true] at hok
   have hf:=BD ht hok.1
   simp only [Opd.eval,VR,VRL] at hf
   obtain ⟨F,C,rfl,rfl,hf⟩:=hf
   obtain ⟨k1,k2⟩:=hcall _ _ _ _ hc
   refine ⟨g,_,?_,k2 ρ w (cargs.toList.map a.eval) (IJ ht hok.2) hm⟩
   have hrun:=IU (w:=w) k1 (cargs.toList.map a.eval).toArray
   have hex : execOp a.eval o = callFunc g (cargs.toList.map a.eval).toArray:=by
    simp [execOp,hop,resolve,hf,Deferred.ofValue,invoke]
    congr 1
    apply Array.ext'
    simp
   rw [hex]; exact hrun
 all_goals (rw [hop] at hok; simp [QM] at hok)
theorem NO (hcall : FI P base pv callP) {ops : Array Oper} {i : Nat} {o : Oper} {st : Step} (ho : ops[i]? = some o) (hok : KG P ops o st = true) {s : St} (hs : Rl P base ρ w0 s a w) (hw : CA s.tm st.guard = true) {g : Nat} {args : List Opd} (hop : st.op = .call g args)
  {m' : Mem} (hc : callP g (args.map (·.eval s.tm)) s.m = some m') {Q : Exit -> Act -> World -> Prop} {K : Act -> World -> Prop}
  (hQ : ∀ ρ' a' w',ρ.le ρ' -> a'.defers = [] -> MR P base ρ' m' w' -> Below base w0 w' -> Q (.panic (O4 pv)) a' w') : wpOp P ops Q i K a w:=by
 simp only [KG,Bool.and_eq_true,Bool.or_eq_true] at hok
 obtain ⟨⟨h1,h2⟩,h3⟩:=hok
 have h1 : QM P o.op st.op = true:=by
  rcases h1 with h1 | h1
  ·rw [hop] at h1; cases h1
  ·exact h1
 have hw':=RI h3 hs.tm o rfl
 unfold wpOp
 simp only [ho,hw',hw,if_true]
 refine .inl ?_
 rw [hop] at h1
 obtain ⟨f,as1,r1,r2⟩:=V9 hcall hs.tm hs.mr h1 hc
 unfold Oper.wp
 rw [r1]
 refine Calls.mono r2 ?_
 rintro e w' ⟨ρ',q1,rfl,q4,q5⟩
 exact hQ ρ' a w' q1 hs.df q4 (hs.bel.trans q5)
theorem PF (hcall : D5 P base call) (hcp : FI P base pv callP) {ops : Array Oper} {b : Nat} {Q : Exit -> Act -> World -> Prop} : ∀ (k : Nat) (l : List Oper) (steps : List Step) (ρ : Map) (s : St) (n : Nat) (m' : Mem) (a : Act) (w : World),ops.toList.drop k = l -> JZ P ops l steps = true -> Rl P base ρ w0 s a w ->
  DC call callP b steps s = some (n,m') -> (∀ ρ' a' w',ρ.le ρ' -> a'.defers = [] -> MR P base ρ' m' w' -> Below base w0 w' -> Q (.panic (O4 pv)) a' w') -> wpOps P ops Q ((List.range ops.size).drop k) a w
 | k,[],[],ρ,s,n,m',a,w,hl,_,hs,he,hQ=>by simp [DC] at he
 | k,[],st :: steps,ρ,s,n,m',a,w,hl,hok,hs,he,hQ=>by simp [JZ] at hok
 | k,o :: l,[],ρ,s,n,m',a,w,hl,hok,hs,he,hQ=>by simp [JZ] at hok
 | k,o :: l,st :: steps,ρ,s,n,m',a,w,hl,hok,hs,he,hQ=>by
  simp only [JZ,Bool.and_eq_true] at hok
  have hk : k < ops.size:=by
   have:=congrArg List.length hl
   simp at this; omega
  have hcons:=List.drop_eq_getElem_cons (l:=ops.toList) (i:=k) (by simpa using hk)
  rw [hcons] at hl
  injection hl with hl1 hl2
  have ho : ops[k]? = some o:=by rw [<- hl1]; simp [hk]
  rw [List.drop_eq_getElem_cons (by simpa using hk),List.getElem_range,wpOps_cons]
  simp only [DC] at he
  have go : ∀ v m1,(if CA s.tm st.guard then A1 call b s.tm s.m st.op = some (v,m1) else v = .undef /\ m1 = s.m) -> DC call callP b steps ⟨put s.tm st.dst v,m1⟩ = some (n,m') -> wpOp P ops Q k (wpOps P ops Q ((List.range ops.size).drop (k + 1))) a w:=fun v m1 g1 g2=>
   NA hcall ho hok.1 hs g1 fun ρ' a' w' hρ hr=>
    PF hcall hcp (k + 1) l steps ρ' _ n m' a' w' hl2 hok.2 hr g2 fun ρ'' a'' w'' hρ'=>hQ ρ'' a'' w'' (Map.le_trans hρ hρ')
  split at he
  ·rename_i hw
   split at he
   ·rename_i v m1 hv
    split at he
    ·exact go v m1 (by rw [if_pos hw]; exact hv) he
    ·cases he
   ·split at he
    ·rename_i g args hop
     split at he
     ·rename_i m2 hcpx
      injection he with he; injection he with e1 e2
      subst e2
      exact NO hcp ho hok.1 hs hw hop hcpx hQ
     ·cases he
    ·cases he
  ·rename_i hw
   exact go .undef s.m (by rw [if_neg hw]; exact ⟨rfl,rfl⟩) he
theorem I5 {b : Nat} : ∀ (l : List Step) (s : St) (n : Nat) (m' : Mem),DC call callP b l s = some (n,m') ->
  ∃ pre x post s1 g args,l = pre ++ x :: post /\ post.length = n /\ A9 call b pre s = some s1 /\ CA s1.tm x.guard = true /\ x.op = .call g args /\ callP g (args.map (·.eval s1.tm)) s1.m = some m'
 | [],s,n,m',h=>by simp [DC] at h
 | i :: l,s,n,m',h=>by
  simp only [DC] at h
  split at h
  ·rename_i hw
   split at h
   ·rename_i v m1 he
    split at h
    ·rename_i hk
     obtain ⟨pre,x,post,s1,g,args,h1,h2,h3,h4,h5,h6⟩:=I5 l _ _ _ h
     exact ⟨i :: pre,x,post,s1,g,args,by rw [h1]; rfl,h2,by simp only [A9,hw,if_true,he,hk]; exact h3,h4,h5,h6⟩
    ·cases h
   ·split at h
    ·rename_i g args hop
     split at h
     ·rename_i m2 hc
      injection h with h; injection h with e1 e2
      subst e1 e2
      exact ⟨[],i,l,s,g,args,rfl,rfl,rfl,hw,hop,hc⟩
     ·cases h
    ·cases h
  ·rename_i hw
   obtain ⟨pre,x,post,s1,g,args,h1,h2,h3,h4,h5,h6⟩:=I5 l _ _ _ h
   exact ⟨i :: pre,x,post,s1,g,args,by rw [h1]; rfl,h2,by simp only [A9,hw,if_false,Bool.false_eq_true]; exact h3,h4,h5,h6⟩
theorem TL {ops : Array Oper} {anc : List (List Nat)} (hback : (List.range ops.size).all (IK ops) = true) {L : List (Nat × Step)} : ∀ (x : Nat × Step) (rem : List (Nat × Step)) (listed : Array Bool),RD P ops anc L listed (x :: rem) -> x.1 ∈ Region.ready .any ops listed:=by
 intro x rem listed hl
 have hok:=hl.ok x (by simp)
 unfold R1 at hok
 cases ho : ops[x.1]? with
 | none=>simp [ho] at hok
 | some o=>
  have hlt : x.1 < ops.size:=(Array.getElem?_eq_some_iff.1 ho).1
  refine mem_ready.2 ⟨(hl.lst _ hlt).2 (by simp),o,ho,fun e he hb=>?_⟩
  have hbk:=List.all_eq_true.1 hback x.1 (by simpa using hlt)
  simp only [IK,ho] at hbk
  have hbk2:=Array.all_eq_true_iff_forall_mem.1 hbk e he
  simp only [hb,Bool.not_true,Bool.false_or,decide_eq_true_eq] at hbk2
  have hlt' : e.on < ops.size:=by omega
  have hnot : e.on ∉ (x :: rem).map (·.1):=by
   intro hm
   simp only [List.map_cons,List.mem_cons,List.mem_map] at hm
   rcases hm with hm | ⟨y,hy,hym⟩
   ·omega
   ·have hp:=List.rel_of_pairwise_cons hl.pairs hy
    simp only [FB,ho,Bool.and_eq_true] at hp
    have:=Array.all_eq_true_iff_forall_mem.1 hp.1.2 e he
    simp [hb,hym] at this
  have h2 : ¬ listed.getD e.on true = false:=fun h=>hnot ((hl.lst _ hlt').1 h)
  have hsz : e.on < listed.size:=by rw [hl.size]; exact hlt'
  simp [Array.getD_eq_getD_getElem?,hsz] at h2 ⊢
  exact h2
theorem KC {ops : Array Oper} {anc : List (List Nat)} (hanc : (List.range ops.size).all (PO ops anc) = true) (hback : (List.range ops.size).all (IK ops) = true) {L : List (Nat × Step)} {listed : Array Bool} {pre post : List (Nat × Step)} {x : Nat × Step}
  (hl : RD P ops anc L listed (pre ++ x :: post)) (hi : x.1 ∈ Region.ready .any ops listed) :
  ∃ o,ops[x.1]? = some o /\ KG P ops o x.2 = true /\ (∀ j ∈ IY anc x.1,j ∉ (pre ++ x :: post).map (·.1)) /\ (∀ p j q,pre.map (·.2) = p ++ j :: q -> C6 j (x.2.lessL q) = true) /\ RD P ops anc L (listed.setIfInBounds x.1 true) (pre ++ post):=by
   obtain ⟨h1,o,ho,hafter⟩:=mem_ready.1 hi
   have hlt : x.1 < ops.size:=(Array.getElem?_eq_some_iff.1 ho).1
   have hx1 : x ∈ pre ++ x :: post:=by simp
   have hok:=hl.ok x hx1
   simp only [R1,ho] at hok
   have hpw:=List.pairwise_append.1 hl.pairs
   have outs : ∀ e ∈ o.after,Region.binds .any e = true -> e.on ∉ (pre ++ x :: post).map (·.1):=by
    intro e he' hbd hin
    have hl2:=hafter e he' hbd
    have hbk:=List.all_eq_true.1 hback x.1 (by simpa using hlt)
    simp only [IK,ho] at hbk
    have hbk2:=Array.all_eq_true_iff_forall_mem.1 hbk e he'
    simp only [hbd,Bool.not_true,Bool.false_or,decide_eq_true_eq] at hbk2
    have h3:=(hl.lst e.on (by omega)).2 hin
    have hsz : e.on < listed.size:=by rw [hl.size]; omega
    simp [Array.getD_eq_getD_getElem?,hsz] at h3 hl2
    rw [h3] at hl2
    cases hl2
   have hancout:=LL hanc (fun j=>j ∉ (pre ++ x :: post).map (·.1)) (fun j o' ho' hj=>hl.closed j o' ho' hj) (x.1 + 1) x.1 (by omega) o ho outs
   have hdst : (pre.map (·.2)).Pairwise (fun x y=>∀ t,x.dst = some t -> y.dst ≠ some t):=by
    rw [List.pairwise_map]
    refine hpw.1.imp fun {y z} hp=>?_
    simp only [FB,Bool.and_eq_true] at hp
    intro t ht hz
    have:=hp.1.1.2
    simp [ht,hz,D8] at this
   have hcm : ∀ p j q,pre.map (·.2) = p ++ j :: q -> C6 j (x.2.lessL q) = true:=by
    intro p j q e
    obtain ⟨p',t',rfl,rfl,e2⟩:=List.map_eq_append_iff.1 e
    obtain ⟨y,q',rfl,rfl,rfl⟩:=List.map_eq_cons_iff.1 e2
    have hp:=hpw.2.2 y (by simp) x (by simp)
    simp only [FB,Bool.and_eq_true,Bool.or_eq_true] at hp
    have hyr : y.1 ∈ ((p' ++ y :: q') ++ x :: post).map (·.1):=List.mem_map.2 ⟨y,by simp,rfl⟩
    rcases hp.1.1.1 with h | h
    ·exact absurd hyr (hancout y.1 (by simpa using h))
    ·have hq : ∀ z ∈ q'.map (·.2),∀ t,y.2.dst = some t -> z.dst ≠ some t:=by
      have hd1:=(List.pairwise_append.1 (by simpa using hdst)).2.1
      exact fun z hz=>List.rel_of_pairwise_cons hd1 hz
     have h2:=GZ (b:=q'.map (·.2)) h hq
     have e3 : (TP anc L y x).lessL (q'.map (·.2)) = x.2.lessL (q'.map (·.2)):=by
      have o1:=EL (TP anc L y x) (q'.map (·.2))
      have o2:=EL x.2 (q'.map (·.2))
      refine RN (by rw [o1.2.1,o2.2.1]; rfl) (by rw [o1.2.2,o2.2.2]; rfl) (by rw [o1.1,o2.1]; rfl) ?_
      rw [H6,H6]
      simp only [TP,List.filter_filter]
      refine List.filter_congr fun c hc=>?_
      by_cases hall : ((q'.map (·.2)).all fun z=>!D8 z.dst (some c.dst)) = true
      ·rw [hall,Bool.true_and]
       by_cases hany : (L.any fun z=>D8 z.2.dst (some c.dst) && ((IY anc z.1).contains y.1 && !decide (z.1 = y.1))) = true
       ·exfalso
        obtain ⟨z,hz,hz2⟩:=List.any_eq_true.1 hany
        simp only [Bool.and_eq_true,Bool.not_eq_true',decide_eq_false_iff_not] at hz2
        obtain ⟨hz3,hz4,hz5⟩:=hz2
        have hzr : z.1 ∈ ((p' ++ y :: q') ++ x :: post).map (·.1):=by
         apply Classical.byContradiction
         intro hno
         have hzlt:=hl.full z hz
         have ho' : ops[z.1]? = some ops[z.1]:=by simp [hzlt]
         have:=LL hanc (fun j=>j ∉ ((p' ++ y :: q') ++ x :: post).map (·.1)) (fun j o' ho' hj=>hl.closed j o' ho' hj) (z.1 + 1) z.1 (by omega) _ ho' (hl.closed z.1 _ ho' hno) y.1 (by simpa using hz4)
         exact this hyr
        obtain ⟨z',hz',hzz⟩:=List.mem_map.1 hzr
        have hze : z' = z:=by
         have hn:=hl.nodupL
         have hz'':=hl.sub.subset hz'
         exact L0 hn _ hz'' _ hz hzz
        subst hze
        simp only [List.append_assoc,List.mem_append,List.mem_cons] at hz'
        have hpw2:=hl.pairs
        simp only [List.append_assoc,List.cons_append] at hpw2
        have hpa:=List.pairwise_append.1 hpw2
        rcases hz' with hz' | (hz' | hz') | hz' | hz'
        ·have:=hpa.2.2 z' hz' y (by simp)
         simp only [FB,Bool.and_eq_true,Bool.not_eq_true'] at this
         rw [this.2.1] at hz4
         cases hz4
        ·exact hz5 (by rw [hz'])
        ·have:=List.all_eq_true.1 hall z'.2 (List.mem_map.2 ⟨z',hz',rfl⟩)
         rw [hz3] at this
         cases this
        ·rw [hz'] at hz4
         exact absurd hyr (hancout y.1 (by simpa using hz4))
        ·have:=List.rel_of_pairwise_cons (List.pairwise_append.1 hl.pairs).2.1 hz'
         simp only [FB,Bool.and_eq_true] at this
         have:=List.all_eq_true.1 this.2.2 c hc
         rw [hz3] at this
         cases this
       ·simp only [Bool.not_eq_true] at hany
        rw [hany]
        rfl
      ·simp only [Bool.not_eq_true] at hall
       rw [hall,Bool.false_and]
     rw [e3] at h2
     exact h2
   have hnd:=hl.nodup
   refine ⟨o,ho,hok,fun j hj=>hancout j hj,hcm,?_⟩
   have hsub : (pre ++ post).Sublist (pre ++ x :: post):=List.Sublist.append_left (List.sublist_cons_self x post) pre
   have hxn : x.1 ∉ (pre ++ post).map (·.1):=by
    rw [List.map_append,List.map_cons] at hnd
    have:=List.nodup_append.1 hnd
    intro hin
    rw [List.map_append,List.mem_append] at hin
    rcases hin with h | h
    ·exact this.2.2 _ h _ (by simp) rfl
    ·exact (List.nodup_cons.1 this.2.1).1 h
   have hmm : ∀ j,j ∈ (pre ++ post).map (·.1) ↔ j ∈ (pre ++ x :: post).map (·.1) /\ j ≠ x.1:=by
    intro j
    constructor
    ·intro h
     refine ⟨(hsub.map _).subset h,fun e=>hxn (e ▸ h)⟩
    ·rintro ⟨h,hne⟩
     simp only [List.map_append,List.map_cons,List.mem_append,List.mem_cons] at h ⊢
     rcases h with h | h | h
     ·exact .inl h
     ·exact absurd h hne
     ·exact .inr h
   refine ⟨fun y hy=>hl.ok y (hsub.subset hy),hl.pairs.sublist hsub,hsub.trans hl.sub,hl.nodupL,hl.full,by simpa using hl.size,fun j hj=>?_,fun j o' ho' hj e he' hbd=>?_,hnd.sublist (hsub.map _)⟩
   ·rw [hmm]
    by_cases hji : j = x.1
    ·subst hji
     have hsz : x.1 < listed.size:=by rw [hl.size]; exact hj
     simp [Array.getD_eq_getD_getElem?,hsz]
    ·rw [getD_set_ne true (fun e=>hji e.symm),hl.lst j hj]
     exact ⟨fun h=>⟨h,hji⟩,fun h=>h.1⟩
   ·rw [hmm] at hj ⊢
    rintro ⟨h3,h4⟩
    by_cases hji : j = x.1
    ·subst hji
     rw [ho] at ho'
     injection ho' with ho'
     subst ho'
     exact outs e he' hbd h3
    ·exact hl.closed j o' ho' (fun h=>hj ⟨h,hji⟩) e he' hbd h3
theorem YG {b : Nat} {R : List Nat} : ∀ (pre : List Step) (s s1 : St),A9 call b pre s = some s1 -> (∀ y ∈ pre,(y.op.cl = .P \/ y.op.cl = .R) /\ ∀ t,y.dst = some t -> t ∉ R) -> s1.m = s.m /\ ∀ t ∈ R,s1.tm.getD t .undef = s.tm.getD t .undef
 | [],s,s1,h,_=>by
  simp only [A9] at h
  injection h with h; subst h
  exact ⟨rfl,fun _ _=>rfl⟩
 | y :: pre,s,s1,h,hy=>by
  obtain ⟨hcl,hd⟩:=hy y (by simp)
  have keep : ∀ v t,t ∈ R -> (put s.tm y.dst v).getD t .undef = s.tm.getD t .undef:=fun v t ht=>by
   cases hdd : y.dst with
   | none=>rfl
   | some d=>
    have hne : t ≠ d:=fun e=>hd d hdd (e ▸ ht)
    simp only [put,List.getD_eq_getElem?_getD,List.getElem?_set]
    rw [if_neg (fun e=>hne e.symm)]
  simp only [A9] at h
  split at h
  ·split at h
   ·rename_i v m1 he
    split at h
    ·have hm : m1 = s.m:=by
      rcases hcl with hcl | hcl
      ·exact (MH hcl he).1
      ·exact (MG hcl he).1
     subst hm
     obtain ⟨q1,q2⟩:=YG pre _ s1 h fun z hz=>hy z (by simp [hz])
     exact ⟨q1,fun t ht=>by rw [q2 t ht]; exact keep v t ht⟩
    ·cases h
   ·cases h
  ·obtain ⟨q1,q2⟩:=YG pre _ s1 h fun z hz=>hy z (by simp [hz])
   exact ⟨q1,fun t ht=>by rw [q2 t ht]; exact keep .undef t ht⟩
theorem SX (hcall : D5 P base call) (hcp : FI P base pv callP) (hx : DF call) {ops : Array Oper} {anc : List (List Nat)} (hanc : (List.range ops.size).all (PO ops anc) = true) (hback : (List.range ops.size).all (IK ops) = true) {L : List (Nat × Step)} {b : Nat} {Q : Exit -> Act -> World -> Prop}
  {x : Nat × Step} {g : Nat} {args : List Opd} (hop : x.2.op = .call g args) {m' : Mem} :
  ∀ (fuel : Nat) (pre post : List (Nat × Step)) (listed : Array Bool) (ρ : Map) (s s1 : St) (a : Act) (w : World),(pre ++ x :: post).length <= fuel -> RD P ops anc L listed (pre ++ x :: post) -> Rl P base ρ w0 s a w ->
   (∀ z ∈ pre ++ x :: post,∀ k,z.2.op.slotOf = some k -> b + k < s.m.next) -> A9 call b (pre.map (·.2)) s = some s1 -> CA s1.tm x.2.guard = true -> callP g (args.map (·.eval s1.tm)) s1.m = some m' ->
   (∀ y ∈ post,(IY anc y.1).contains x.1 = true) -> (∀ ρ' a' w',ρ.le ρ' -> a'.defers = [] -> MR P base ρ' m' w' -> Below base w0 w' -> Q (.panic (O4 pv)) a' w') -> wpAny P .any ops Q fuel listed a w:=by
 intro fuel
 induction fuel with
 | zero=>
  intro pre post listed ρ s s1 a w hlen
  simp at hlen
 | succ fuel ih=>
  intro pre post listed ρ s s1 a w hlen hl hs hb he hw hc late hQ
  refine ⟨fun hr=>?_,fun i hi=>?_⟩
  ·have : ∃ z rest,pre ++ x :: post = z :: rest:=by
    cases pre with
    | nil=>exact ⟨x,post,rfl⟩
    | cons z p=>exact ⟨z,p ++ x :: post,rfl⟩
   obtain ⟨z,rest,e⟩:=this
   rw [e] at hl
   have:=TL hback z rest listed hl
   rw [hr] at this
   cases this
  ·obtain ⟨h1,o,ho,hafter⟩:=mem_ready.1 hi
   have hlt : i < ops.size:=(Array.getElem?_eq_some_iff.1 ho).1
   have hmem:=(hl.lst i hlt).1 h1
   obtain ⟨z,hz,rfl⟩:=List.mem_map.1 hmem
   rcases List.mem_append.1 hz with hzp | hzp
   ·
    obtain ⟨p1,p2,rfl⟩:=List.append_of_mem hzp
    have hl' : RD P ops anc L listed (p1 ++ z :: (p2 ++ x :: post)):=by simpa using hl
    obtain ⟨o',ho',hok,_,hcm,hrem⟩:=KC hanc hback hl' hi
    rw [ho] at ho'
    injection ho' with ho'
    subst ho'
    rw [List.map_append,List.map_cons] at he
    obtain ⟨v,m2,g1,g2⟩:=KH hx _ (p1.map (·.2)) rfl z.2 (p2.map (·.2)) s s1 hcm (fun k hk=>hb z (by simp) k hk) he
    refine NA hcall ho hok hs g1 fun ρ' a' w' hρ hr=>?_
    have hnext : s.m.next <= m2.next:=by
     split at g1
     ·exact (H9 hx g1).next
     ·rw [g1.2]; exact Nat.le_refl _
    refine ih (p1 ++ p2) post (listed.setIfInBounds z.1 true) ρ' _ s1 a' w' (by simp at hlen ⊢; omega) (by simpa using hrem) hr (fun y hy k hk=>Nat.lt_of_lt_of_le (hb y (by simp at hy ⊢; rcases hy with h | h | h | h <;> simp [h]) k hk) hnext) (by rw [List.map_append]; exact g2) hw hc late fun ρ'' a'' w'' hh=>hQ ρ'' a'' w'' (Map.le_trans hρ hh)
   ·rcases List.mem_cons.1 hzp with rfl | hzp
    ·
     obtain ⟨o',ho',hok,hout,hcm,hrem⟩:=KC hanc hback hl hi
     rw [ho] at ho'
     injection ho' with ho'
     subst ho'
     have hin : ∀ y ∈ pre.map (·.2),(y.op.cl = .P \/ y.op.cl = .R) /\ ∀ t,y.dst = some t -> t ∉ rdS z.2:=by
      intro y hy
      obtain ⟨p,q,e⟩:=List.append_of_mem hy
      have hcc:=hcm p y q e
      simp only [C6,Bool.and_eq_true] at hcc
      obtain ⟨o1,o2,o3⟩:=EL z.2 q
      have hmem:=hcc.2
      have hcl : (z.2.lessL q).op.cl = .H:=by rw [o1,hop]; rfl
      refine ⟨?_,fun t ht=>?_⟩
      ·unfold J1 at hmem
       rw [hcl] at hmem
       cases hyc : y.op.cl <;> simp [hyc] at hmem ⊢
      ·have:=hcc.1.1.1.1.1
       rw [ht] at this
       simp only [Bool.and_eq_true,Bool.not_eq_true'] at this
       have h2:=this.1.1.2
       have e2 : rdS (z.2.lessL q) = rdS z.2:=by unfold rdS; rw [o1,o3]
       rw [e2] at h2
       intro hm
       rw [List.contains_iff_mem.2 hm] at h2
       cases h2
     obtain ⟨q1,q2⟩:=YG _ s s1 he hin
     have hwz : CA s.tm z.2.guard = true:=by
      rw [<- hw]
      cases hg : z.2.guard with
      | none=>rfl
      | some p=>
       obtain ⟨t,bb⟩:=p
       have:=q2 t (by unfold rdS; rw [hg]; simp [rdG])
       simp only [CA,this]
     have hargs : args.map (·.eval s.tm) = args.map (·.eval s1.tm):=by
      apply List.map_congr_left
      intro y hy
      cases y with
      | c v=>rfl
      | t i=>
       have:=q2 i (by unfold rdS; rw [hop]; exact List.mem_append_right _ (List.mem_flatMap.2 ⟨.t i,by simpa [IOp.opds] using hy,by simp [Opd.rd]⟩))
       exact this.symm
     exact NO hcp ho hok hs hwz hop (by rw [hargs,<- q1]; exact hc) hQ
    ·
     obtain ⟨p1,p2,rfl⟩:=List.append_of_mem hzp
     have hl' : RD P ops anc L listed ((pre ++ x :: p1) ++ z :: p2):=by simpa using hl
     obtain ⟨_,_,_,hout,_,_⟩:=KC hanc hback hl' hi
     have:=late z hzp
     exact absurd (by simp) (hout x.1 (by simpa using this))
end
def PPost (P : Program) (base : Nat) (pv : Value) (ρ : Map) (w0 : World) (m' : Mem) : Exit -> Act -> World -> Prop:=fun ex a' w'=>ex = .panic (O4 pv) /\ a'.defers = [] /\ ∃ ρ',ρ.le ρ' /\ MR P base ρ' m' w' /\ Below base w0 w'
section
variable {P : Program} {base : Nat} {w0 : World} {call : BN} {callP : HJ} {pv : Value}
theorem PPost.le {ρ ρ' : Map} {m' : Mem} (h : ρ.le ρ') : ∀ ex a w,PPost P base pv ρ' w0 m' ex a w -> PPost P base pv ρ w0 m' ex a w:=
 fun _ _ _ ⟨h1,h2,ρ'',h3,h4⟩=>⟨h1,h2,ρ'',Map.le_trans h h3,h4⟩
theorem J6 {c : Code} {body : St -> Option (Ex × St)} {bodyP : St -> Option Mem} (hb : ∀ ρ s e s' a w,body s = some (e,s') -> Rl P base ρ w0 s a w -> c.wp P (CPost P base ρ w0 e s') a w)
  (hp : ∀ ρ s m' a w,bodyP s = some m' -> Rl P base ρ w0 s a w -> c.wp P (PPost P base pv ρ w0 m') a w) :
  ∀ (k : Nat) (ρ : Map) (s : St) (m' : Mem) (a : Act) (w : World),DI body bodyP k s = some m' -> Rl P base ρ w0 s a w -> ∀ (b : Frame) (kk : List Item) (cs : List Frame),
   ∃ ex a' w',PPost P base pv ρ w0 m' ex a' w' /\ Arrives P (lone (b.at a (.code c :: .inLoop c :: kk)) cs w) b kk cs ex a' w'
 | 0,_,_,_,_,_,h,_,_,_,_=>by simp [DI] at h
 | k + 1,ρ,s,m',a,w,h,hr,b,kk,cs=>by
  simp only [DI] at h
  split at h
  ·rename_i s1 h1
   obtain ⟨ex,a1,w1,hq,harr⟩:=hb ρ s .norm s1 a w h1 hr b (.inLoop c :: kk) cs
   obtain ⟨hex,ρ',hρ,hr'⟩:=hq
   cases ex <;> simp only [exR] at hex
   obtain ⟨ex2,a2,w2,hq2,harr2⟩:=J6 hb hp k ρ' s1 m' a1 w1 h hr' b kk cs
   exact ⟨ex2,a2,w2,PPost.le hρ _ _ _ hq2,.of_steps (Steps.trans harr (.one step_inLoop)) harr2⟩
  ·cases h
  ·obtain ⟨ex,a1,w1,hq,harr⟩:=hp ρ s m' a w h hr b (.inLoop c :: kk) cs
   obtain ⟨rfl,h2,h3⟩:=hq
   exact ⟨_,a1,w1,⟨rfl,h2,h3⟩,.pass (x:=.inLoop c) rfl (fun _ _=>.inl (by simp)) harr⟩
theorem S2 (hcall : D5 P base call) (hcp : FI P base pv callP) (hx : DF call) (hmix : P.follows .mixedOrders = true) (k : Nat) : ∀ (c : Code) (ic : D1),BT P c ic = true -> ∀ (ρ : Map) (s : St) (m' : Mem) (a : Act) (w : World),
  CB call callP k ic s = some m' -> Rl P base ρ w0 s a w -> c.wp P (PPost P base pv ρ w0 m') a w:=by
 intro c
 induction c with
 | skip=>
  intro ic hok ρ s m' a w h hr
  cases ic <;> simp [BT] at hok
  cases h
 | exit i=>
  intro ic hok ρ s m' a w h hr
  cases ic <;> simp [BT] at hok
  cases h
 | ret=>
  intro ic hok ρ s m' a w h hr
  cases ic <;> simp [BT] at hok
  cases h
 | seq x y ihx ihy=>
  intro ic hok ρ s m' a w h hr
  cases ic <;> simp [BT] at hok
  rename_i x' y'
  simp only [CB] at h
  split at h
  ·rename_i s1 h1
   refine wp_seq (wp_mono (KO hcall hx hmix k x x' hok.1 ρ s .norm s1 a w h1 hr) ?_)
   rintro ex a1 w1 ⟨hex,ρ',hρ,hr'⟩
   cases ex <;> simp only [exR] at hex
   exact wp_mono (ihy y' hok.2 ρ' s1 m' a1 w1 h hr') (PPost.le hρ)
  ·cases h
  ·refine wp_seq (wp_mono (ihx x' hok.1 ρ s m' a w h hr) ?_)
   rintro ex a1 w1 ⟨rfl,h2,h3⟩
   exact ⟨rfl,h2,h3⟩
 | cond o x y ihx ihy=>
  intro ic hok ρ s m' a w h hr
  cases ic <;> simp [BT] at hok
  rename_i o' x' y'
  have hv:=BD hr.tm hok.1.1
  simp only [CB] at h
  split at h
  ·rename_i ho
   rw [ho] at hv
   simp only [VR] at hv
   exact wp_cond_true hv (ihx x' hok.1.2 ρ s m' a w h hr)
  ·rename_i ho
   rw [ho] at hv
   simp only [VR] at hv
   exact wp_cond_false hv (ihy y' hok.2 ρ s m' a w h hr)
  ·cases h
 | block i c ih=>
  intro ic hok ρ s m' a w h hr
  cases ic <;> simp [BT] at hok
  rename_i i' c'
  obtain ⟨rfl,hok⟩:=hok
  simp only [CB] at h
  refine wp_block (wp_mono (ih c' hok ρ s m' a w h hr) ?_)
  rintro ex a1 w1 ⟨rfl,h2,h3⟩
  exact ⟨rfl,h2,h3⟩
 | loop c ih=>
  intro ic hok ρ s m' a w h hr
  cases ic <;> simp [BT] at hok
  rename_i c'
  simp only [CB] at h
  intro b kk cs
  obtain ⟨ex,a',w',hq,harr⟩:=J6 (fun ρ s e s' a w h hr=>KO hcall hx hmix k c c' hok ρ s e s' a w h hr) (fun ρ s m' a w h hr=>ih c' hok ρ s m' a w h hr) k ρ s m' a w h hr b kk cs
  exact ⟨ex,a',w',hq,.of_steps (.one step_loop) harr⟩
 | region id ops draw=>
  intro ic hok ρ s m' a w h hr
  cases ic <;> simp only [BT,Bool.false_eq_true] at hok
  rename_i n pi anc steps
  simp only [CB] at h
  split at h
  ·rename_i l m2 h1
   split at h
   ·rename_i hlate
    injection h with h
    subst h
    cases draw with
    | false=>
     simp only [Bool.false_eq_true,if_false] at hok
     have hr' : Rl P base ρ w0 ⟨s.tm,⟨s.m.next + n,s.m.t⟩⟩ a w:=⟨hr.tm,hr.df,hr.mr.bump n,hr.bel⟩
     refine wp_region ?_
     have:=PF (Q:=PPost P base pv ρ w0 m2) hcall hcp 0 ops.toList steps ρ _ l m2 a w (by simp) hok hr' h1 fun ρ' a' w' hρ h2 h3 h4=>⟨rfl,h2,ρ',hρ,h3,h4⟩
     simpa using this
    | true=>
     simp only [if_true] at hok
     simp only [QN,Bool.and_eq_true,decide_eq_true_eq] at hok
     obtain ⟨⟨⟨⟨⟨⟨⟨⟨k1,k2⟩,k3⟩,k4⟩,k5⟩,k6⟩,k7⟩,k8⟩,k9⟩:=hok
     refine wp_region_any hmix ?_
     have hmap1 : (pi.zip steps).map (·.1) = pi:=List.map_fst_zip (by omega)
     have hmap2 : (pi.zip steps).map (·.2) = steps:=List.map_snd_zip (by omega)
     have hr' : Rl P base ρ w0 ⟨s.tm,⟨s.m.next + n,s.m.t⟩⟩ a { w with drawn:=w.drawn + 1 }:=⟨hr.tm,hr.df,(hr.mr.bump n).heap rfl,hr.bel.drew⟩
     obtain ⟨pre,x,post,s1,g,args,e1,e2,e3,e4,e5,e6⟩:=I5 steps _ _ _ h1
     have e7:=hmap2.trans e1
     obtain ⟨L1,L2,f1,f2,f3⟩:=List.map_eq_append_iff.1 e7
     obtain ⟨z,L3,f4,f5,f6⟩:=List.map_eq_cons_iff.1 f3
     have hlen : steps.length - l - 1 = L1.length:=by
      rw [e1,<- f2,<- e2,<- f6]; simp; omega
     have late : ∀ y ∈ L3,(IY anc y.1).contains z.1 = true:=by
      unfold QR at hlate
      rw [hlen,<- hmap1,f1,f4,List.map_append,List.map_cons,<- List.length_map (f:=(·.1)),List.drop_left] at hlate
      intro y hy
      exact List.all_eq_true.1 hlate y.1 (List.mem_map.2 ⟨y,hy,rfl⟩)
     have hL : pi.zip steps = L1 ++ z :: L3:=by rw [f1,f4]
     have hrem : RD P ops anc (pi.zip steps) (Array.replicate ops.size false) (pi.zip steps):=by
      refine ⟨fun x hx=>List.all_eq_true.1 k5 x hx,FA k8,List.Sublist.refl _,by rw [hmap1]; exact k4,fun z hz=>?_,by simp,fun j hj=>?_,fun j o ho hj=>?_,by rw [hmap1]; exact k4⟩
      ·have:=List.all_eq_true.1 k5 z hz
       unfold R1 at this
       split at this
       ·rename_i o ho
        exact (Array.getElem?_eq_some_iff.1 ho).1
       ·cases this
      ·rw [hmap1]
       have : (Array.replicate ops.size false).getD j true = false:=by simp [Array.getD_eq_getD_getElem?,hj]
       simp only [this,true_iff]
       exact k3 j (by simpa using hj)
      ·rw [hmap1] at hj
       have hlt : j < ops.size:=(Array.getElem?_eq_some_iff.1 ho).1
       exact absurd (k3 j (by simpa using hlt)) hj
     have hslot : ∀ x ∈ pi.zip steps,∀ k,x.2.op.slotOf = some k -> s.m.next + k < s.m.next + n:=by
      intro x hx k hk
      have hm : x.2 ∈ steps:=by rw [<- hmap2]; exact List.mem_map.2 ⟨x,hx,rfl⟩
      have:=List.all_eq_true.1 k9 x.2 hm
      simp only [hk,decide_eq_true_eq] at this
      omega
     have hlen2 : (pi.zip steps).length <= ops.size:=by rw [List.length_zip]; omega
     refine SX (L:=pi.zip steps) (x:=z) (g:=g) (args:=args) (m':=m2) (b:=s.m.next) hcall hcp hx k6 k7 (by rw [f5]; exact e5) ops.size L1 L3 _ ρ ⟨s.tm,⟨s.m.next + n,s.m.t⟩⟩ s1 a _ (by rw [<- hL]; exact hlen2) (by rw [<- hL]; exact hrem) hr' (by rw [<- hL]; exact hslot) (by rw [f2]; exact e3) (by rw [f5]; exact e4) e6 late fun ρ' a' w' hρ h2 h3 h4=>⟨rfl,h2,ρ',hρ,h3,h4⟩
   ·cases h
  ·cases h
 | label l=>
  intro ic hok ρ s m' a w h hr
  cases ic <;> simp [BT] at hok
  cases h
 | scope c ih=>
  intro ic hok ρ s m' a w h hr
  simp only [BT] at hok
  refine wp_scope_straight (wp_mono (ih ic hok ρ s m' a w h hr) ?_)
  rintro ex a1 w1 ⟨rfl,hr⟩
  exact ⟨rfl,hr⟩
 | _=>
  intro ic hok
  cases ic <;> simp [BT] at hok
end
structure UO (P : Program) (pv : Value) (f : Nat) : Prop where
 ok : E0 P f = true
 yes : ∀ base ρ m w,MR P base ρ m w -> Calls P f #[.bool true] w fun e w'=>e = .returned (.tuple #[]) /\ MR P base ρ m w' /\ Below base w w'
 no : ∀ base ρ m w,MR P base ρ m w -> Calls P f #[.bool false] w fun e w'=>e = .panicked (O4 pv) /\ MR P base ρ m w' /\ Below base w w'
structure UP (P : Program) (pv : Value) (f ty : Nat) : Prop where
 ok : E0 P f = true
 yes : ∀ base ρ m w g (F C : List Value) b m1 m2 m3,MR P base ρ m w -> m.new none [.bool false] ty = some (b,m1) -> m2.write b 0 [.bool true] = some m3 -> E0 P g = true ->
  (∀ ρ1 w1,ρ.le ρ1 -> MR P base ρ1 m1 w1 -> Calls P g (F ++ C).toArray w1 fun e w'=>∃ ρ' u,ρ1.le ρ' /\ e = .returned u /\ MR P base ρ' m2 w' /\ Below base w1 w') ->
  Calls P f #[.func (.func g) F.toArray C.toArray] w fun e w'=>∃ ρ',ρ.le ρ' /\ e = .returned (.bool true) /\ MR P base ρ' m3 w' /\ Below base w w'
 no : ∀ base ρ m w g (F C : List Value) b m1 m2 m3,MR P base ρ m w -> m.new none [.bool false] ty = some (b,m1) -> m2.write b 0 [.bool false] = some m3 -> E0 P g = true ->
  (∀ ρ1 w1,ρ.le ρ1 -> MR P base ρ1 m1 w1 -> Calls P g (F ++ C).toArray w1 fun e w'=>∃ ρ',ρ1.le ρ' /\ e = .panicked (O4 pv) /\ MR P base ρ' m2 w' /\ Below base w1 w') ->
  Calls P f #[.func (.func g) F.toArray C.toArray] w fun e w'=>∃ ρ',ρ.le ρ' /\ e = .returned (.bool false) /\ MR P base ρ' m3 w' /\ Below base w w'
def LiveOk (P : Program) (f : Nat) : Prop:=E0 P f = true /\ ∀ base ρ m w,MR P base ρ m w -> Calls P f #[] w fun e w'=>e = .returned (.bool true) /\ MR P base ρ m w' /\ Below base w w'
def cC (P : Program) (f : Nat) : Prop:=E0 P f = true /\ ∀ base ρ m w args args' r m',KN args m = some (r,m') -> VRL ρ args args' -> MR P base ρ m w -> Calls P f args'.toArray w fun e w'=>r = .tup [] /\ e = .returned (.tuple #[]) /\ MR P base ρ m' w' /\ Below base w w'
structure RE (P : Program) (S : Sp) : Prop where
 live : ∀ f,S.isLive f = true -> LiveOk P f
 sort : ∀ f,S.isSort f = true -> cC P f
section
variable {P : Program} {base : Nat} {pv : Value}
theorem OK {S : Sp} {tab : Nat -> Option AN} (htab : ∀ f i,tab f = some i -> NW P f i = true) (hmix : P.follows .mixedOrders = true) (hm : UO P pv S.must) (hh : UP P pv S.hold S.okTy) (hl : RE P S) :
  ∀ k,D5 P base (BP S tab k).1 /\ FI P base pv (BP S tab k).2
 | 0=>⟨fun f args m r m' h=>by simp [BP] at h,fun f args m m' h=>by simp [BP] at h⟩
 | k + 1=>by
  obtain ⟨i1,i2⟩:=OK htab hmix hm hh hl k
  obtain ⟨x1,x2⟩:=SV S tab k
  have run : ∀ {f : Nat} {fn : AN},tab f = some fn -> E0 P f = true /\ ∀ (ρ : Map) (w : World) (args : List AV) (args' : List Value) (m : Mem),VRL ρ args args' -> MR P base ρ m w ->
    ∃ gn c,P.funcs[f]? = some gn /\ gn.body = some c /\ BT P c fn.body = true /\ I9 P gn.results.toList fn.results = true /\ Rl P base ρ w (HC fn args m) { tmps:=args'.toArray ++ Array.replicate (gn.ntmps - args'.toArray.size) undef,defers:=[] } w:=by
   intro f fn hf
   have hok:=htab f fn hf
   simp only [NW,Bool.and_eq_true] at hok
   obtain ⟨hc,hok⟩:=hok
   refine ⟨hc,fun ρ w args args' m ha hmm=>?_⟩
   cases hg : P.funcs[f]? with
   | none=>simp [hg] at hok
   | some gn=>
    cases hb : gn.body with
    | none=>simp [hg,hb] at hok
    | some c=>
     simp only [hg,hb,Bool.and_eq_true,decide_eq_true_eq] at hok
     obtain ⟨⟨hcode,hn⟩,hres⟩:=hok
     have hlen:=ha.length
     refine ⟨gn,c,rfl,hb,hcode,hres,?_,rfl,hmm,Below.refl _ _⟩
     simp only [HC,Array.toList_append,Array.toList_replicate,List.size_toArray]
     rw [hn,hlen]
     exact ha.append (VRL.replicate_undef _)
  refine ⟨fun f args m r m' h=>?_,fun f args m m' h=>?_⟩
  ·simp only [BP] at h
   by_cases h1 : f = S.must
   ·subst h1
    rw [if_pos rfl] at h
    refine ⟨hm.ok,fun ρ w args' ha hmm=>?_⟩
    unfold OJ at h
    split at h
    ·injection h with h; injection h with h2 h3
     subst h2 h3
     simp only [VRL] at ha
     obtain ⟨u,us,rfl,hu,rfl⟩:=ha
     simp only [VR] at hu
     subst hu
     refine Calls.mono (hm.yes base ρ m w hmm) ?_
     rintro e w' ⟨rfl,q2,q3⟩
     exact ⟨ρ,_,ρ.le_refl,rfl,by simp [VR,VRL],q2,q3⟩
    ·cases h
   rw [if_neg h1] at h
   by_cases h2 : f = S.hold
   ·subst h2
    rw [if_pos rfl] at h
    refine ⟨hh.ok,fun ρ w args' ha hmm=>?_⟩
    unfold FF at h
    split at h
    ·rename_i g first cap
     simp only [VRL] at ha
     obtain ⟨u,us,rfl,hu,rfl⟩:=ha
     simp only [VR] at hu
     obtain ⟨F,C,hF,hC,rfl⟩:=hu
     split at h
     ·rename_i b m1 hn
      split at h
      ·rename_i v m2 hcl
       split at h
       ·rename_i m3 hw
        injection h with h; injection h with e1 e2
        subst e1 e2
        obtain ⟨c1,c2⟩:=i1 _ _ _ _ _ hcl
        refine Calls.mono (hh.yes base ρ m w g F C b m1 m2 _ hmm hn hw c1 fun ρ1 w1 hρ hm1=>?_) ?_
        ·refine Calls.mono (c2 ρ1 w1 (F ++ C) (VRL.mono hρ _ _ (hF.append hC)) hm1) ?_
         rintro e w' ⟨ρ',u,q1,q2,q3,q4,q5⟩
         exact ⟨ρ',u,q1,q2,q4,q5⟩
        ·rintro e w' ⟨ρ',q1,rfl,q3,q4⟩
         exact ⟨ρ',_,q1,rfl,by simp [VR],q3,q4⟩
       ·cases h
      ·split at h
       ·rename_i m2 hcp
        split at h
        ·rename_i m3 hw
         injection h with h; injection h with e1 e2
         subst e1 e2
         obtain ⟨c1,c2⟩:=i2 _ _ _ _ hcp
         refine Calls.mono (hh.no base ρ m w g F C b m1 m2 _ hmm hn hw c1 fun ρ1 w1 hρ hm1=>?_) ?_
         ·exact c2 ρ1 w1 (F ++ C) (VRL.mono hρ _ _ (hF.append hC)) hm1
         ·rintro e w' ⟨ρ',q1,rfl,q3,q4⟩
          exact ⟨ρ',_,q1,rfl,by simp [VR],q3,q4⟩
        ·cases h
       ·cases h
     ·cases h
    ·cases h
   rw [if_neg h2] at h
   by_cases h3 : S.knows f = true
   ·rw [if_pos h3] at h
    unfold FL at h
    cases hlf : S.isLive f with
    | true=>
     rw [hlf,cond_true] at h
     have hl:=hl.live f hlf
     refine ⟨hl.1,fun ρ w args' ha hmm=>?_⟩
     unfold T5 at h
     split at h
     ·injection h with h; injection h with e1 e2
      subst e1 e2
      simp only [VRL] at ha
      subst ha
      refine Calls.mono (hl.2 base ρ m w hmm) ?_
      rintro e w' ⟨rfl,q2,q3⟩
      exact ⟨ρ,_,ρ.le_refl,rfl,by simp [VR],q2,q3⟩
     ·cases h
    | false=>
     rw [hlf,cond_false] at h
     have hsf : S.isSort f = true:=by unfold Sp.knows at h3; rw [hlf] at h3; exact h3
     have hl:=hl.sort f hsf
     refine ⟨hl.1,fun ρ w args' ha hmm=>?_⟩
     refine Calls.mono (hl.2 base ρ m w args args' r m' h ha hmm) ?_
     rintro e w' ⟨rfl,rfl,q2,q3⟩
     exact ⟨ρ,_,ρ.le_refl,rfl,by simp [VR,VRL],q2,q3⟩
   rw [if_neg h3] at h
   cases hf : tab f with
   | none=>simp [hf] at h
   | some fn=>
    simp only [hf] at h
    obtain ⟨hc,hrun⟩:=run hf
    refine ⟨hc,fun ρ w args' ha hmm=>?_⟩
    obtain ⟨gn,c,hg,hb,hcode,hres,hr⟩:=hrun ρ w args args' m ha hmm
    unfold GY at h
    have fin : ∀ e s,evC (BP S tab k).1 k fn.body (HC fn args m) = some (e,s) -> (e = .norm \/ e = .ret) -> (match D7 s.tm s.m fn.results with | some vs=>some (QK vs,s.m) | none=>none) = some (r,m') ->
      Calls P f args'.toArray w fun e w'=>∃ ρ' u,ρ.le ρ' /\ e = .returned u /\ VR ρ' r u /\ MR P base ρ' m' w' /\ Below base w w':=by
     intro e s he hen h
     have hwp:=KO i1 x1 hmix k c fn.body hcode ρ _ e s _ w he hr
     refine calls_of_wp hg hb (wp_mono hwp ?_)
     rintro ex a' w' ⟨hex,ρ',hρ,hr'⟩
     split at h
     ·rename_i vs hvs
      injection h with h; injection h with e1 e2
      obtain ⟨u,h1,h2⟩:=RT hr'.tm hr'.mr hres hvs
      rw [e1] at h2
      have : a'.defers = [] /\ ∃ v,(results gn a'.tmps).run P w' = .ok v w' /\ ∃ ρ' u,ρ.le ρ' /\ Ending.returned v = .returned u /\ VR ρ' r u /\ MR P base ρ' m' w' /\ Below base w w':=⟨hr'.df,u,h1,ρ',u,hρ,rfl,h2,by rw [<- e2]; exact hr'.mr,hr'.bel⟩
      rcases hen with rfl | rfl <;> cases ex <;> simp only [exR] at hex <;> exact this
     ·cases h
    split at h
    ·rename_i s hs; exact fin _ s hs (.inl rfl) h
    ·rename_i s hs; exact fin _ s hs (.inr rfl) h
    ·cases h
  ·simp only [BP] at h
   by_cases h1 : f = S.must
   ·subst h1
    rw [if_pos rfl] at h
    refine ⟨hm.ok,fun ρ w args' ha hmm=>?_⟩
    unfold JV at h
    split at h
    ·injection h with h
     subst h
     simp only [VRL] at ha
     obtain ⟨u,us,rfl,hu,rfl⟩:=ha
     simp only [VR] at hu
     subst hu
     refine Calls.mono (hm.no base ρ m w hmm) ?_
     rintro e w' ⟨rfl,q2,q3⟩
     exact ⟨ρ,ρ.le_refl,rfl,q2,q3⟩
    ·cases h
   rw [if_neg h1] at h
   by_cases h2 : f = S.hold
   ·rw [if_pos h2] at h; cases h
   rw [if_neg h2] at h
   by_cases h3 : S.knows f = true
   ·rw [if_pos h3] at h; cases h
   rw [if_neg h3] at h
   cases hf : tab f with
   | none=>simp [hf] at h
   | some fn=>
    simp only [hf] at h
    obtain ⟨hc,hrun⟩:=run hf
    refine ⟨hc,fun ρ w args' ha hmm=>?_⟩
    obtain ⟨gn,c,hg,hb,hcode,hres,hr⟩:=hrun ρ w args args' m ha hmm
    have hwp:=S2 i1 i2 x1 hmix k c fn.body hcode ρ _ m' _ w h hr
    refine calls_of_wp hg hb (wp_mono hwp ?_)
    rintro ex a' w' ⟨rfl,q2,ρ',q3,q4,q5⟩
    exact ⟨q2,ρ',q3,rfl,q4,q5⟩
end
abbrev pvW : Value:=.iface 186 (.agg #[])
theorem X5 (w : World) : Calls Tryz.prog 161 #[.bool true] w fun e w'=>e = .returned (.tuple #[]) /\ w' = w:=by
 go_enter Tryz.func161,Tryz.ntmps161
 go_wp2
 go_end0
 exact ⟨rfl,rfl⟩
theorem must_no (w : World) : Calls Tryz.prog 161 #[.bool false] w fun e w'=>e = .panicked (O4 pvW) /\ w' = w:=by
 go_enter Tryz.func161,Tryz.ntmps161
 go_wp2
 exact ⟨rfl,rfl,rfl⟩
theorem mustOk : UO Tryz.prog pvW 161:=by
 refine ⟨by kernel_rfl,fun base ρ m w h=>?_,fun base ρ m w h=>?_⟩
 ·refine Calls.mono (X5 w) ?_
  rintro e w' ⟨rfl,rfl⟩
  exact ⟨rfl,h,Below.refl _ _⟩
 ·refine Calls.mono (must_no w) ?_
  rintro e w' ⟨rfl,rfl⟩
  exact ⟨rfl,h,Below.refl _ _⟩
theorem UE (p : Addr) (w : World) :
  CallsD Tryz.prog 156 #[.pointer (some p)] .returning w fun e u' w'=>e = .returned (.tuple #[]) /\ u' = .returning /\ w' = w:=by
 refine callsD_of_wpS Tryz.func156 rfl fun c₀ cs hu=>?_
 apply wpS_seq
 apply wpS_region
 simp [wpOpsS,go_sem,recoverD,hu,Tryz.ntmps156,Exit.thenS]
 refine wpS_of_wp ?_
 go_wp2
 cases c₀
 simp_all [bodyPostS,results,Tryz.results156]
theorem UK (w : World) : (Instr.typeAssert pvW 20 186 true).run Tryz.prog w = .ok (.tuple #[.agg #[],.bool true]) w:=by
 simp [Instr.typeAssert,go_sem,Tryz.underlying186]
set_option maxRecDepth 20000 in
theorem S4 (p : Addr) (older : List PanicEntry) (w : World) (hp : p.block < w.heap.size) (x : Value) (hc : w.cell? p = some x) (hz : w.frozen? p = false) :
  CallsD Tryz.prog 156 #[.pointer (some p)] (.panicking ({ v:=pvW,recovered:=false } :: older)) w fun e u' w'=>
   e = .returned (.tuple #[]) /\ u' = .panicking ({ v:=pvW,recovered:=true } :: older) /\ w' = (w.alloc (.cells #[] 186)).setCell p (.bool false):=by
 refine callsD_of_wpS Tryz.func156 rfl fun c₀ cs hu=>?_
 apply wpS_seq
 apply wpS_region
 simp [wpOpsS,go_sem,recoverD,hu,Tryz.ntmps156,Exit.thenS]
 have hta:=fun w=>UK w
 have hbl : Below w.heap.size w (w.alloc (.cells #[] 186)):=(Below.refl _ _).alloc (Nat.le_refl _) _
 have hz2 : (w.alloc (.cells #[] 186)).frozen? p = false:=by rw [hbl.frozen hp]; exact hz
 have hc2 : (w.alloc (.cells #[] 186)).cell? p = some x:=by rw [hbl.cell hp]; exact hc
 refine wpS_of_wp ?_
 go_wp2
 cases c₀
 simp_all [bodyPostS,results,Tryz.results156]
set_option maxRecDepth 20000 in
theorem YQ (g : Nat) (F C : List Value) (w : World) (R : World -> Prop) (hg : E0 Tryz.prog g = true) (hR : ∀ w',R w' -> (∃ x,w'.cell? ⟨w.heap.size,0,none⟩ = some x) /\ w'.frozen? ⟨w.heap.size,0,none⟩ = false)
  (hc : Calls Tryz.prog g (F ++ C).toArray (w.alloc (.cells #[.bool false] 4)) fun e w'=>(∃ u,e = .returned u) /\ R w') :
  Calls Tryz.prog 119 #[.func (.func g) F.toArray C.toArray] w fun e w'=>e = .returned (.bool true) /\ ∃ w1,R w1 /\ w' = w1.setCell ⟨w.heap.size,0,none⟩ (.bool true):=by
 have hmf : ∀ (fn : Fn) (first cap : Array Value) (w : World),(Instr.makeFunc fn first cap).run Tryz.prog w = .ok (.func fn first cap) w:=fun _ _ _ _=>rfl
 have hrun:=fun w=>IU (w:=w) hg (F ++ C).toArray
 go_enter_defers Tryz.func119,Tryz.ntmps119
 go_wp2
 rename_i K1 a1 K2 a2
 refine Calls.mono hc ?_
 rintro e w' ⟨⟨u,rfl⟩,hr⟩
 obtain ⟨⟨x,hx⟩,hz⟩:=hR w' hr
 simp only
 apply a2
 go_wp2
 refine leaves_cons (f:=156) (args:=#[.pointer (some ⟨w.heap.size,0,none⟩)]) (by simp) (by simp [go_sem]) ?_
 refine (UE _ _).mono ?_
 rintro e u' w'' ⟨rfl,rfl,rfl⟩
 have h1 : (w'.setCell ⟨w.heap.size,0,none⟩ (.bool true)).cell? ⟨w.heap.size,0,none⟩ = some (.bool true):=by
  simp [hx,go_sem]
 simp [Leaves,settle,results,Tryz.results119,go_sem,h1]
 exact ⟨w',hr,rfl⟩
set_option maxRecDepth 20000 in
theorem hold_no (g : Nat) (F C : List Value) (w : World) (R : World -> Prop) (hg : E0 Tryz.prog g = true) (hR : ∀ w',R w' -> (∃ x,w'.cell? ⟨w.heap.size,0,none⟩ = some x) /\ w'.frozen? ⟨w.heap.size,0,none⟩ = false /\ w.heap.size < w'.heap.size)
  (hc : Calls Tryz.prog g (F ++ C).toArray (w.alloc (.cells #[.bool false] 4)) fun e w'=>e = .panicked (O4 pvW) /\ R w') :
  Calls Tryz.prog 119 #[.func (.func g) F.toArray C.toArray] w fun e w'=>e = .returned (.bool false) /\ ∃ w1,R w1 /\ w' = (w1.alloc (.cells #[] 186)).setCell ⟨w.heap.size,0,none⟩ (.bool false):=by
 have hmf : ∀ (fn : Fn) (first cap : Array Value) (w : World),(Instr.makeFunc fn first cap).run Tryz.prog w = .ok (.func fn first cap) w:=fun _ _ _ _=>rfl
 have hrun:=fun w=>IU (w:=w) hg (F ++ C).toArray
 go_enter_defers Tryz.func119,Tryz.ntmps119
 go_wp2
 rename_i K1 a1 K2 a2
 refine Calls.mono hc ?_
 rintro e w' ⟨rfl,hr⟩
 obtain ⟨⟨x,hx⟩,hz,hlt⟩:=hR w' hr
 simp only
 refine leaves_cons (f:=156) (args:=#[.pointer (some ⟨w.heap.size,0,none⟩)]) (by simp) (by simp [go_sem]) ?_
 refine (S4 _ [] w' hlt x hx hz).mono ?_
 rintro e u' w'' ⟨rfl,rfl,rfl⟩
 have hbl : Below w'.heap.size w' (w'.alloc (.cells #[] 186)):=(Below.refl _ _).alloc (Nat.le_refl _) _
 have hx2 : (w'.alloc (.cells #[] 186)).cell? ⟨w.heap.size,0,none⟩ = some x:=by rw [hbl.cell hlt]; exact hx
 have h1 : ((w'.alloc (.cells #[] 186)).setCell ⟨w.heap.size,0,none⟩ (.bool false)).cell? ⟨w.heap.size,0,none⟩ = some (.bool false):=by
  simp [hx2,go_sem]
 simp [Leaves,settle,results,Tryz.results119,go_sem,h1]
 exact ⟨w',hr,rfl⟩
theorem OR.below {P : Program} {ρ : Map} {base : Nat} {w w' : World} {r : Reg} {o : X.Obj} (hb : Below w.heap.size w w') (h : OR P ρ base w r o) : OR P ρ base w' r o:=by
 cases o with
 | dead=>trivial
 | live cs e own=>
  have h':=h
  obtain ⟨carr,e',fr,h1,_⟩:=h'
  exact OR.same (hb.block r.cb (Array.getElem?_eq_some_iff.1 h1).1) h
theorem MR.below {P : Program} {ρ : Map} {base : Nat} {m : Mem} {w w' : World} (h : MR P base ρ m w) (hb : Below w.heap.size w w') : MR P base ρ m w':=
 ⟨fun b o ho=>let ⟨h1,r,h2,h3⟩:=h.dom b o ho; ⟨h1,r,h2,h3.below hb⟩,h.used,Nat.le_trans h.low hb.size,h.inj⟩
theorem MR.cellset {P : Program} {ρ : Map} {base : Nat} {m m' : Mem} {w : World} (hm : MR P base ρ m w) {b : Nat} {v : AV} (hw : m.write b 0 [v] = some m') {u : Value} (hv : VR ρ v u) {r : Reg} (hr : ρ b = some r) :
  (∃ x,w.cell? ⟨r.cb,r.sh,none⟩ = some x) /\ w.frozen? ⟨r.cb,r.sh,none⟩ = false /\ r.cb < w.heap.size /\ MR P base ρ m' (w.setCell ⟨r.cb,r.sh,none⟩ u) /\ Below base w (w.setCell ⟨r.cb,r.sh,none⟩ u):=by
 have hvl : VRL ρ [v] [u]:=.cons hv .nil'
 obtain ⟨w',s1,s2,s3⟩:=GL hm hw hvl hr
 unfold Mem.write at hw
 split at hw
 ·rename_i known e0 hg
  split at hw
  ·rename_i hle
   obtain ⟨_,r0,hr0,carr,e',fr,h1,h2,h3,h4,h5⟩:=hm.dom b _ hg
   rw [hr] at hr0
   injection hr0 with hr0
   subst hr0
   obtain ⟨hb,he,_,_,hfr⟩:=h5 rfl
   have hlen : 1 <= known.length:=by have:=hle.1; simp at this; omega
   have hlt : r.sh < carr.size:=by omega
   have hone : u.oneCell' = true:=GA hv (by have:=hle.2; simp [leaves] at this; exact this)
   have hc : w.cell? ⟨r.cb,r.sh,none⟩ = some carr[r.sh]:=by simp [World.cell?,h1]
   have hz : w.frozen? ⟨r.cb,r.sh,none⟩ = false:=by
    have:=hfr r.sh hlt
    simp only [World.frozen?,h1,Bool.and_eq_false_iff,decide_eq_false_iff_not]
    omega
   refine ⟨⟨_,hc⟩,hz,(Array.getElem?_eq_some_iff.1 h1).1,?_⟩
   have hadd : (⟨r.cb,r.sh + 0,none⟩ : Addr).add 0 = ⟨r.cb,r.sh,none⟩:=by unfold Addr.add; split <;> simp_all
   have hst : (store ((⟨r.cb,r.sh + 0,none⟩ : Addr).add 0) u).run P w = .ok () (w.setCell ⟨r.cb,r.sh,none⟩ u):=by
    rw [hadd,run_store P w _ u _ hone]
    simp [hc,hz]
   rw [storeCells] at s1
   simp only [Sem.run_bind,hst,Result.andThen_ok] at s1
   have : w' = w.setCell ⟨r.cb,r.sh,none⟩ u:=by
    simp only [storeCells,Sem.run_pure] at s1
    injection s1 with _ s1
    exact s1.symm
   subst this
   exact ⟨s2,s3⟩
  ·cases hw
 ·cases hw
theorem holdOk : UP Tryz.prog pvW 119 4:=by
 have start : ∀ {base : Nat} {ρ : Map} {m m1 : Mem} {w : World} {b : Nat},MR Tryz.prog base ρ m w -> m.new none [.bool false] 4 = some (b,m1) -> ∃ ρ1 r,ρ.le ρ1 /\ ρ1 b = some r /\ r.cb = w.heap.size /\ r.sh = 0 /\ MR Tryz.prog base ρ1 m1 (w.alloc (.cells #[.bool false] 4)):=by
  intro base ρ m m1 w b hm hn
  obtain ⟨ρ1,l1,e1,hm1,_⟩:=hm.new hn #[.bool false] (by simp) (fun i a ha=>by
   cases i with
   | zero=>simp at ha; subst ha; exact ⟨.bool false,by simp,by simp [VR]⟩
   | succ i=>simp at ha) (0,0) (fun i _=>.inr rfl)
  exact ⟨ρ1,_,l1,e1,rfl,rfl,hm1⟩
 refine ⟨by kernel_rfl,fun base ρ m w g F C b m1 m2 m3 hm hn hw hg hcall=>?_,fun base ρ m w g F C b m1 m2 m3 hm hn hw hg hcall=>?_⟩
 ·obtain ⟨ρ1,r,l1,e1,r1,r2,hm1⟩:=start hm hn
  have hb0 : Below base w (w.alloc (.cells #[.bool false] 4)):=(Below.refl _ _).alloc hm.low _
  have cs : ∀ ρ' w',ρ1.le ρ' -> MR Tryz.prog base ρ' m2 w' -> _:=fun ρ' w' hρ hm'=>hm'.cellset hw (show VR ρ' (.bool true) (.bool true) by simp [VR]) (hρ b r e1)
  rw [r1,r2] at cs
  refine (YQ g F C w (fun w'=>∃ ρ',ρ1.le ρ' /\ MR Tryz.prog base ρ' m2 w' /\ Below base (w.alloc (.cells #[.bool false] 4)) w') hg ?_ ?_).mono ?_
  ·rintro w' ⟨ρ',hρ,hm',_⟩
   obtain ⟨q1,q2,_⟩:=cs ρ' w' hρ hm'
   exact ⟨q1,q2⟩
  ·refine (hcall ρ1 _ l1 hm1).mono ?_
   rintro e w' ⟨ρ',u,q1,rfl,q3,q4⟩
   exact ⟨⟨u,rfl⟩,ρ',q1,q3,q4⟩
  ·rintro e w' ⟨rfl,w1,⟨ρ',hρ,hm',hb'⟩,rfl⟩
   obtain ⟨_,_,_,q4,q5⟩:=cs ρ' w1 hρ hm'
   exact ⟨ρ',Map.le_trans l1 hρ,rfl,q4,(hb0.trans hb').trans q5⟩
 ·obtain ⟨ρ1,r,l1,e1,r1,r2,hm1⟩:=start hm hn
  have hb0 : Below base w (w.alloc (.cells #[.bool false] 4)):=(Below.refl _ _).alloc hm.low _
  have cs : ∀ ρ' w',ρ1.le ρ' -> MR Tryz.prog base ρ' m2 w' -> _:=fun ρ' w' hρ hm'=>hm'.cellset hw (show VR ρ' (.bool false) (.bool false) by simp [VR]) (hρ b r e1)
  rw [r1,r2] at cs
  refine (hold_no g F C w (fun w'=>∃ ρ',ρ1.le ρ' /\ MR Tryz.prog base ρ' m2 w' /\ Below base (w.alloc (.cells #[.bool false] 4)) w') hg ?_ ?_).mono ?_
  ·rintro w' ⟨ρ',hρ,hm',_⟩
   obtain ⟨q1,q2,q3,_⟩:=cs ρ' w' hρ hm'
   exact ⟨q1,q2,q3⟩
  ·refine (hcall ρ1 _ l1 hm1).mono ?_
   rintro e w' ⟨ρ',q1,rfl,q3,q4⟩
   exact ⟨rfl,ρ',q1,q3,q4⟩
  ·rintro e w' ⟨rfl,w1,⟨ρ',hρ,hm',hb'⟩,rfl⟩
   have hbw : Below w1.heap.size w1 (w1.alloc (.cells #[] 186)):=(Below.refl _ _).alloc (Nat.le_refl _) _
   have hm2:=hm'.below hbw
   obtain ⟨_,_,_,q4,q5⟩:=cs ρ' _ hρ hm2
   exact ⟨ρ',Map.le_trans l1 hρ,rfl,q4,((hb0.trans hb').trans (hbw.mono hm'.low)).trans q5⟩
end Go.Proofs.YtdljelicbnjfjaaGreat.X
set_option maxRecDepth 100000
namespace Go.Proofs
open Go.Shelf
def Tryz.laysSort_ren : Go.Shelf.Ren:=⟨fun | 189=>64 | 125=>115 | 257=>114 | 128=>154 | 129=>155 | 294=>145 | 295=>146 | 296=>147 | 297=>148 | 298=>149 | 299=>150 | 216=>151 | 300=>152 | 301=>153 | 328=>201 | 329=>202 | 330=>203 | 331=>204 | 332=>205 | 215=>206 | 343=>220 | n=>n,fun | 28=>36 | 3=>3 | 46=>56 | 0=>0 | 51=>183 | 53=>169 | 4=>4 | 183=>175 | 182=>174 | 131=>180 | 5=>5 | 9=>9 | 218=>229 | 222=>131 | 228=>247 | 229=>248 | n=>n,fun | n=>n⟩
theorem Tryz.laysSort : Lays.n189 Tryz.prog Tryz.laysSort_ren where
 mixed:=by kernel_rfl
 f125:=Tryz.func115.trans (congrArg some (by kernel_rfl))
 f128:=Tryz.func154.trans (congrArg some (by kernel_rfl))
 f129:=Tryz.func155.trans (congrArg some (by kernel_rfl))
 f189:=Tryz.func64.trans (congrArg some (by kernel_rfl))
 f215:=Tryz.func206.trans (congrArg some (by kernel_rfl))
 f216:=Tryz.func151.trans (congrArg some (by kernel_rfl))
 f257:=Tryz.func114.trans (congrArg some (by kernel_rfl))
 f294:=Tryz.func145.trans (congrArg some (by kernel_rfl))
 f295:=Tryz.func146.trans (congrArg some (by kernel_rfl))
 f296:=Tryz.func147.trans (congrArg some (by kernel_rfl))
 f297:=Tryz.func148.trans (congrArg some (by kernel_rfl))
 f298:=Tryz.func149.trans (congrArg some (by kernel_rfl))
 f299:=Tryz.func150.trans (congrArg some (by kernel_rfl))
 f300:=Tryz.func152.trans (congrArg some (by kernel_rfl))
 f301:=Tryz.func153.trans (congrArg some (by kernel_rfl))
 f328:=Tryz.func201.trans (congrArg some (by kernel_rfl))
 f329:=Tryz.func202.trans (congrArg some (by kernel_rfl))
 f330:=Tryz.func203.trans (congrArg some (by kernel_rfl))
 f331:=Tryz.func204.trans (congrArg some (by kernel_rfl))
 f332:=Tryz.func205.trans (congrArg some (by kernel_rfl))
 f343:=Tryz.func220.trans (congrArg some (by kernel_rfl))
 t0:=Tryz.underlying0
 a0:=Tryz.isAgg0
 z0:=Tryz.sizeOf0
 v0:=Tryz.zeroValue0
 t3:=Tryz.underlying3
 a3:=Tryz.isAgg3
 z3:=Tryz.sizeOf3
 v3:=Tryz.zeroValue3
 t4:=Tryz.underlying4
 a4:=Tryz.isAgg4
 z4:=Tryz.sizeOf4
 v4:=Tryz.zeroValue4
 t5:=Tryz.underlying5
 a5:=Tryz.isAgg5
 z5:=Tryz.sizeOf5
 v5:=Tryz.zeroValue5
 t9:=Tryz.underlying9
 a9:=Tryz.isAgg9
 z9:=Tryz.sizeOf9
 v9:=Tryz.zeroValue9
 t28:=Tryz.underlying36
 a28:=Tryz.isAgg36
 z28:=Tryz.sizeOf36
 v28:=Tryz.zeroValue36
 t46:=Tryz.underlying56
 a46:=Tryz.isAgg56
 z46:=Tryz.sizeOf56
 v46:=Tryz.zeroValue56
 t51:=Tryz.underlying183
 a51:=Tryz.isAgg183
 z51:=Tryz.sizeOf183
 v51:=Tryz.zeroValue183
 t53:=Tryz.underlying169
 a53:=Tryz.isAgg169
 z53:=Tryz.sizeOf169
 v53:=Tryz.zeroValue169
 t131:=Tryz.underlying180
 a131:=Tryz.isAgg180
 z131:=Tryz.sizeOf180
 v131:=Tryz.zeroValue180
 t182:=Tryz.underlying174
 a182:=Tryz.isAgg174
 z182:=Tryz.sizeOf174
 v182:=Tryz.zeroValue174
 t183:=Tryz.underlying175
 a183:=Tryz.isAgg175
 z183:=Tryz.sizeOf175
 v183:=Tryz.zeroValue175
 t218:=Tryz.underlying229
 a218:=Tryz.isAgg229
 z218:=Tryz.sizeOf229
 v218:=Tryz.zeroValue229
 t222:=Tryz.underlying131
 a222:=Tryz.isAgg131
 z222:=Tryz.sizeOf131
 v222:=Tryz.zeroValue131
 t228:=Tryz.underlying247
 a228:=Tryz.isAgg247
 z228:=Tryz.sizeOf247
 v228:=Tryz.zeroValue247
 t229:=Tryz.underlying248
 a229:=Tryz.isAgg248
 z229:=Tryz.sizeOf248
 v229:=Tryz.zeroValue248
end Go.Proofs
namespace Go.Proofs.YtdljelicbnjfjaaGreat.X
open Go Go.RowKit Go.Sort
def S1 : Sp:=⟨161,119,4,none,some 64⟩
theorem SK {ρ : Map} : ∀ {cs : List AV} {zs : List Int} {us : List Value},JC cs = some zs -> VRL ρ cs us -> us = zs.map (Value.int .i64)
 | [],zs,us,h,hv=>by
  simp only [JC] at h
  injection h with h; subst h
  simpa [VRL] using hv
 | .int .i64 n :: l,zs,us,h,hv=>by
  simp only [JC] at h
  split at h
  ·rename_i r hr
   injection h with h; subst h
   simp only [VRL,VR] at hv
   obtain ⟨y,ys,rfl,rfl,hv⟩:=hv
   rw [SK hr hv]; rfl
  ·cases h
theorem TE {ρ : Map} : ∀ (zs : List Int),VRL ρ (zs.map fun n=>.int .i64 n) (zs.map (Value.int .i64))
 | []=>by simp [VRL]
 | z :: zs=>by
  simp only [List.map_cons,VRL,VR]
  exact ⟨_,_,rfl,rfl,TE zs⟩
theorem sortOk : cC Tryz.prog 64:=by
 refine ⟨by kernel_rfl,fun base ρ m w args args' r m' h ha hm=>?_⟩
 have nothing : ∀ (p : Option Addr) (cap : Nat),Calls Tryz.prog 64 #[.slice p 0 cap] w fun e w'=>AV.tup [] = .tup [] /\ e = .returned (.tuple #[]) /\ MR Tryz.prog base ρ m w' /\ Below base w w':=fun p cap=>by
  have c:=Any.slices_Sort_int_none Tryz.laysSort p cap w
  refine Calls.mono c ?_
  rintro e w' ⟨rfl,rfl⟩
  exact ⟨rfl,rfl,hm,Below.refl _ _⟩
 unfold KN at h
 split at h
 ·injection h with h; injection h with h2 h3
  subst h2 h3
  simp only [VRL,VR] at ha
  obtain ⟨u,us,rfl,rfl,rfl⟩:=ha
  exact nothing none 0
 ·rename_i b off len cap
  simp only [VRL] at ha
  obtain ⟨u,us,rfl,hu,rfl⟩:=ha
  have hu':=hu
  simp only [VR] at hu
  obtain ⟨rg,a,c',q1,q2,q3,rfl⟩:=hu
  split at h
  ·rename_i h0
   subst h0
   injection h with h; injection h with h2 h3
   subst h2 h3
   exact nothing (some a) c'
  ·rename_i h0
   split at h
   ·rename_i hlt
    split at h
    ·rename_i cs hr
     split at h
     ·rename_i zs hz
      split at h
      ·rename_i m1 hw
       injection h with h; injection h with h2 h3
       subst h2 h3
       obtain ⟨r',hρ',hlen,_,us,hvr,hul,hus⟩:=hm.read hr
       rw [q1] at hρ'
       injection hρ' with hρ'
       subst hρ'
       have hu2:=SK hz hvr
       have hzl : zs.length = len:=by
        have:=congrArg List.length hu2
        simp at this; omega
       rcases q3 with rfl | ⟨q3,_⟩
       ·have hw0:=hw
        unfold Mem.write at hw
        split at hw
        ·rename_i known e0 hg
         split at hw
         ·rename_i hle
          obtain ⟨_,r0,hr0,carr,e',fr,h1,h2,h3,h4,h5⟩:=hm.dom b _ hg
          rw [q1] at hr0
          injection hr0 with hr0
          subst hr0
          obtain ⟨hb,he,_,_,hfr⟩:=h5 rfl
          have hsl : (CG zs).length = len:=by unfold CG; simp [hzl]
          have hroom : rg.sh + off + len <= carr.size:=by
           have:=hle.1
           simp [hsl] at this
           omega
          have hH : Holds (Value.int .i64) w rg.cb (rg.sh + off) zs.toArray:=by
           intro j hj
           have hj' : j < zs.length:=by simpa using hj
           refine ⟨?_,?_⟩
           ·have:=hus j (.int .i64 zs[j]) (by rw [hu2]; simp [hj'])
            rw [this]
            simp [hj']
           ·have:=hfr (rg.sh + off + j) (by omega)
            simp only [World.frozen?,h1,Bool.and_eq_false_iff,decide_eq_false_iff_not]
            omega
          have c:=Any.slices_Sort_int Tryz.laysSort rg.cb (rg.sh + off) c' zs w hH (Array.getElem?_eq_some_iff.1 h1).1 (by rw [hzl]; exact hlt)
          rw [hzl] at c
          refine Calls.mono c ?_
          rintro e w' ⟨rfl,n,os,rfl⟩
          have hupd : Upd w (putRow (Value.int .i64) (Sort.ahead w n) rg.cb (rg.sh + off) (CG zs).toArray) rg.cb (putCells (Value.int .i64) (rg.sh + off) (CG zs).toArray carr) e' fr:=by
           refine ⟨?_,fun k hk=>?_,by simp,rfl,rfl,rfl⟩
           ·simp [putRow,mapBlock,Sort.ahead,Array.getElem?_modify,h1,onCells]
           ·simp [putRow,mapBlock,Sort.ahead,Array.getElem?_modify,show rg.cb ≠ k from fun e=>hk e.symm]
          have hmr:=hm.write hw0 (TE (CG zs)) q1 h1 hupd (by simp [putCells]) (fun k=>by
           simp only [putCells,Array.getElem?_mapIdx,List.length_map,hsl,List.size_toArray]
           by_cases hk : rg.sh + off <= k /\ k < rg.sh + off + len
           ·rw [if_pos hk]
            have hkc : k < carr.size:=by omega
            have hks : k - (rg.sh + off) < (CG zs).length:=by omega
            simp [hkc,hk,hks]
           ·rw [if_neg hk]
            cases hc : carr[k]? with
            | none=>rfl
            | some x=>simp only [Option.map_some]; rw [if_neg hk])
          have hbl : ∀ B,B <= (putRow (Value.int .i64) (Sort.ahead w n) rg.cb (rg.sh + off) (CG zs).toArray).heap.size -> Below B (putRow (Value.int .i64) (Sort.ahead w n) rg.cb (rg.sh + off) (CG zs).toArray) (Go.Sort.grow (putRow (Value.int .i64) (Sort.ahead w n) rg.cb (rg.sh + off) (CG zs).toArray) os):=fun B hB=>
           ⟨rfl,rfl,rfl,by simp,fun k hk=>heap_grow_old _ _ (by omega)⟩
          have hsz : (putRow (Value.int .i64) (Sort.ahead w n) rg.cb (rg.sh + off) (CG zs).toArray).heap.size = w.heap.size:=by simp
          refine ⟨rfl,rfl,hmr.below (hbl _ (Nat.le_refl _)),Below.trans ?_ (hbl base (by rw [hsz]; exact hm.low))⟩
          exact ⟨rfl,rfl,rfl,Nat.le_of_eq hsz.symm,fun k hk=>hupd.else_ k (by omega)⟩
         ·cases hw
        ·cases hw
       ·exact absurd q3 h0
      ·cases h
     ·cases h
    ·cases h
   ·cases h
 ·cases h
theorem lives1 : RE Tryz.prog S1:=⟨fun f h=>(by cases h),fun f h=>by
 have : f = 64:=Nat.eq_of_beq_eq_true h
 subst this; exact sortOk⟩
end Go.Proofs.YtdljelicbnjfjaaGreat.X
namespace Go.Proofs.YtdljelicbnjfjaaGreat.X
open Go
def JO (c c' : BN) : Prop:=∀ f a m r,c f a m = some r -> c' f a m = some r
theorem NH {c c' : BN} (h : JO c c') {b : Nat} {tm : List AV} {m : Mem} {op : IOp} {r : AV × Mem} (he : A1 c b tm m op = some r) : A1 c' b tm m op = some r:=by
 cases op
 case call f args=>exact h _ _ _ _ he
 case callv x args=>
  have he' : (match x.eval tm with | .fn f first cap=>c f (first ++ args.map (·.eval tm) ++ cap) m | _=>none) = some r:=he
  show (match x.eval tm with | .fn f first cap=>c' f (first ++ args.map (·.eval tm) ++ cap) m | _=>none) = some r
  cases hx : x.eval tm with
  | fn f first cap=>
   rw [hx] at he'
   exact h _ _ _ _ he'
  | _=>rw [hx] at he'; cases he'
 case ld n x=>cases n <;> exact he
 case cv s k x=>cases k <;> exact he
 case ia a e x i=>cases a <;> exact he
 case ix a x i=>rcases a with _ | ⟨_,_,_⟩ <;> exact he
 case len s x=>cases s <;> exact he
 all_goals exact he
theorem IR {c c' : BN} (h : JO c c') {b : Nat} : ∀ {l : List Step} {s s' : St},A9 c b l s = some s' -> A9 c' b l s = some s'
 | [],_,_,he=>he
 | i :: l,s,s',he=>by
  simp only [A9] at he ⊢
  split at he
  ·rename_i hw
   rw [if_pos hw]
   split at he
   ·rename_i v m' hv
    rw [NH h hv]
    simp only
    split at he
    ·rename_i hc
     rw [if_pos hc]
     exact IR h he
    ·cases he
   ·cases he
  ·rename_i hw
   rw [if_neg hw]
   exact IR h he
theorem N0 {f g : St -> Option (Ex × St)} (h : ∀ s r,f s = some r -> g s = some r) : ∀ {k k' : Nat} {s : St} {r : Ex × St},k <= k' -> D9 f k s = some r -> D9 g k' s = some r
 | 0,_,_,_,_,he=>by simp [D9] at he
 | k + 1,0,_,_,hk,_=>by omega
 | k + 1,k' + 1,s,r,hk,he=>by
  simp only [D9] at he ⊢
  cases hf : f s with
  | none=>simp [hf] at he
  | some x=>
   rw [h s x hf]
   obtain ⟨e,s'⟩:=x
   rw [hf] at he
   cases e with
   | norm=>exact N0 h (by omega) he
   | exit i=>exact he
   | ret=>exact he
theorem HP {c c' : BN} (h : JO c c') {k k' : Nat} (hk : k <= k') : ∀ {code : D1} {s : St} {r : Ex × St},evC c k code s = some r -> evC c' k' code s = some r
 | .skip,_,_,he=>he
 | .reg n _ _ ops,s,r,he=>by
  simp only [evC] at he ⊢
  split at he
  ·rename_i s' hs
   rw [IR h hs]
   exact he
  ·cases he
 | .seq a b,s,r,he=>by
  simp only [evC] at he ⊢
  cases ha : evC c k a s with
  | none=>simp [ha] at he
  | some x=>
   rw [HP h hk ha]
   rw [ha] at he
   obtain ⟨e,s'⟩:=x
   cases e with
   | norm=>exact HP h hk he
   | exit i=>exact he
   | ret=>exact he
 | .cond x a b,s,r,he=>by
  simp only [evC] at he ⊢
  split at he
  ·exact HP h hk he
  ·exact HP h hk he
  ·cases he
 | .block id b,s,r,he=>by
  simp only [evC] at he ⊢
  cases ha : evC c k b s with
  | none=>simp [ha] at he
  | some x=>rw [HP h hk ha]; rw [ha] at he; exact he
 | .loop b,s,r,he=>by
  simp only [evC] at he ⊢
  exact N0 (fun s r h'=>HP h hk h') hk he
 | .exit id,_,_,he=>he
 | .ret,_,_,he=>he
def Runs (tab : Nat -> Option AN) (f : Nat) (args : List AV) (m : Mem) (r : AV) (m' : Mem) : Prop:=∃ k,evF tab k f args m = some (r,m')
def noCall : BN:=fun _ _ _=>none
def EvC (tab : Nat -> Option AN) (c : D1) (s : St) (Q : Ex -> St -> Prop) : Prop:=∃ k e s',evC (evF tab k) k c s = some (e,s') /\ Q e s'
def Mem.bump (m : Mem) (n : Nat) : Mem:=⟨m.next + n,m.t⟩
def optK (o : Option (AV × Mem)) (K : AV -> Mem -> Prop) : Prop:=match o with | some (v,m')=>K v m' | none=>False
@[congr] theorem optK_congr {o o' : Option (AV × Mem)} {K : AV -> Mem -> Prop} (h : o = o') : optK o K = optK o' K:=by rw [h]
def bQ (x : AV) (A B : Prop) : Prop:=match x with | .bool b=>if b = true then A else B | _=>False
@[congr] theorem boolK_congr {x x' : AV} {A B : Prop} (h : x = x') : bQ x A B = bQ x' A B:=by rw [h]
def T2 (c : Bool) (A B : Prop) : Prop:=if c = true then A else B
@[congr] theorem guardK_congr {c c' : Bool} {A B : Prop} (h : c = c') : T2 c A B = T2 c' A B:=by rw [h]
def chkK (c : Bool) (A : Prop) : Prop:=c = true /\ A
@[congr] theorem chkK_congr {c c' : Bool} {A : Prop} (h : c = c') : chkK c A = chkK c' A:=by rw [h]
def VW (tab : Nat -> Option AN) (f : Nat) (args : List AV) (m : Mem) (K : AV -> Mem -> Prop) : Prop:=∃ v m',Runs tab f args m v m' /\ K v m'
@[congr] theorem callK_congr {tab : Nat -> Option AN} {f : Nat} {args args' : List AV} {m m' : Mem} {K : AV -> Mem -> Prop} (h : args = args') (h' : m = m') : VW tab f args m K = VW tab f args' m' K:=by rw [h,h']
def wpOp (tab : Nat -> Option AN) (b : Nat) (tm : List AV) (m : Mem) (op : IOp) (K : AV -> Mem -> Prop) : Prop:=
 match op with
 | .call f args=>VW tab f (args.map (·.eval tm)) m K
 | .callv x args=>match x.eval tm with | .fn f a c=>VW tab f (a ++ args.map (·.eval tm) ++ c) m K | _=>False
 | op=>optK (A1 noCall b tm m op) K
def wpS (tab : Nat -> Option AN) (b : Nat) : List Step -> St -> (St -> Prop) -> Prop
 | [],s,Q=>Q s
 | i :: r,s,Q=>
  T2 (CA s.tm i.guard) (wpOp tab b s.tm s.m i.op fun v m'=>chkK (i.chk.all (D6 b s.tm m')) (wpS tab b r ⟨put s.tm i.dst v,m'⟩ Q)) (wpS tab b r ⟨put s.tm i.dst .undef,s.m⟩ Q)
def seqK (W : St -> Prop) (Q : Ex -> St -> Prop) (e : Ex) (s : St) : Prop:=match e with | .norm=>W s | e=>Q e s
def blockK (id : Nat) (Q : Ex -> St -> Prop) (e : Ex) (s : St) : Prop:=Q (match e with | .exit j=>if j = id then .norm else .exit j | e=>e) s
def wpC (tab : Nat -> Option AN) : D1 -> St -> (Ex -> St -> Prop) -> Prop
 | .skip,s,Q=>Q .norm s
 | .reg n _ _ ops,s,Q=>wpS tab s.m.next ops ⟨s.tm,s.m.bump n⟩ (Q .norm)
 | .seq a b,s,Q=>wpC tab a s (seqK (fun s'=>wpC tab b s' Q) Q)
 | .cond c a b,s,Q=>bQ (c.eval s.tm) (wpC tab a s Q) (wpC tab b s Q)
 | .block id c,s,Q=>wpC tab c s (blockK id Q)
 | .loop c,s,Q=>EvC tab (.loop c) s Q
 | .exit id,s,Q=>Q (.exit id) s
 | .ret,s,Q=>Q .ret s
@[congr] theorem wpS_congr {tab : Nat -> Option AN} {b : Nat} {l : List Step} {s s' : St} {Q : St -> Prop} (h : s = s') : wpS tab b l s Q = wpS tab b l s' Q:=by rw [h]
@[congr] theorem wpC_congr {tab : Nat -> Option AN} {c : D1} {s s' : St} {Q : Ex -> St -> Prop} (h : s = s') : wpC tab c s Q = wpC tab c s' Q:=by rw [h]
@[congr] theorem EvC_congr {tab : Nat -> Option AN} {c : D1} {s s' : St} {Q : Ex -> St -> Prop} (h : s = s') : EvC tab c s Q = EvC tab c s' Q:=by rw [h]
@[congr] theorem wpOp_congr {tab : Nat -> Option AN} {b : Nat} {tm tm' : List AV} {m m' : Mem} {op : IOp} {K : AV -> Mem -> Prop} (h : tm = tm') (h' : m = m') : wpOp tab b tm m op K = wpOp tab b tm' m' op K:=by rw [h,h']
end Go.Proofs.YtdljelicbnjfjaaGreat.X
namespace Go.Proofs.YtdljelicbnjfjaaGreat.X
open Go Go.RowKit
inductive Sh where
 | int (k : IntKind)
 | bool
 | str
 | sl (e : Sh)
 | st (fs : List Sh)
mutual
def Sh.size : Sh -> Nat
 | .st fs=>Sh.sizes fs
 | _=>1
def Sh.sizes : List Sh -> Nat
 | []=>0
 | s :: l=>s.size + Sh.sizes l
end
mutual
def I8 (P : Program) (t : TypeId) : Sh -> Bool
 | .int k=>match P.underlying t with | some (.int k')=>decide (k = k') | _=>false
 | .bool=>match P.underlying t with | some .bool=>true | _=>false
 | .str=>match P.underlying t with | some .string=>true | _=>false
 | .sl s=>match P.underlying t with | some (.slice e)=>I8 P e s && decide (P.cellsOf e = s.size) && decide (0 < s.size) && decide (0 < P.bytesOf e) | _=>false
 | .st ss=>match P.underlying t with | some (.struct fs)=>okShs P fs.toList 0 ss && decide (P.cellsOf t = Sh.sizes ss) | _=>false
def okShs (P : Program) : List Field -> Nat -> List Sh -> Bool
 | [],_,[]=>true
 | f :: fs,off,s :: ss=>decide (f.offset = off) && I8 P f.type s && decide (P.cellsOf f.type = s.size) && okShs P fs (off + s.size) ss
 | _,_,_=>false
end
variable {bd : Nat}
mutual
/-- The cells of a value of such a type. -/
def Sits (bd : Nat) (m : Mem) : Sh -> List AV -> Prop
 | .int k,l=>∃ n,l = [.int k n] /\ (Lit.int k n).wf = true
 | .bool,l=>∃ b,l = [.bool b]
 | .str,l=>∃ s : List UInt8,l = [.str s] /\ s.length <= bd
 | .sl s,l=>l = [.nilsl] \/ ∃ (b ei : Nat) (css : List (List AV)),l = [.sl b 0 css.length .any] /\ m.get b = some (.live css.flatten ei false) /\ css.length <= bd /\ ∀ c ∈ css,Sits bd m s c
 | .st ss,l=>SitsL bd m ss l
def SitsL (bd : Nat) (m : Mem) : List Sh -> List AV -> Prop
 | [],l=>l = []
 | s :: ss,l=>∃ l1 l2,l = l1 ++ l2 /\ Sits bd m s l1 /\ SitsL bd m ss l2
end
def Grows (m m' : Mem) : Prop:=m.next <= m'.next /\ ∀ b o,m.get b = some o -> m'.get b = some o
theorem Grows.refl (m : Mem) : Grows m m:=⟨Nat.le_refl _,fun _ _ h=>h⟩
theorem Grows.trans {a b c : Mem} (h : Grows a b) (h' : Grows b c) : Grows a c:=⟨Nat.le_trans h.1 h'.1,fun k o x=>h'.2 k o (h.2 k o x)⟩
mutual
theorem Sits.mono {m m' : Mem} (h : Grows m m') : ∀ (s : Sh) (l : List AV),Sits bd m s l -> Sits bd m' s l
 | .int _,_,hl=>by simpa only [Sits] using hl
 | .bool,_,hl=>by simpa only [Sits] using hl
 | .str,_,hl=>by simpa only [Sits] using hl
 | .sl s,l,hl=>by
  simp only [Sits] at hl ⊢
  rcases hl with hl | ⟨b,ei,css,h1,h2,h3,h4⟩
  ·exact .inl hl
  ·exact .inr ⟨b,ei,css,h1,h.2 _ _ h2,h3,fun c hc=>Sits.mono h s c (h4 c hc)⟩
 | .st ss,l,hl=>by
  simp only [Sits] at hl ⊢
  exact SitsL.mono h ss l hl
theorem SitsL.mono {m m' : Mem} (h : Grows m m') : ∀ (ss : List Sh) (l : List AV),SitsL bd m ss l -> SitsL bd m' ss l
 | [],_,hl=>by simpa only [SitsL] using hl
 | s :: ss,l,hl=>by
  simp only [SitsL] at hl ⊢
  obtain ⟨l1,l2,h1,h2,h3⟩:=hl
  exact ⟨l1,l2,h1,Sits.mono h s l1 h2,SitsL.mono h ss l2 h3⟩
end
mutual
theorem Sits.facts {m : Mem} : ∀ (s : Sh) (l : List AV),Sits bd m s l -> leaves l = true /\ l.length = s.size
 | .int _,_,hl=>by simp only [Sits] at hl; obtain ⟨_,rfl,_⟩:=hl; exact ⟨rfl,rfl⟩
 | .bool,_,hl=>by simp only [Sits] at hl; obtain ⟨_,rfl⟩:=hl; exact ⟨rfl,rfl⟩
 | .str,_,hl=>by simp only [Sits] at hl; obtain ⟨_,rfl,_⟩:=hl; exact ⟨rfl,rfl⟩
 | .sl s,l,hl=>by
  simp only [Sits] at hl
  rcases hl with rfl | ⟨b,ei,css,rfl,_⟩
  ·exact ⟨rfl,rfl⟩
  ·exact ⟨rfl,rfl⟩
 | .st ss,l,hl=>by
  simp only [Sits] at hl
  have:=SitsL.facts ss l hl
  exact ⟨this.1,by simpa only [Sh.size] using this.2⟩
theorem SitsL.facts {m : Mem} : ∀ (ss : List Sh) (l : List AV),SitsL bd m ss l -> leaves l = true /\ l.length = Sh.sizes ss
 | [],_,hl=>by simp only [SitsL] at hl; subst hl; exact ⟨rfl,rfl⟩
 | s :: ss,l,hl=>by
  simp only [SitsL] at hl
  obtain ⟨l1,l2,rfl,h2,h3⟩:=hl
  have a:=Sits.facts s l1 h2
  have b:=SitsL.facts ss l2 h3
  refine ⟨DS fun x hx=>?_,by simp only [List.length_append,Sh.sizes,a.2,b.2]⟩
  rcases List.mem_append.1 hx with hx | hx
  ·exact C9 a.1 x hx
  ·exact C9 b.1 x hx
end
def O8 (m : Mem) : Prop:=∀ b cs e own,m.get b = some (.live cs e own) -> own = false
theorem MR.lay {P : Program} {base : Nat} {ρ : Map} {m : Mem} {w : World} (h : MR P base ρ m w) (hb : O8 m) {cs : List AV} {e : Nat} {r : Reg} (ho : OR P ρ base w r (.live cs e false)) :
  ∃ ρ',ρ.le ρ' /\ ρ' m.next = some r /\ MR P base ρ' ⟨m.next + 1,m.t.set m.next (.live cs e false)⟩ w /\ Grows m ⟨m.next + 1,m.t.set m.next (.live cs e false)⟩ /\ O8 ⟨m.next + 1,m.t.set m.next (.live cs e false)⟩ /\ Mem.get ⟨m.next + 1,m.t.set m.next (.live cs e false)⟩ m.next = some (.live cs e false):=by
 have hget : ∀ b,Mem.get ⟨m.next + 1,m.t.set m.next (.live cs e false)⟩ b = if b = m.next then some (.live cs e false) else m.get b:=fun b=>T.get_set ..
 have hno : ρ m.next = none:=by
  cases hx : ρ m.next with
  | none=>rfl
  | some r=>exact absurd (h.lt hx) (Nat.lt_irrefl _)
 have hle : ρ.le (fun b=>if b = m.next then some r else ρ b):=fun b q hq=>by
  have : b ≠ m.next:=fun e=>by rw [e,hno] at hq; cases hq
  simp [this,hq]
 have hold : ∀ b o,m.get b = some o -> b < m.next:=fun b o hbo=>(h.dom b o hbo).1
 refine ⟨fun b=>if b = m.next then some r else ρ b,hle,by simp,⟨fun b o hbo=>?_,fun b q hq=>?_,h.low,fun b b' cs' e' o' q q' h1=>?_⟩,⟨Nat.le_succ _,fun b o hbo=>?_⟩,fun b cs' e' own hbo=>?_,by rw [hget]; simp⟩
 ·rw [hget] at hbo
  split at hbo
  ·rename_i hbe
   injection hbo with hbo
   subst hbo
   exact ⟨by subst hbe; exact Nat.lt_succ_self _,r,by simp [hbe],ho.mono hle⟩
  ·obtain ⟨h1,q,h2,h3⟩:=h.dom b o hbo
   exact ⟨Nat.lt_succ_of_lt h1,q,hle _ _ h2,h3.mono hle⟩
 ·rw [hget]
  split
  ·simp
  ·rename_i hbe
   simp only [hbe,if_false] at hq
   exact h.used b q hq
 ·rw [hget] at h1
  split at h1
  ·injection h1 with h1; injection h1 with _ _ h1; cases h1
  ·have:=hb _ _ _ _ h1; cases this
 ·rw [hget]
  have:=hold b o hbo
  rw [if_neg (by omega)]
  exact hbo
 ·rw [hget] at hbo
  split at hbo
  ·injection hbo with hbo; injection hbo with _ _ h1; exact h1.symm
  ·exact hb _ _ _ _ hbo
section
variable {H : Type} {enc : TypeId × Value -> H} {P : Program} {w : World} {base : Nat}
def O3 (w : World) (cs : List Value) : Prop:=(∃ a n c,Value.slice (some a) n c ∈ cs) -> ∃ (b : Nat) (carr : Array Value) (e : TypeId) (fr : Nat × Nat),w.heap[b]? = some (Go.Obj.cells carr e fr)
structure WY (P : Program) (base : Nat) (w : World) (ρ : Map) (m : Mem) (cs : List Value) (Q : Mem -> List AV -> Prop) (ρ' : Map) (m' : Mem) (l : List AV) : Prop where
 le : ρ.le ρ'
 mr : MR P base ρ' m' w
 bare : O8 m'
 grows : Grows m m'
 vr : VRL ρ' l cs
 sits : Q m' l
theorem IT {a : Addr} {v : Value} (h : w.cell? a = some v) : a.spot = none /\ ∃ carr e fr,w.heap[a.block]? = some (.cells carr e fr) /\ carr[a.off]? = some v:=by
 unfold World.cell? at h
 split at h
 ·rename_i c e fr hc
  split at h
  ·cases h
  ·rename_i hs
   refine ⟨by simpa using hs,c,e,fr,hc,h⟩
 ·cases h
theorem XR {e : TypeId} {s : Sh} {sp : Nat -> Bool} {held : Bool} {n : Nat} {a : Addr} (hpos : 0 < s.size) (hsz : P.cellsOf e = s.size)
  (ih : ∀ (cs : List Value) (x : DataW H × List MemPlace),(∀ k ∈ x.1.weights P e,k <= bd) -> DataW.trod enc P w 0 sp held n e cs = some x -> O3 w cs -> ∀ ρ m,MR P base ρ m w -> O8 m -> ∃ ρ' m' l,WY P base w ρ m cs (fun m l=>Sits bd m s l) ρ' m' l) :
  ∀ (len i0 : Nat) (elems : List (DataW H × List MemPlace)),(∀ x ∈ elems,∀ k ∈ x.1.weights P e,k <= bd) -> elems.length = len -> (∀ i,i < len -> (w.cells? 0 (a.add ((i0 + i) * P.cellsOf e)) (P.cellsOf e)).bind (DataW.trod enc P w 0 sp held n e) = elems[i]?) ->
   ∀ ρ m,MR P base ρ m w -> O8 m -> ∃ (ρ' : Map) (m' : Mem) (css : List (List AV)) (cs : List Value),WY P base w ρ m cs (fun m l=>l = css.flatten /\ css.length = len /\ ∀ c ∈ css,Sits bd m s c) ρ' m' css.flatten /\ cs.length = len * s.size /\
    ∀ j u,cs[j]? = some u -> w.cell? (a.add (i0 * s.size + j)) = some u:=by
 intro len
 induction len with
 | zero=>
  intro i0 elems _ _ _ ρ m hm hb
  exact ⟨ρ,m,[],[],⟨ρ.le_refl,hm,hb,Grows.refl _,VRL.nil',rfl,rfl,fun c hc=>by cases hc⟩,by simp,fun j u hj=>by simp at hj⟩
 | succ len ihl=>
  intro i0 elems hwt hlen hel ρ m hm hb
  obtain ⟨x,elems,rfl⟩ : ∃ x l,elems = x :: l:=by cases elems <;> simp at hlen; exact ⟨_,_,rfl⟩
  have h0:=hel 0 (by omega)
  simp only [Nat.add_zero,List.getElem?_cons_zero,Option.bind_eq_some_iff] at h0
  obtain ⟨c0,hc0,hx⟩:=h0
  obtain ⟨_,hl0,hcell⟩:=World.cells?_some hc0
  have hw : ∃ (b : Nat) (carr : Array Value) (e : TypeId) (fr : Nat × Nat),w.heap[b]? = some (Go.Obj.cells carr e fr):=by
   have:=hcell 0 (by omega)
   cases hz : c0[0]? with
   | none=>rw [List.getElem?_eq_none_iff] at hz; omega
   | some v=>
    rw [hz] at this
    obtain ⟨_,carr,e,fr,h1,_⟩:=IT this
    exact ⟨_,carr,e,fr,h1⟩
  obtain ⟨ρ1,m1,l1,L1⟩:=ih c0 x (hwt x (by simp)) hx (fun _=>hw) ρ m hm hb
  obtain ⟨ρ2,m2,css,cs,L2,hcl,hcs⟩:=ihl (i0 + 1) elems (fun x hx=>hwt x (by simp [hx])) (by simpa using hlen) (fun i hi=>by
   have:=hel (i + 1) (by omega)
   rw [show i0 + (i + 1) = i0 + 1 + i by omega] at this
   simpa using this) ρ1 m1 L1.mr L1.bare
  have hs1:=L1.sits.mono L2.grows
  refine ⟨ρ2,m2,l1 :: css,c0 ++ cs,⟨Map.le_trans L1.le L2.le,L2.mr,L2.bare,L1.grows.trans L2.grows,?_,rfl,by simp [L2.sits.2.1],?_⟩,by rw [List.length_append,hl0,hcl,hsz,Nat.succ_mul]; omega,?_⟩
  ·simp only [List.flatten_cons]
   exact (VRL.mono L2.le _ _ L1.vr).append L2.vr
  ·intro c hc
   rcases List.mem_cons.1 hc with rfl | hc
   ·exact hs1
   ·exact L2.sits.2.2 c hc
  ·intro j u hj
   by_cases hjl : j < c0.length
   ·rw [List.getElem?_append_left hjl] at hj
    have:=hcell j (by omega)
    rw [hj,hsz,Addr.add_add] at this
    exact this
   ·rw [List.getElem?_append_right (by omega)] at hj
    have:=hcs _ u hj
    rw [show i0 * s.size + j = (i0 + 1) * s.size + (j - c0.length) by rw [Nat.succ_mul,hl0,hsz]; omega]
    exact this
theorem M2 {sp : Nat -> Bool} {held : Bool} {n : Nat} : ∀ (fs : List Field) (ss : List Sh) (off : Nat) (xs : List (DataW H × List MemPlace)) (cs : List Value),
  (∀ s ∈ ss,∀ t cs x,I8 P t s = true -> (∀ k ∈ x.1.weights P t,k <= bd) -> DataW.trod enc P w 0 sp held n t cs = some x -> O3 w cs -> ∀ ρ m,MR P base ρ m w -> O8 m -> ∃ ρ' m' l,WY P base w ρ m cs (fun m l=>Sits bd m s l) ρ' m' l) ->
  okShs P fs off ss = true -> (∀ k ∈ DataW.weightsEach P (fs.map (·.type)) (xs.map (·.1)),k <= bd) -> xs.length = fs.length -> cs.length = off + Sh.sizes ss -> (∀ (i : Nat) (f : Field),fs[i]? = some f -> DataW.trod enc P w 0 sp held n f.type ((cs.drop f.offset).take (P.cellsOf f.type)) = xs[i]?) -> O3 w cs ->
  ∀ ρ m,MR P base ρ m w -> O8 m -> ∃ ρ' m' l,WY P base w ρ m (cs.drop off) (fun m l=>SitsL bd m ss l) ρ' m' l
 | [],[],off,xs,cs,_,_,_,_,hlen,_,_,ρ,m,hm,hb=>by
  refine ⟨ρ,m,[],ρ.le_refl,hm,hb,Grows.refl _,?_,by simp only [SitsL]⟩
  rw [List.drop_eq_nil_of_le (by simp only [Sh.sizes] at hlen; omega)]
  exact VRL.nil'
 | [],_ :: _,_,_,_,_,h,_,_,_,_,_,_,_,_,_=>by simp [okShs] at h
 | _ :: _,[],_,_,_,_,h,_,_,_,_,_,_,_,_,_=>by simp [okShs] at h
 | f :: fs,s :: ss,off,xs,cs,ih,h,hwt,hxl,hlen,hf,h1,ρ,m,hm,hb=>by
  simp only [okShs,Bool.and_eq_true,decide_eq_true_eq] at h
  obtain ⟨⟨⟨ho,hs⟩,hz⟩,hrest⟩:=h
  obtain ⟨x,xs,rfl⟩ : ∃ x l,xs = x :: l:=by cases xs <;> simp at hxl; exact ⟨_,_,rfl⟩
  have hx:=hf 0 f rfl
  simp only [List.getElem?_cons_zero] at hx
  simp only [List.map_cons,DataW.weightsEach,List.mem_append] at hwt
  have sub : ∀ (k j : Nat),O3 w ((cs.drop k).take j):=fun k j ⟨a,c,d,hm⟩=>h1 ⟨a,c,d,List.mem_of_mem_drop (List.mem_of_mem_take hm)⟩
  obtain ⟨ρ1,m1,l1,L1⟩:=ih s (by simp) _ _ _ hs (fun k hk=>hwt k (.inl hk)) hx (sub _ _) ρ m hm hb
  obtain ⟨ρ2,m2,l2,L2⟩:=M2 fs ss (off + s.size) xs cs (fun s' hs'=>ih s' (by simp [hs'])) hrest (fun k hk=>hwt k (.inr hk)) (by simpa using hxl) (by simp only [Sh.sizes] at hlen; omega) (fun i f' hf'=>by simpa using hf (i + 1) f' (by simpa using hf')) h1 ρ1 m1 L1.mr L1.bare
  refine ⟨ρ2,m2,l1 ++ l2,Map.le_trans L1.le L2.le,L2.mr,L2.bare,L1.grows.trans L2.grows,?_,?_⟩
  ·have:=(VRL.mono L2.le _ _ L1.vr).append L2.vr
   rw [ho,hz,show cs.drop (off + s.size) = (cs.drop off).drop s.size by rw [List.drop_drop],List.take_append_drop] at this
   exact this
  ·simp only [SitsL]
   exact ⟨l1,l2,rfl,L1.sits.mono L2.grows,L2.sits⟩
mutual
theorem laid {sp : Nat -> Bool} {held : Bool} : ∀ (s : Sh) (n : Nat) (t : TypeId) (cs : List Value) (x : DataW H × List MemPlace),I8 P t s = true -> (∀ k ∈ x.1.weights P t,k <= bd) -> DataW.trod enc P w 0 sp held n t cs = some x -> O3 w cs ->
  ∀ ρ m,MR P base ρ m w -> O8 m -> ∃ ρ' m' l,WY P base w ρ m cs (fun m l=>Sits bd m s l) ρ' m' l
 | .int k,n,t,cs,x,hok,hwt,hx,_,ρ,m,hm,hb=>by
  unfold I8 at hok
  split at hok
  ·rename_i k' ht
   simp only [decide_eq_true_eq] at hok
   subst hok
   obtain ⟨q,rfl,_,hw⟩:=DataW.trod_int ht hx
   exact ⟨ρ,m,[.int k q],ρ.le_refl,hm,hb,Grows.refl _,.cons (by simp [VR]) VRL.nil',by simp only [Sits]; exact ⟨q,rfl,hw⟩⟩
  ·cases hok
 | .bool,n,t,cs,x,hok,hwt,hx,_,ρ,m,hm,hb=>by
  unfold I8 at hok
  split at hok
  ·rename_i ht
   obtain ⟨q,rfl,_⟩:=DataW.trod_bool ht hx
   exact ⟨ρ,m,[.bool q],ρ.le_refl,hm,hb,Grows.refl _,.cons (by simp [VR]) VRL.nil',by simp only [Sits]; exact ⟨q,rfl⟩⟩
  ·cases hok
 | .str,n,t,cs,x,hok,hwt,hx,_,ρ,m,hm,hb=>by
  unfold I8 at hok
  split at hok
  ·rename_i ht
   obtain ⟨q,rfl,rfl,hw⟩:=DataW.trod_string ht hx
   exact ⟨ρ,m,[.str q.data.toList],ρ.le_refl,hm,hb,Grows.refl _,.cons (by simp [VR]) VRL.nil',by simp only [Sits]; exact ⟨_,rfl,hwt _ (by simp [DataW.weights])⟩⟩
  ·cases hok
 | .st ss,n,t,cs,x,hok,hwt,hx,h1,ρ,m,hm,hb=>by
  unfold I8 at hok
  split at hok
  ·rename_i fs ht
   simp only [Bool.and_eq_true,decide_eq_true_eq] at hok
   obtain ⟨xs,n',rfl,rfl,hl,hxl,hf⟩:=DataW.trod_struct ht hx
   have hwt' : ∀ k ∈ DataW.weightsEach P (fs.toList.map (·.type)) (xs.map (·.1)),k <= bd:=fun k hk=>hwt k (by simp only [DataW.weights,ht]; exact hk)
   obtain ⟨ρ',m',l,L⟩:=M2 fs.toList ss 0 xs cs (fun s hs t cs x hok hw hx=>laids ss s hs n' t cs x hok hw hx) hok.1 hwt' (by simpa using hxl) (by rw [hl,hok.2]; omega) (fun i f hf'=>hf i f (by simpa using hf')) h1 ρ m hm hb
   exact ⟨ρ',m',l,L.le,L.mr,L.bare,L.grows,by simpa using L.vr,by simp only [Sits]; exact L.sits⟩
  ·cases hok
 | .sl s,n,t,cs,x,hok,hwt,hx,h1,ρ,m,hm,hb=>by
  unfold I8 at hok
  split at hok
  ·rename_i e ht
   simp only [Bool.and_eq_true,decide_eq_true_eq] at hok
   obtain ⟨⟨⟨hs,hsz⟩,hpos⟩,hby⟩:=hok
   rcases DataW.trod_slice ht hx with ⟨rfl,_⟩ | ⟨a,len,cap,elems,rest,n',rfl,rfl,hxe,_,hlc,hcm,hel,hE,_⟩
   ·exact ⟨ρ,m,[.nilsl],ρ.le_refl,hm,hb,Grows.refl _,.cons (by simp [VR]) VRL.nil',by simp [Sits]⟩
   ·subst hxe
    simp only [DataW.weights,ht] at hwt
    have hwall : ∀ (ds : List (DataW H)) (d : DataW H),d ∈ ds -> ∀ k ∈ d.weights P e,k ∈ DataW.weightsAll P e ds:=by
     intro ds
     induction ds with
     | nil=>intro d hd; cases hd
     | cons d0 ds ih=>
      intro d hd k hk
      simp only [DataW.weightsAll,List.mem_append]
      rcases List.mem_cons.1 hd with rfl | hd
      ·exact .inl hk
      ·exact .inr (ih d hd k hk)
    have hwe : ∀ x ∈ elems,∀ k ∈ x.1.weights P e,k <= bd:=fun x hx k hk=>hwt k (List.mem_cons_of_mem _ (List.mem_append_left _ (hwall _ x.1 (List.mem_map_of_mem hx) k hk)))
    have hlenb : len <= bd:=by
     have h1:=hwt _ (List.mem_cons_self ..)
     simp only [List.length_map,hel] at h1
     have h2 : len * 1 <= (len + rest.length) * P.bytesOf e:=Nat.mul_le_mul (Nat.le_add_right _ _) hby
     omega
    obtain ⟨ρ1,m1,css,cs,L,hcl,hcs⟩:=XR (sp:=sp) (held:=held) (n:=n') (a:=a) hpos hsz (fun cs x hw hx=>laid s n' e cs x hs hw hx) len 0 elems hwe hel (by simpa using hE) ρ m hm hb
    have hcss:=L.sits
    have hfl : css.flatten.length = len * s.size:=by rw [<- hcl,L.vr.length]
    have hor : ∃ r : Reg,OR P ρ1 base w r (.live css.flatten 0 false) /\ slAt r 0 len cap .any a:=by
     by_cases h0 : len = 0
     ·obtain ⟨b,carr,e',fr,hbl⟩:=h1 ⟨a,len,cap,by simp⟩
      have hnil : css.flatten = []:=List.eq_nil_of_length_eq_zero (by rw [hfl,h0]; simp)
      refine ⟨⟨b,0,0,0⟩,⟨carr,e',fr,hbl,by rw [hnil]; simp,by rw [hnil]; rfl,fun i a ha=>by rw [hnil] at ha; simp at ha,fun h=>by cases h⟩,.inr ⟨h0,.inr rfl⟩⟩
     ·have hp : 0 < len * s.size:=Nat.mul_pos (Nat.pos_of_ne_zero h0) hpos
      obtain ⟨u,hu⟩ : ∃ u,cs[0]? = some u:=⟨cs[0],by simp [hcl,hp]⟩
      obtain ⟨hsp,carr,e',fr,hbl,_⟩:=IT (hcs 0 u hu)
      have hblk : ∀ j,(a.add j).block = a.block:=fun j=>by unfold Addr.add; split <;> rfl
      have hoff : ∀ j,(a.add j).off = a.off + j:=fun j=>by unfold Addr.add; split <;> simp_all
      have hspot : a.spot = none:=by
       have h0':=hcs 0 u hu
       simp only [Nat.zero_mul,Nat.add_zero] at h0'
       have:=IT h0'
       simpa [Addr.add] using this.1
      rw [hblk] at hbl
      have hcell : ∀ j u,cs[j]? = some u -> carr[a.off + j]? = some u:=fun j u hj=>by
       have:=hcs j u hj
       simp only [Nat.zero_mul,Nat.zero_add] at this
       obtain ⟨_,carr',e'',fr',g1,g2⟩:=IT this
       rw [hblk,hbl] at g1
       injection g1 with g1
       injection g1 with g1
       rw [hoff,<- g1] at g2
       exact g2
      refine ⟨⟨a.block,a.off,0,0⟩,⟨carr,e',fr,hbl,?_,?_,fun i x hx=>?_,fun h=>by cases h⟩,.inl ?_⟩
      ·show a.off + css.flatten.length <= carr.size
       rw [hfl]
       obtain ⟨u',hu'⟩ : ∃ u,cs[len * s.size - 1]? = some u:=⟨cs[len * s.size - 1]'(by omega),by simp⟩
       have:=(Array.getElem?_eq_some_iff.1 (hcell _ _ hu')).1
       omega
      ·refine DS fun x hx=>?_
       obtain ⟨c,hc,hxc⟩:=List.mem_flatten.1 hx
       exact C9 (hcss.2.2 c hc).facts.1 x hxc
      ·obtain ⟨u',hu',hv⟩:=L.vr.get i x hx
       exact ⟨u',hcell i u' hu',hv⟩
      ·cases a with
       | mk b o sp=>simp only at hspot; subst hspot; simp
    obtain ⟨r,hor,hat⟩:=hor
    obtain ⟨ρ2,q1,q2,q3,q4,q5,q6⟩:=L.mr.lay L.bare hor
    refine ⟨ρ2,_,[.sl m1.next 0 len .any],Map.le_trans L.le q1,q3,q5,L.grows.trans q4,.cons ?_ VRL.nil',?_⟩
    ·simp only [VR]
     exact ⟨r,a,cap,q2,hlc,hat,rfl⟩
    ·simp only [Sits]
     refine .inr ⟨m1.next,0,css,by rw [hcss.2.1],q6,by rw [hcss.2.1]; exact hlenb,fun c hc=>(hcss.2.2 c hc).mono q4⟩
  ·cases hok
theorem laids {sp : Nat -> Bool} {held : Bool} : ∀ (ss : List Sh) (s : Sh),s ∈ ss -> ∀ (n : Nat) (t : TypeId) (cs : List Value) (x : DataW H × List MemPlace),I8 P t s = true -> (∀ k ∈ x.1.weights P t,k <= bd) -> DataW.trod enc P w 0 sp held n t cs = some x -> O3 w cs ->
  ∀ ρ m,MR P base ρ m w -> O8 m -> ∃ ρ' m' l,WY P base w ρ m cs (fun m l=>Sits bd m s l) ρ' m' l
 | [],_,h=>by cases h
 | s0 :: ss,s,h=>by
  by_cases he : s = s0
  ·rw [he]; exact laid s0
  ·exact laids ss s (by simpa [he] using h)
end
def bV : Sh -> List AV -> AV
 | .st _,l=>.agg l
 | _,l=>l.headD .undef
def OY : List Sh -> List (List AV) -> List AV
 | s :: ss,l :: ls=>bV s l :: OY ss ls
 | _,_=>[]
def SitsA (bd : Nat) (m : Mem) : List Sh -> List (List AV) -> Prop
 | [],[]=>True
 | s :: ss,l :: ls=>Sits bd m s l /\ SitsA bd m ss ls
 | _,_=>False
theorem SitsA.mono {m m' : Mem} (h : Grows m m') : ∀ (ss : List Sh) (ls : List (List AV)),SitsA bd m ss ls -> SitsA bd m' ss ls
 | [],[],hl=>hl
 | [],_ :: _,hl=>hl
 | _ :: _,[],hl=>hl
 | s :: ss,l :: ls,hl=>by
  simp only [SitsA] at hl ⊢
  exact ⟨hl.1.mono h,SitsA.mono h ss ls hl.2⟩
def O5 (P : Program) : List TypeId -> List Sh -> Bool
 | [],[]=>true
 | t :: ts,s :: ss=>I8 P t s && O5 P ts ss && (P.readableRec t && decide (t < P.types.size))
 | _,_=>false
theorem SQ {r : Reach} {b : Nat} {u : TypeId} {a : Addr} {n c : Nat} (h : Cell.okWide P w r b u (.slice (some a) n c)) : ∃ (b : Nat) (carr : Array Value) (e : TypeId) (fr : Nat × Nat),w.heap[b]? = some (Go.Obj.cells carr e fr):=by
 have h2 : ∃ e m,w.has P r b a e m:=by
  unfold Cell.okWide Cell.ok at h
  cases hu : P.underlying u with
  | none=>simp [hu] at h
  | some d=>
   simp only [hu] at h
   cases d <;> simp at h
   exact ⟨_,_,h.2.2⟩
 obtain ⟨e,m,_,_,row,cells,h3,_⟩:=h2
 unfold World.shape? at h3
 split at h3
 ·rename_i c e fr hc
  exact ⟨_,_,_,_,hc⟩
 ·cases h3
theorem W3 {r : Reach} {b : Nat} {t : TypeId} {v : Value} (h : Value.okWide P w r b t v) : O3 w v.cells.toList:=by
 rintro ⟨a,n,c,hm⟩
 unfold Value.okWide at h
 have flat : Cell.okWide P w r b t v -> ∃ (b : Nat) (carr : Array Value) (e : TypeId) (fr : Nat × Nat),w.heap[b]? = some (Go.Obj.cells carr e fr):=by
  intro h
  cases v with
  | agg cs=>
   exfalso
   unfold Cell.okWide Cell.ok at h
   cases hu : P.underlying t with
   | none=>simp [hu] at h
   | some d=>simp [hu] at h
  | slice x n' c'=>
   simp [Value.cells] at hm
   obtain ⟨rfl,rfl,rfl⟩:=hm
   exact SQ h
  | _=>simp [Value.cells] at hm
 have rows : (∃ cs,v = .agg cs /\ cs.size = P.cellsOf t /\ Row.okWide P w r b t cs) -> ∃ (b : Nat) (carr : Array Value) (e : TypeId) (fr : Nat × Nat),w.heap[b]? = some (Go.Obj.cells carr e fr):=by
  rintro ⟨cs,rfl,_,ts,_,_,hc⟩
  simp only [Value.cells] at hm
  obtain ⟨i,hi⟩:=List.getElem?_of_mem hm
  obtain ⟨u,_,hu⟩:=hc i _ (by simpa using hi)
  exact SQ hu
 split at h
 ·exact rows h
 ·exact rows h
 ·exact flat h
theorem arg_VR {ρ : Map} {m : Mem} {r : Reach} {b : Nat} {t : TypeId} {s : Sh} {v : Value} {l : List AV} (hok : I8 P t s = true) (h : Value.okWide P w r b t v) (hv : VRL ρ l v.cells.toList) (hs : Sits bd m s l) : VR ρ (bV s l) v:=by
 have flat : ∀ {d : TypeDesc},P.underlying t = some d -> (∀ fs,d ≠ .struct fs) -> (∀ n e,d ≠ .array n e) -> v.cells = #[v]:=by
  intro d hd h1 h2
  unfold Value.okWide at h
  rw [hd] at h
  have h3 : Cell.okWide P w r b t v:=by cases d <;> first | exact h | (exact absurd rfl (h1 _)) | (exact absurd rfl (h2 _ _))
  cases v <;> first | rfl | skip
  exfalso
  unfold Cell.okWide Cell.ok at h3
  simp [hd] at h3
 have one : l.length = 1 -> v.cells = #[v] -> VR ρ (l.headD .undef) v:=by
  intro h1 h2
  rw [h2] at hv
  obtain ⟨x,rfl⟩ : ∃ x,l = [x]:=by
   cases l with
   | nil=>simp at h1
   | cons x l=>cases l with
    | nil=>exact ⟨x,rfl⟩
    | cons=>simp at h1
  simp only [VRL] at hv
  obtain ⟨y,ys,e,hy,hz⟩:=hv
  injection e with e1 e2
  rw [e1]
  exact hy
 have hlen:=hs.facts.2
 cases s with
 | st ss=>
  unfold I8 at hok
  split at hok
  ·rename_i fs ht
   unfold Value.okWide at h
   rw [ht] at h
   obtain ⟨cs,rfl,_⟩:=h
   simp only [bV,VR]
   exact ⟨cs.toList,by simpa [Value.cells] using hv,by simp⟩
  ·cases hok
 | int k=>
  unfold I8 at hok
  split at hok
  ·rename_i ht
   exact one hlen (flat ht (by simp) (by simp))
  ·cases hok
 | bool=>
  unfold I8 at hok
  split at hok
  ·rename_i ht
   exact one hlen (flat ht (by simp) (by simp))
  ·cases hok
 | str=>
  unfold I8 at hok
  split at hok
  ·rename_i ht
   exact one hlen (flat ht (by simp) (by simp))
  ·cases hok
 | sl e=>
  unfold I8 at hok
  split at hok
  ·rename_i ht
   exact one hlen (flat ht (by simp) (by simp))
  ·cases hok
theorem P2 {sp : Nat -> Bool} {held : Bool} {r : Reach} {b : Nat} : ∀ (ts : List TypeId) (ss : List Sh) (vs : List Value) (ds : List (DataW H)) (p : List MemPlace),O5 P ts ss = true -> (∀ k ∈ DataW.weightsEach P ts ds,k <= bd) -> DataW.TrodAll enc P w 0 sp held ts vs ds p ->
  (∀ (j : Nat) t v,ts[j]? = some t -> vs[j]? = some v -> Value.okWide P w r b t v) -> ∀ ρ m,MR P base ρ m w -> O8 m -> ∃ ρ' m' ls,ρ.le ρ' /\ MR P base ρ' m' w /\ Grows m m' /\ VRL ρ' (OY ss ls) vs /\ SitsA bd m' ss ls
 | [],[],[],ds,p,_,_,_,_,ρ,m,hm,hb=>⟨ρ,m,[],ρ.le_refl,hm,Grows.refl _,VRL.nil',trivial⟩
 | [],[],_ :: _,ds,p,_,_,h,_,_,_,_,_=>by cases ds <;> exact h.elim
 | [],_ :: _,_,_,_,h,_,_,_,_,_,_,_=>by simp [O5] at h
 | _ :: _,[],_,_,_,h,_,_,_,_,_,_,_=>by simp [O5] at h
 | t :: ts,s :: ss,vs,ds,p,hok,hwt,h,hval,ρ,m,hm,hb=>by
  cases vs with
  | nil=>cases ds <;> exact h.elim
  | cons v vs=>
   cases ds with
   | nil=>exact h.elim
   | cons d ds=>
    obtain ⟨p1,q1,⟨n,hx⟩,hrest,_⟩:=h
    simp only [O5,Bool.and_eq_true] at hok
    have hv:=hval 0 t v rfl rfl
    simp only [DataW.weightsEach,List.mem_append] at hwt
    obtain ⟨ρ1,m1,l,L⟩:=laid s n t _ _ hok.1.1 (fun k hk=>hwt k (.inl hk)) hx (W3 hv) ρ m hm hb
    obtain ⟨ρ2,m2,ls,g1,g2,g3,g4,g5⟩:=P2 ts ss vs ds q1 hok.1.2 (fun k hk=>hwt k (.inr hk)) hrest (fun j t' v' h1 h2=>hval (j + 1) t' v' (by simpa using h1) (by simpa using h2)) ρ1 m1 L.mr L.bare
    refine ⟨ρ2,m2,l :: ls,Map.le_trans L.le g1,g2,L.grows.trans g3,?_,L.sits.mono g3,g5⟩
    simp only [OY]
    exact .cons (VR.mono g1 _ _ (arg_VR hok.1.1 hv L.vr L.sits)) g4
theorem below_all (hl : laidOutB P = true) {W' : World} (hb : Below w.heap.size w W') : ∀ (ts : List TypeId) (ss : List Sh) (vs : List Value) (ds : List (DataW H)) (p : List MemPlace),O5 P ts ss = true ->
  DataW.TrodAll enc P w 0 (fun _=>true) true ts vs ds p -> (∀ x ∈ p,x.block < w.heap.size) -> DataW.TrodAll enc P W' 0 (fun b=>decide (b < w.heap.size)) true ts vs ds p
 | [],[],vs,ds,p,_,h,_=>by
  cases vs <;> cases ds <;> first | exact h | exact h.elim
 | [],_ :: _,_,_,_,h,_,_=>by simp [O5] at h
 | _ :: _,[],_,_,_,h,_,_=>by simp [O5] at h
 | t :: ts,s :: ss,vs,ds,p,hok,h,hlt=>by
  cases vs with
  | nil=>cases ds <;> exact h.elim
  | cons v vs=>
   cases ds with
   | nil=>exact h.elim
   | cons d ds=>
    obtain ⟨p1,q1,hx,hrest,rfl⟩:=h
    simp only [O5,Bool.and_eq_true,decide_eq_true_eq] at hok
    exact ⟨p1,q1,Below.trod hl hok.2.1 hok.2.2 hx hb fun x hx=>hlt x (by simp [hx]),below_all hl hb ts ss vs ds q1 hok.1.2 hrest fun x hx=>hlt x (by simp [hx]),rfl⟩
theorem MR_none (P : Program) (w : World) : MR P w.heap.size (fun _=>none) ⟨0,.nil⟩ w:=by
 have hg : ∀ b,Mem.get ⟨0,.nil⟩ b = none:=fun b=>by unfold Mem.get T.get; rfl
 exact ⟨fun b o h=>(by rw [hg] at h; cases h),fun b r h=>(by cases h),Nat.le_refl _,fun b b' cs e o' r r' h=>(by rw [hg] at h; cases h)⟩
end
end Go.Proofs.YtdljelicbnjfjaaGreat.X
namespace Go.Proofs.YtdljelicbnjfjaaGreat.X
open Go
structure H where
 get : Nat -> Option Obj
 fin : ∃ n,∀ b,n <= b -> get b = none
theorem H.ext' {h h' : H} (e : ∀ b,h.get b = h'.get b) : h = h':=by
 cases h; cases h'; simp only [H.mk.injEq]; exact funext e
def H.set (h : H) (b : Nat) (o : Obj) : H:=⟨fun k=>if k = b then some o else h.get k,by
 obtain ⟨n,hn⟩:=h.fin
 exact ⟨max n (b + 1),fun k hk=>by rw [if_neg (by omega)]; exact hn k (by omega)⟩⟩
theorem H.get_set (h : H) (b k : Nat) (o : Obj) : (h.set b o).get k = if k = b then some o else h.get k:=rfl
theorem H.get_same (h : H) (b : Nat) (o : Obj) : (h.set b o).get b = some o:=by rw [H.get_set,if_pos rfl]
theorem H.get_other (h : H) {b k : Nat} (o : Obj) (hk : k ≠ b) : (h.set b o).get k = h.get k:=by rw [H.get_set,if_neg hk]
def H.read (h : H) (b off n : Nat) : Option (List AV):=
 match h.get b with
 | some (.live cs _ _)=>if off + n <= cs.length then some ((cs.drop off).take n) else none
 | _=>none
def H.cell (h : H) (b off : Nat) : Option AV:=
 match h.get b with
 | some (.live cs _ _)=>cs[off]?
 | _=>none
def H.write (h : H) (b off : Nat) (vs : List AV) : Option H:=
 match h.get b with
 | some (.live cs e true)=>if off + vs.length <= cs.length /\ leaves vs = true then some (h.set b (.live (overlay cs off vs) e true)) else none
 | _=>none
def Mem.ok (m : Mem) : Prop:=∀ b,m.next <= b -> m.get b = none
structure Rep (m : Mem) (h : H) : Prop where
 ok : m.ok
 eq : ∀ b,m.get b = h.get b
structure Keep (S : Nat -> Prop) (m m' : Mem) : Prop where
 next : m.next <= m'.next
 free : ∀ b,b < m.next -> ¬ S b -> m.get b = none -> m'.get b = none
def EG : Nat -> Prop:=fun _=>False
theorem Keep.refl (S : Nat -> Prop) (m : Mem) : Keep S m m:=⟨Nat.le_refl _,fun _ _ _ h=>h⟩
theorem Keep.trans {S : Nat -> Prop} {a b c : Mem} (h : Keep S a b) (h' : Keep S b c) : Keep S a c:=
 ⟨Nat.le_trans h.1 h'.1,fun k hk hs he=>h'.2 k (Nat.lt_of_lt_of_le hk h.1) hs (h.2 k hk hs he)⟩
theorem Keep.weaken {S S' : Nat -> Prop} {a b : Mem} (h : Keep S a b) (hs : ∀ k,S k -> S' k) : Keep S' a b:=⟨h.1,fun k hk h1=>h.2 k hk fun x=>h1 (hs k x)⟩
theorem Rep.read {m : Mem} {h : H} (r : Rep m h) (b off n : Nat) : m.read b off n = h.read b off n:=by
 unfold Mem.read H.read; rw [r.eq]; rfl
theorem Rep.set {m : Mem} {h : H} (r : Rep m h) (b : Nat) (o : Obj) (hb : b < m.next) : Rep (m.set b o) (h.set b o):=
 ⟨fun k hk=>by rw [Mem.get_set,if_neg (by have : m.next <= k:=hk; omega)]; exact r.ok k hk,fun k=>by rw [Mem.get_set,H.get_set,r.eq]⟩
theorem Rep.lt {m : Mem} {h : H} (r : Rep m h) {b : Nat} {o : Obj} (hb : m.get b = some o) : b < m.next:=by
 apply Nat.lt_of_not_le
 intro hk
 rw [r.ok b hk] at hb
 cases hb
theorem Keep.set (S : Nat -> Prop) {m : Mem} {b : Nat} {o o' : Obj} (hb : m.get b = some o') : Keep S m (m.set b o):=
 ⟨Nat.le_refl _,fun k hk _ he=>by
  rw [Mem.get_set,if_neg (fun e=>by subst e; rw [hb] at he; cases he)]; exact he⟩
theorem Rep.write {m : Mem} {h h' : H} (r : Rep m h) {b off : Nat} {vs : List AV} (hw : h.write b off vs = some h') : ∃ m',m.write b off vs = some m' /\ Rep m' h' /\ ∀ S,Keep S m m':=by
 unfold H.write at hw
 unfold Mem.write
 rw [r.eq]
 split at hw
 ·rename_i cs e hc
  rw [hc]
  simp only
  split at hw
  ·rename_i hcnd
   injection hw with hw
   subst hw
   rw [if_pos hcnd]
   have hb : m.get b = some (.live cs e true):=by rw [r.eq,hc]
   exact ⟨_,rfl,r.set _ _ (r.lt hb),fun S=>Keep.set S hb⟩
  ·cases hw
 ·cases hw
def AA (o : Option AV) (h : H) (K : AV -> H -> Prop) : Prop:=match o with | some v=>K v h | none=>False
def AM (o : Option H) (v : AV) (K : AV -> H -> Prop) : Prop:=match o with | some h'=>K v h' | none=>False
def M5 (h : H) (cs : List AV) (e : Nat) (mk : Nat -> AV) (K : AV -> H -> Prop) : Prop:=leaves cs = true /\ ∀ b,h.get b = none -> K (mk b) (h.set b (.live cs e true))
def KV (h : H) (esz : Nat) : AV -> Option (Nat × List AV)
 | .nilsl=>some (0,[])
 | .sl b off len _=>match h.read b off (len * esz) with | some cs=>some (len,cs) | none=>none
 | .str s=>if esz = 1 then some (s.length,s.map fun c=>.int .u8 c.toNat) else none
 | _=>none
def AL (h : H) (cs : List AV) (e : Nat) (K : AV -> H -> Prop) : Prop:=M5 h cs e (fun b=>.ptr b 0) K
def A4 (h : H) (e esz bytes : Nat) (x y : AV) (K : AV -> H -> Prop) : Prop:=
 match KV h esz y with
 | none=>False
 | some (n,cs)=>
  match x with
  | .nilsl=>if n = 0 then K .nilsl h else n * bytes <= AQ /\ M5 h cs e (fun b'=>.sl b' 0 n (.more esz)) K
  | .sl b off len cap=>
   if n = 0 then K (.sl b off len cap) h else
   match cap with
   | .exact c=>
    if len + n <= c then AM (h.write b (off + len * esz) cs) (.sl b off (len + n) (.exact c)) K
    else (len + n) * bytes <= AQ /\ (match h.read b off (len * esz) with
     | some old=>M5 h (old ++ cs) e (fun b'=>.sl b' 0 (len + n) (.more esz)) K
     | none=>False)
   | .more z=>
    match h.get b with
    | some (.live known e' true)=>
     (e' = e /\ z = esz /\ (len + n) * bytes <= AQ /\ off + len * esz <= known.length) /\
     if off + (len + n) * esz <= known.length then AM (h.write b (off + len * esz) cs) (.sl b off (len + n) (.more esz)) K
     else M5 (h.set b .dead) ((known.drop off).take (len * esz) ++ cs) e (fun b'=>.sl b' 0 (len + n) (.more esz)) K
    | _=>False
   | .any=>False
  | _=>False
def AE (c x y : AV) : Option AV:=match c with | .bool t=>some (if t then x else y) | _=>none
def cvA (k : IntKind) (x : AV) : Option AV:=match x with | .int _ n=>some (.int k (k.wrap n)) | _=>none
def A8 (x : AV) (i : Nat) : Option AV:=match x with | .tup l=>l[i]? | _=>none
def AF (s : Bool) (x : AV) : Option AV:=match s,x with | true,.str s=>some (.int .i64 s.length) | false,.nilsl=>some (.int .i64 0) | false,.sl _ _ n _=>some (.int .i64 n) | _,_=>none
def bL (x : AV) : Option AV:=match x with | .nilsl=>some (.int .i64 0) | .sl _ _ _ (.exact c)=>some (.int .i64 c) | _=>none
def faA (off : Nat) (x : AV) : Option AV:=match x with | .ptr b o=>some (.ptr b (o + off)) | _=>none
def T3 (off : Nat) (n : Option Nat) (x : AV) : Option AV:=match x with | .agg cs=>EQ cs off n | _=>none
def iaA (esz : Nat) (x i : AV) : Option AV:=match x,i with | .sl b off len _,.int _ n=>if 0 <= n /\ n < len then some (.ptr b (off + n.toNat * esz)) else none | _,_=>none
def QT (len esz : Nat) (x i : AV) : Option AV:=match x,i with | .ptr b off,.int _ n=>if 0 <= n /\ n < len then some (.ptr b (off + n.toNat * esz)) else none | _,_=>none
def MC (x i : AV) : Option AV:=match x,i with | .str s,.int _ n=>if 0 <= n then (match s[n.toNat]? with | some c=>some (.int .u8 c.toNat) | none=>none) else none | _,_=>none
def TZ (len esz : Nat) (k : Option Nat) (x i : AV) : Option AV:=match x,i with | .agg cs,.int _ n=>if 0 <= n /\ n < len then EQ cs (n.toNat * esz) k else none | _,_=>none
def XL (x : AV) : Option AV:=match x with | .str s=>some (.str s) | _=>none
def YE (h : H) (x : AV) : Option AV:=match x with | .sl b off len c=>(match h.get b with | some (.live _ _ true)=>if 0 < len then some (.sl b off len c) else none | _=>none) | _=>none
def BJ (x : AV) : Option AV:=match x with | .ptr b off=>some (.ptr b off) | .fn f a c=>some (.fn f a c) | _=>none
def ldA (h : H) (n : Option Nat) (x : AV) : Option AV:=match n,x with
 | none,.ptr b off=>h.cell b off
 | some n,.ptr b off=>match h.read b off n with | some cs=>some (.agg cs) | none=>none
 | _,_=>none
def stA (h : H) (n : Nat) (x y : AV) : Option H:=match x with | .ptr b off=>if y.cells.length = n then h.write b off y.cells else none | _=>none
def bU (h : H) (x : AV) : Option AV:=match x with | .nilsl=>some (.str []) | .sl b off len _=>(match h.read b off len with | some cs=>(bytesOf cs).map .str | none=>none) | _=>none
def mnA : List AV -> Option AV | x :: l=>ES x l | []=>none
def mxA : List AV -> Option AV | x :: l=>ET x l | []=>none
def XN (h : H) (e : Nat) (x : AV) (K : AV -> H -> Prop) : Prop:=match x with | .str l=>M5 h (l.map fun c=>.int .u8 c.toNat) e (fun b=>.sl b 0 l.length (.more 1)) K | _=>False
def TS (h : H) (e : Nat) (zero : List AV) (bytes : Nat) (len cap : AV) (K : AV -> H -> Prop) : Prop:=
 match DR len,DR cap with
 | some l,some c=>(l <= c /\ c * bytes <= AQ /\ c < 9223372036854775808) /\ M5 h (AW zero c) e (fun b=>.sl b 0 l (.exact c)) K
 | _,_=>False
def SR (h : H) (e esz bytes : Nat) (zero : List AV) (x n : AV) (K : AV -> H -> Prop) : Prop:=match x,DR n with
 | .nilsl,some (k + 1)=>(k + 1) * bytes <= AQ /\ M5 h (AW zero (k + 1)) e (fun b'=>.sl b' 0 (k + 1) (.more esz)) K
 | _,_=>False
def KP (h : H) (zero : List AV) (x : AV) (K : AV -> H -> Prop) : Prop:=match x with
 | .nilsl=>K .undef h
 | .sl b off len _=>if len = 0 then K .undef h else AM (h.write b off (AW zero len)) .undef K
 | _=>False
def SZ (h : H) (esz : Nat) (x y : AV) (K : AV -> H -> Prop) : Prop:=match x,KV h esz y with
 | .nilsl,some _=>K (.int .i64 0) h
 | .sl b off len _,some (n,cs)=>if min n len = 0 then K (.int .i64 0) h else AM (h.write b off (cs.take (min n len * esz))) (.int .i64 (min n len : Nat)) K
 | _,_=>False
def AG : List AV -> List (Nat × Nat × AV) -> Option (List AV)
 | cs,[]=>some cs
 | cs,(off,n,x) :: ps=>if x.cells.length = n /\ off + n <= cs.length /\ leaves x.cells = true then AG (overlay cs off x.cells) ps else none
def JS (g : Opd -> AV) : List (Nat × Nat × Opd) -> List (Nat × Nat × AV)
 | []=>[]
 | (off,n,x) :: ps=>(off,n,g x) :: JS g ps
def JG (g : Opd -> AV) (cs : List AV) (ps : List (Nat × Nat × Opd)) : Option (List AV):=AG cs (JS g ps)
def A5 (h : H) (e len : Nat) (o : Option (List AV)) (K : AV -> H -> Prop) : Prop:=match o with | some cs=>M5 h cs e (fun b=>.sl b 0 len (.exact len)) K | none=>False
def AT (o : Option (List AV)) : Option AV:=match o with | some l=>some (.agg l) | none=>none
abbrev AK:=Nat -> List AV -> H -> (AV -> H -> Prop) -> Prop
def CQ (C : AK) (x : AV) (args : List AV) (h : H) (K : AV -> H -> Prop) : Prop:=match x with | .fn f a c=>C f (a ++ args ++ c) h K | _=>False
def opA (C : AK) (g : Opd -> AV) (h : H) (op : IOp) (K : AV -> H -> Prop) : Prop:=
 match op with
 | .mv x=>K (g x) h
 | .pick c a b=>AA (AE (g c) (g a) (g b)) h K
 | .al _ e zero=>AL h zero e K
 | .bx _ e x=>AL h (g x).cells e K
 | .build tpl ps=>AA (AT (JG g tpl ps)) h K
 | .mksl _ e tpl len ps=>A5 h e len (JG g tpl ps) K
 | .ld n x=>AA (ldA h n (g x)) h K
 | .st n x y=>AM (stA h n (g x) (g y)) .undef K
 | .nilc x=>AA (BJ (g x)) h K
 | .bin op kd x y=>AA (binOp op kd (g x) (g y)) h K
 | .un op x=>AA (unOp op (g x)) h K
 | .cv _ (.toInt k) x=>AA (cvA k (g x)) h K
 | .cv _ .same x=>AA (XL (g x)) h K
 | .cv _ .keep x=>AA (YE h (g x)) h K
 | .cv _ .b2s x=>AA (bU h (g x)) h K
 | .cv _ (.s2b e) x=>XN h e (g x) K
 | .mkf f first cap=>K (.fn f (first.map g) (cap.map g)) h
 | .mks _ e zero bytes len cap=>TS h e zero bytes (g len) (g cap) K
 | .sli k x lo hi mx=>AA (B7 k (g x) (lo.map g) (hi.map g) (mx.map g)) h K
 | .fa off x=>AA (faA off (g x)) h K
 | .fld off n x=>AA (T3 off n (g x)) h K
 | .ia none esz x i=>AA (iaA esz (g x) (g i)) h K
 | .ia (some len) esz x i=>AA (QT len esz (g x) (g i)) h K
 | .ix none x i=>AA (MC (g x) (g i)) h K
 | .ix (some (len,esz,k)) x i=>AA (TZ len esz k (g x) (g i)) h K
 | .ext x i=>AA (A8 (g x) i) h K
 | .call f args=>C f (args.map g) h K
 | .callv x args=>CQ C (g x) (args.map g) h K
 | .app e esz bytes _ x y=>A4 h e esz bytes (g x) (g y) K
 | .grow e esz bytes zero x n=>SR h e esz bytes zero (g x) (g n) K
 | .clear zero x=>KP h zero (g x) K
 | .copy esz x y=>SZ h esz (g x) (g y) K
 | .len s x=>AA (AF s (g x)) h K
 | .cap x=>AA (bL (g x)) h K
 | .mn xs=>AA (mnA (xs.map g)) h K
 | .mx xs=>AA (mxA (xs.map g)) h K
def IOp.slot : IOp -> Option Nat
 | .al s _ _ | .bx s _ _ | .mksl s _ _ _ _ | .cv s _ _ | .mks s _ _ _ _ _=>s
 | _=>none
def IOp.uses : IOp -> List Opd
 | .mv x | .bx _ _ x | .ld _ x | .nilc x | .un _ x | .cv _ _ x | .fa _ x | .fld _ _ x | .ext x _ | .clear _ x | .len _ x | .cap x=>[x]
 | .pick c a b=>[c,a,b]
 | .al ..=>[]
 | .build _ ps | .mksl _ _ _ _ ps=>ps.map fun p=>p.2.2
 | .st _ x y | .bin _ _ x y | .ia _ _ x y | .ix _ x y | .app _ _ _ _ x y | .grow _ _ _ _ x y | .copy _ x y=>[x,y]
 | .mkf _ a c=>a ++ c
 | .mks _ _ _ _ l c=>[l,c]
 | .sli _ x lo hi top=>x :: (lo.toList ++ hi.toList ++ top.toList)
 | .call _ l=>l
 | .mn l=>l
 | .mx l=>l
 | .callv x l=>x :: l
theorem JY {g g' : Opd -> AV} : ∀ (ps : List (Nat × Nat × Opd)),(∀ p ∈ ps,g p.2.2 = g' p.2.2) -> JS g ps = JS g' ps
 | [],_=>rfl
 | (off,n,x) :: ps,h=>by
  have h1:=h (off,n,x) (by simp)
  simp only at h1
  simp only [JS,h1]
  rw [JY ps fun p hp=>h p (by simp [hp])]
theorem M1 {g g' : Opd -> AV} (ps : List (Nat × Nat × Opd)) (cs : List AV) (h : ∀ p ∈ ps,g p.2.2 = g' p.2.2) : JG g cs ps = JG g' cs ps:=by
 unfold JG; rw [JY ps h]
theorem II {g g' : Opd -> AV} {o : Option Opd} (h : ∀ x ∈ o.toList,g x = g' x) : o.map g = o.map g':=by
 cases o with
 | none=>rfl
 | some x=>simp only [Option.map_some]; rw [h x (by simp)]
theorem PM {C : AK} {g g' : Opd -> AV} {h : H} {op : IOp} {K : AV -> H -> Prop} (hg : ∀ x ∈ op.uses,g x = g' x) : opA C g h op K = opA C g' h op K:=by
 have hm : ∀ l : List Opd,(∀ x ∈ l,g x = g' x) -> l.map g = l.map g':=fun l hl=>List.map_congr_left hl
 cases op
 case build tpl ps=>simp only [opA]; rw [M1 (g':=g') ps tpl fun p hp=>hg _ (by simp only [IOp.uses,List.mem_map]; exact ⟨p,hp,rfl⟩)]
 case mksl s e tpl len ps=>simp only [opA]; rw [M1 (g':=g') ps tpl fun p hp=>hg _ (by simp only [IOp.uses,List.mem_map]; exact ⟨p,hp,rfl⟩)]
 case mkf f a c=>simp only [opA]; rw [hm a fun x hx=>hg x (by simp [IOp.uses,hx]),hm c fun x hx=>hg x (by simp [IOp.uses,hx])]
 case call f l=>simp only [opA]; rw [hm l fun x hx=>hg x (by simp [IOp.uses,hx])]
 case callv x l=>simp only [opA]; rw [hm l fun x hx=>hg x (by simp [IOp.uses,hx]),hg x (by simp [IOp.uses])]
 case mn l=>simp only [opA]; rw [hm l fun x hx=>hg x (by simp [IOp.uses,hx])]
 case mx l=>simp only [opA]; rw [hm l fun x hx=>hg x (by simp [IOp.uses,hx])]
 case sli k x lo hi mx=>
  simp only [opA]
  rw [hg x (by simp [IOp.uses]),II (g':=g') (o:=lo) fun y hy=>hg y (by simp only [IOp.uses,List.mem_cons,List.mem_append]; simp [hy]),
   II (g':=g') (o:=hi) fun y hy=>hg y (by simp only [IOp.uses,List.mem_cons,List.mem_append]; simp [hy]),II (g':=g') (o:=mx) fun y hy=>hg y (by simp only [IOp.uses,List.mem_cons,List.mem_append]; simp [hy])]
 case al s e z=>rfl
 case ia a e x i=>cases a <;> · simp only [opA]; rw [hg x (by simp [IOp.uses]),hg i (by simp [IOp.uses])]
 case ix a x i=>rcases a with _ | ⟨_,_,_⟩ <;> · simp only [opA]; rw [hg x (by simp [IOp.uses]),hg i (by simp [IOp.uses])]
 case cv s k x=>cases k <;> · simp only [opA]; rw [hg x (by simp [IOp.uses])]
 case pick c a b=>simp only [opA]; rw [hg c (by simp [IOp.uses]),hg a (by simp [IOp.uses]),hg b (by simp [IOp.uses])]
 case st n x y=>simp only [opA]; rw [hg x (by simp [IOp.uses]),hg y (by simp [IOp.uses])]
 case bin o k x y=>simp only [opA]; rw [hg x (by simp [IOp.uses]),hg y (by simp [IOp.uses])]
 case grow e z b zs x y=>simp only [opA]; rw [hg x (by simp [IOp.uses]),hg y (by simp [IOp.uses])]
 case app e z b zs x y=>simp only [opA]; rw [hg x (by simp [IOp.uses]),hg y (by simp [IOp.uses])]
 case copy z x y=>simp only [opA]; rw [hg x (by simp [IOp.uses]),hg y (by simp [IOp.uses])]
 case mks s e z b l c=>simp only [opA]; rw [hg l (by simp [IOp.uses]),hg c (by simp [IOp.uses])]
 case ext x i=>simp only [opA]; rw [hg x (by simp [IOp.uses])]
 all_goals (rename_i x; simp only [opA]; rw [hg x (by simp [IOp.uses])])
theorem OF (tm : List AV) : ∀ (ps : List (Nat × Nat × Opd)) (cs : List AV),B4 tm cs ps = JG (Opd.eval tm) cs ps
 | [],cs=>rfl
 | (off,n,x) :: ps,cs=>by
  have ih:=fun cs=>OF tm ps cs
  unfold JG at ih ⊢
  simp only [B4,JS,AG]
  split
  ·exact ih _
  ·rfl
theorem US {m : Mem} {h : H} (r : Rep m h) (esz : Nat) (x : AV) : CZ m esz x = KV h esz x:=by
 cases x <;> try rfl
 simp only [CZ,KV,r.read]
 rfl
def CS (o : Option (AV × Mem)) (S : Nat -> Prop) (m : Mem) (K : AV -> H -> Prop) : Prop:=∃ v m' h',o = some (v,m') /\ Rep m' h' /\ Keep S m m' /\ K v h'
section
variable {m : Mem} {h : H} {K : AV -> H -> Prop} {S : Nat -> Prop}
theorem BA (r : Rep m h) {v : AV} (k : K v h) : CS (some (v,m)) S m K:=⟨v,m,h,rfl,r,Keep.refl S m,k⟩
theorem EY (r : Rep m h) {o : Option AV} (k : AA o h K) : CS (CV o m) S m K:=by
 cases o with
 | none=>exact k.elim
 | some v=>exact BA r k
theorem JJ (r : Rep m h) {b off : Nat} {vs : List AV} {v : AV} (k : AM (h.write b off vs) v K) : CS (match m.write b off vs with | some m'=>some (v,m') | none=>none) S m K:=by
 unfold AM at k
 split at k
 ·rename_i h' hw
  obtain ⟨m',h1,h2,h3⟩:=r.write hw
  rw [h1]
  exact ⟨v,m',h',rfl,h2,h3 S,k⟩
 ·exact k.elim
theorem U5 (r : Rep m h) (o : Obj) : Rep ⟨m.next + 1,m.t.set m.next o⟩ (h.set m.next o):=
 ⟨fun b hb=>by
  show (m.t.set m.next o).get b = none
  rw [T.get_set,if_neg (by have : m.next + 1 <= b:=hb; omega)]
  exact r.ok b (by have : m.next + 1 <= b:=hb; omega),
 fun b=>by
  show (m.t.set m.next o).get b = _
  rw [T.get_set,H.get_set,<- r.eq]; rfl⟩
theorem N8 (o : Obj) : Keep S m ⟨m.next + 1,m.t.set m.next o⟩:=
 ⟨Nat.le_succ _,fun b hb _ he=>by
  show (m.t.set m.next o).get b = none
  rw [T.get_set,if_neg (by omega)]; exact he⟩
theorem JI (r : Rep m h) {cs : List AV} {e : Nat} {mk : Nat -> AV} (k : M5 h cs e mk K) : CS (match m.new none cs e with | some (b',m')=>some (mk b',m') | none=>none) S m K:=by
 obtain ⟨hl,k⟩:=k
 unfold Mem.new
 rw [if_pos hl]
 exact ⟨_,_,_,rfl,U5 r _,N8 _,k m.next (by rw [<- r.eq]; exact r.ok _ (Nat.le_refl _))⟩
theorem JH (r : Rep m h) {base : Nat} {s : Option Nat} {cs : List AV} {e : Nat} {mk : Nat -> AV} (k : M5 h cs e mk K) (hs : ∀ j,s = some j -> m.get (base + j) = none /\ base + j < m.next /\ S (base + j)) :
  CS (newRow m base s cs e mk) S m K:=by
 unfold newRow
 cases s with
 | none=>exact JI r k
 | some j=>
  obtain ⟨h1,h2,h3⟩:=hs j rfl
  obtain ⟨hl,k⟩:=k
  unfold slot Mem.new
  rw [if_pos hl]
  simp only [h1,if_pos h2]
  exact ⟨_,_,_,rfl,r.set _ _ h2,⟨Nat.le_refl _,fun b hb hn he=>by
   rw [Mem.get_set,if_neg (fun e=>hn (by rw [e]; exact h3))]; exact he⟩,k _ (by rw [<- r.eq]; exact h1)⟩
theorem bE (r : Rep m h) {e esz bytes : Nat} {x y : AV} (k : A4 h e esz bytes x y K) : CS (CR m e esz bytes x y) S m K:=by
 unfold A4 at k
 unfold CR
 rw [US r]
 cases hs : KV h esz y with
 | none=>rw [hs] at k; exact k.elim
 | some p=>
  obtain ⟨n,cs⟩:=p
  rw [hs] at k
  cases x with
  | nilsl=>
   simp only at k ⊢
   split at k
   ·rename_i h0; rw [if_pos h0]; exact BA r k
   ·rename_i h0
    rw [if_neg h0,if_pos k.1]
    exact JI r k.2
  | sl b off len cap=>
   simp only at k ⊢
   split at k
   ·rename_i h0; rw [if_pos h0]; exact BA r k
   ·rename_i h0
    rw [if_neg h0]
    cases cap with
    | exact c=>
     simp only at k ⊢
     split at k
     ·rename_i h1
      rw [if_pos h1]
      exact JJ r k
     ·rename_i h1
      rw [if_neg h1,if_pos k.1,r.read]
      have k:=k.2
      cases ho : h.read b off (len * esz) <;> rw [ho] at k
      ·exact k.elim
      ·exact JI r k
    | more z=>
     simp only at k ⊢
     rw [r.eq]
     split at k
     ·rename_i known e' hb
      obtain ⟨h1,k⟩:=k
      rw [hb]
      simp only
      rw [if_pos h1]
      split at k
      ·rename_i h2
       rw [if_pos h2]
       exact JJ r k
      ·rename_i h2
       rw [if_neg h2]
       have hb' : m.get b = some (.live known e' true):=by rw [r.eq,hb]
       obtain ⟨v,m',h',h3,h4,h5,h6⟩:=JI (S:=S) (r.set b .dead (r.lt hb')) k
       exact ⟨v,m',h',h3,h4,(Keep.set S hb').trans h5,h6⟩
     ·exact k.elim
    | any=>exact k.elim
  | _=>exact k.elim
theorem WT (h : H) (b off : Nat) : h.read b off 1 = (match h.cell b off with | some v=>some [v] | none=>none):=by
 unfold H.read H.cell
 split
 ·rename_i cs e o hc
  by_cases hl : off < cs.length
  ·rw [if_pos (by omega)]
   simp only [List.getElem?_eq_getElem hl,List.drop_eq_getElem_cons hl]
   rfl
  ·rw [if_neg (by omega),List.getElem?_eq_none (by omega)]
 ·rfl
theorem QZ {C : AK} {cf : Nat -> BN} (hC : ∀ f a h K m,C f a h K -> Rep m h -> ∃ k,CS (cf k f a m) EG m K) (r : Rep m h) {tm : List AV} {base : Nat} {op : IOp} (k : opA C (Opd.eval tm) h op K)
  (hs : ∀ j,op.slot = some j -> m.get (base + j) = none /\ base + j < m.next /\ S (base + j)) : ∃ k,CS (A1 (cf k) base tm m op) S m K:=by
 have wk : ∀ {o},CS o EG m K -> CS o S m K:=fun ⟨v,m',h',h1,h2,h3,h4⟩=>⟨v,m',h',h1,h2,h3.weaken fun _ x=>x.elim,h4⟩
 cases op
 case call f args=>obtain ⟨j,h1⟩:=hC _ _ _ _ m k r; exact ⟨j,wk h1⟩
 case callv x args=>
  have k : CQ C (x.eval tm) (args.map (·.eval tm)) h K:=k
  unfold CQ at k
  split at k
  ·rename_i f a c hx
   obtain ⟨j,h1⟩:=hC _ _ _ _ m k r
   refine ⟨j,?_⟩
   show CS (match x.eval tm with | .fn f first cap=>cf j f (first ++ args.map (·.eval tm) ++ cap) m | _=>none) S m K
   rw [hx]
   exact wk h1
  ·exact k.elim
 all_goals refine ⟨0,?_⟩
 case mv x=>exact BA r k
 case pick c a b=>
  show CS (match c.eval tm with | .bool t=>some (if t then a.eval tm else b.eval tm,m) | _=>none) S m K
  have k : AA (AE (c.eval tm) (a.eval tm) (b.eval tm)) h K:=k
  cases hc : c.eval tm <;> rw [hc] at k <;> first | exact BA r k | exact k.elim
 case al s e z=>exact JH r k hs
 case bx s e x=>exact JH r k hs
 case build tpl ps=>
  show CS (CV ((B4 tm tpl ps).map .agg) m) S m K
  have k : AA (AT (JG (Opd.eval tm) tpl ps)) h K:=k
  rw [OF]
  cases hf : JG (Opd.eval tm) tpl ps <;> rw [hf] at k
  ·exact k.elim
  ·exact BA r k
 case mksl s e tpl len ps=>
  show CS (match B4 tm tpl ps with | some cs=>newRow m base s cs e fun b=>.sl b 0 len (.exact len) | none=>none) S m K
  have k : A5 h e len (JG (Opd.eval tm) tpl ps) K:=k
  rw [OF]
  cases hf : JG (Opd.eval tm) tpl ps <;> rw [hf] at k
  ·exact k.elim
  ·exact JH r k hs
 case ld n x=>
  cases n with
  | none=>
   show CS (match x.eval tm with | .ptr b off=>(match m.read b off 1 with | some [v]=>some (v,m) | _=>none) | _=>none) S m K
   have k : AA (ldA h none (x.eval tm)) h K:=k
   cases hx : x.eval tm <;> rw [hx] at k <;> try exact k.elim
   rename_i b off
   simp only [r.read,WT]
   have k : AA (h.cell b off) h K:=k
   cases hc : h.cell b off <;> rw [hc] at k
   ·exact k.elim
   ·exact BA r k
  | some n=>
   show CS (match x.eval tm with | .ptr b off=>(match m.read b off n with | some cs=>some (.agg cs,m) | none=>none) | _=>none) S m K
   have k : AA (ldA h (some n) (x.eval tm)) h K:=k
   cases hx : x.eval tm <;> rw [hx] at k <;> try exact k.elim
   rename_i b off
   simp only [r.read]
   simp only [ldA] at k
   cases hc : h.read b off n <;> rw [hc] at k
   ·exact k.elim
   ·exact BA r k
 case st n x y=>
  show CS (match x.eval tm with | .ptr b off=>let vs:=(y.eval tm).cells; if vs.length = n then (match m.write b off vs with | some m'=>some (.undef,m') | none=>none) else none | _=>none) S m K
  have k : AM (stA h n (x.eval tm) (y.eval tm)) .undef K:=k
  cases hx : x.eval tm <;> rw [hx] at k <;> try exact k.elim
  simp only [stA] at k ⊢
  by_cases hn : (y.eval tm).cells.length = n
  ·rw [if_pos hn] at k ⊢
   exact JJ r k
  ·rw [if_neg hn] at k; exact k.elim
 case nilc x=>
  show CS (match x.eval tm with | .ptr b off=>some (.ptr b off,m) | .fn f a c=>some (.fn f a c,m) | _=>none) S m K
  have k : AA (BJ (x.eval tm)) h K:=k
  cases hx : x.eval tm <;> rw [hx] at k <;> first | exact BA r k | exact k.elim
 case bin op kd x y=>exact EY r k
 case un op x=>exact EY r k
 case cv s c x=>
  cases c with
  | toInt q=>
   show CS (match x.eval tm with | .int _ n=>some (.int q (q.wrap n),m) | _=>none) S m K
   have k : AA (cvA q (x.eval tm)) h K:=k
   cases hx : x.eval tm <;> rw [hx] at k <;> first | exact BA r k | exact k.elim
  | same=>
   show CS (match x.eval tm with | .str s=>some (.str s,m) | _=>none) S m K
   have k : AA (XL (x.eval tm)) h K:=k
   cases hx : x.eval tm <;> rw [hx] at k <;> first | exact BA r k | exact k.elim
  | keep=>
   show CS (match x.eval tm with | .sl b off len c=>(match m.get b with | some (.live _ _ true)=>if 0 < len then some (.sl b off len c,m) else none | _=>none) | _=>none) S m K
   have k : AA (YE h (x.eval tm)) h K:=k
   cases hx : x.eval tm <;> rw [hx] at k <;> first | exact BA r k | exact k.elim | skip
   simp only [YE,<- r.eq] at k
   simp only
   split at k
   ·rename_i cs e hg
    split at k
    ·rename_i hl
     rw [if_pos hl]
     exact BA r k
    ·exact k.elim
   ·exact k.elim
  | b2s=>
   show CS (match x.eval tm with | .nilsl=>some (.str [],m) | .sl b off len _=>(match m.read b off len with | some cs=>CV ((bytesOf cs).map .str) m | none=>none) | _=>none) S m K
   have k : AA (bU h (x.eval tm)) h K:=k
   cases hx : x.eval tm <;> rw [hx] at k <;> first | exact BA r k | exact k.elim | skip
   simp only [bU,r.read] at k ⊢
   split at k
   ·exact EY r k
   ·exact k.elim
  | s2b e=>
   show CS (match x.eval tm with | .str l=>newRow m base s (l.map fun c=>.int .u8 c.toNat) e fun b=>.sl b 0 l.length (.more 1) | _=>none) S m K
   have k : XN h e (x.eval tm) K:=k
   cases hx : x.eval tm <;> rw [hx] at k <;> first | exact JH r k hs | exact k.elim
 case mkf f a c=>exact BA r k
 case mks s e z b l c=>
  show CS (match DR (l.eval tm),DR (c.eval tm) with
   | some l,some c=>if l <= c /\ c * b <= AQ /\ c < 9223372036854775808 then newRow m base s (AW z c) e fun b=>.sl b 0 l (.exact c) else none
   | _,_=>none) S m K
  have k : TS h e z b (l.eval tm) (c.eval tm) K:=k
  unfold TS at k
  split at k
  ·rename_i l' c' h1 h2
   rw [if_pos k.1]
   exact JH r k.2 hs
  ·exact k.elim
 case sli q x lo hi mx=>exact EY r k
 case fa off x=>
  show CS (match x.eval tm with | .ptr b o=>some (.ptr b (o + off),m) | _=>none) S m K
  have k : AA (faA off (x.eval tm)) h K:=k
  cases hx : x.eval tm <;> rw [hx] at k <;> first | exact BA r k | exact k.elim
 case fld off n x=>
  show CS (match x.eval tm with | .agg cs=>CV (EQ cs off n) m | _=>none) S m K
  have k : AA (T3 off n (x.eval tm)) h K:=k
  cases hx : x.eval tm <;> rw [hx] at k <;> first | exact EY r k | exact k.elim
 case ia a esz x i=>
  cases a with
  | none=>
   show CS (match x.eval tm,i.eval tm with | .sl b off len _,.int _ n=>if 0 <= n /\ n < len then some (.ptr b (off + n.toNat * esz),m) else none | _,_=>none) S m K
   have k : AA (iaA esz (x.eval tm) (i.eval tm)) h K:=k
   cases hx : x.eval tm <;> rw [hx] at k <;> try exact k.elim
   cases hi : i.eval tm <;> rw [hi] at k <;> try exact k.elim
   simp only [iaA] at k ⊢
   split at k
   ·rename_i hc; rw [if_pos hc]; exact BA r k
   ·exact k.elim
  | some len=>
   show CS (match x.eval tm,i.eval tm with | .ptr b off,.int _ n=>if 0 <= n /\ n < len then some (.ptr b (off + n.toNat * esz),m) else none | _,_=>none) S m K
   have k : AA (QT len esz (x.eval tm) (i.eval tm)) h K:=k
   cases hx : x.eval tm <;> rw [hx] at k <;> try exact k.elim
   cases hi : i.eval tm <;> rw [hi] at k <;> try exact k.elim
   simp only [QT] at k ⊢
   split at k
   ·rename_i hc; rw [if_pos hc]; exact BA r k
   ·exact k.elim
 case ix a x i=>
  rcases a with _ | ⟨len,esz,q⟩
  ·show CS (match x.eval tm,i.eval tm with | .str s,.int _ n=>if 0 <= n then (match s[n.toNat]? with | some c=>some (.int .u8 c.toNat,m) | none=>none) else none | _,_=>none) S m K
   have k : AA (MC (x.eval tm) (i.eval tm)) h K:=k
   cases hx : x.eval tm <;> rw [hx] at k <;> try exact k.elim
   cases hi : i.eval tm <;> rw [hi] at k <;> try exact k.elim
   rename_i l _ n
   simp only [MC] at k ⊢
   by_cases h0 : 0 <= n
   ·rw [if_pos h0] at k ⊢
    cases hq : l[n.toNat]? <;> rw [hq] at k
    ·exact k.elim
    ·exact BA r k
   ·rw [if_neg h0] at k; exact k.elim
  ·show CS (match x.eval tm,i.eval tm with | .agg cs,.int _ n=>if 0 <= n /\ n < len then CV (EQ cs (n.toNat * esz) q) m else none | _,_=>none) S m K
   have k : AA (TZ len esz q (x.eval tm) (i.eval tm)) h K:=k
   cases hx : x.eval tm <;> rw [hx] at k <;> try exact k.elim
   cases hi : i.eval tm <;> rw [hi] at k <;> try exact k.elim
   simp only [TZ] at k ⊢
   split at k
   ·rename_i hc; rw [if_pos hc]; exact EY r k
   ·exact k.elim
 case ext x i=>
  show CS (match x.eval tm with | .tup l=>CV l[i]? m | _=>none) S m K
  have k : AA (A8 (x.eval tm) i) h K:=k
  cases hx : x.eval tm <;> rw [hx] at k <;> first | exact EY r k | exact k.elim
 case app e z b zs x y=>exact bE r k
 case grow e z b zs x y=>
  show CS (KM m e z b zs (x.eval tm) (y.eval tm)) S m K
  have k : SR h e z b zs (x.eval tm) (y.eval tm) K:=k
  unfold SR at k
  unfold KM
  split at k
  ·rename_i hx hk
   rw [hx,hk]
   simp only
   rw [if_pos k.1]
   exact JI r k.2
  ·exact k.elim
 case clear z x=>
  show CS (match x.eval tm with | .nilsl=>some (.undef,m) | .sl b off len _=>if len = 0 then some (.undef,m) else (match m.write b off (AW z len) with | some m'=>some (.undef,m') | none=>none) | _=>none) S m K
  have k : KP h z (x.eval tm) K:=k
  cases hx : x.eval tm <;> rw [hx] at k <;> first | exact BA r k | exact k.elim | skip
  simp only [KP] at k ⊢
  split at k
  ·rename_i h0; rw [if_pos h0]; exact BA r k
  ·rename_i h0; rw [if_neg h0]; exact JJ r k
 case copy z x y=>
  show CS (match x.eval tm,CZ m z (y.eval tm) with
   | .nilsl,some _=>some (.int .i64 0,m)
   | .sl b off len _,some (n,cs)=>if min n len = 0 then some (.int .i64 0,m) else (match m.write b off (cs.take (min n len * z)) with | some m'=>some (.int .i64 (min n len : Nat),m') | none=>none)
   | _,_=>none) S m K
  have k : SZ h z (x.eval tm) (y.eval tm) K:=k
  rw [US r]
  unfold SZ at k
  split at k
  ·exact BA r k
  ·split at k
   ·rename_i h0; rw [if_pos h0]; exact BA r k
   ·rename_i h0; rw [if_neg h0]; exact JJ r k
  ·exact k.elim
 case len s x=>
  cases s
  ·show CS (match x.eval tm with | .nilsl=>some (.int .i64 0,m) | .sl _ _ n _=>some (.int .i64 n,m) | _=>none) S m K
   have k : AA (AF false (x.eval tm)) h K:=k
   cases hx : x.eval tm <;> rw [hx] at k <;> first | exact BA r k | exact k.elim
  ·show CS (match x.eval tm with | .str s=>some (.int .i64 s.length,m) | _=>none) S m K
   have k : AA (AF true (x.eval tm)) h K:=k
   cases hx : x.eval tm <;> rw [hx] at k <;> first | exact BA r k | exact k.elim
 case cap x=>
  show CS (match x.eval tm with | .nilsl=>some (.int .i64 0,m) | .sl _ _ _ (.exact c)=>some (.int .i64 c,m) | _=>none) S m K
  have k : AA (bL (x.eval tm)) h K:=k
  cases hx : x.eval tm <;> rw [hx] at k <;> first | exact BA r k | exact k.elim | skip
  rename_i c
  cases c <;> first | exact BA r k | exact k.elim
 case mn l=>
  show CS (match l.map (·.eval tm) with | x :: l=>CV (ES x l) m | []=>none) S m K
  have k : AA (mnA (l.map (·.eval tm))) h K:=k
  cases hx : l.map (·.eval tm) <;> rw [hx] at k <;> first | exact EY r k | exact k.elim
 case mx l=>
  show CS (match l.map (·.eval tm) with | x :: l=>CV (ET x l) m | []=>none) S m K
  have k : AA (mxA (l.map (·.eval tm))) h K:=k
  cases hx : l.map (·.eval tm) <;> rw [hx] at k <;> first | exact EY r k | exact k.elim
end
abbrev Env:=Nat -> AV
def upd (e : Env) (d : Nat) (v : AV) : Env:=fun k=>cond (Nat.beq k d) v (e k)
def QH (e : Env) : Option Nat -> AV -> Env
 | some d,v=>upd e d v
 | none,_=>e
def ev (e : Env) : Opd -> AV
 | .t n=>e n
 | .c v=>v
def idx (k : Nat) : List Nat -> Nat -> Option Nat
 | [],_=>none
 | d :: ds,i=>cond (Nat.beq d k) (some i) (idx k ds (i + 1))
def ofL (e : Env) (lv : List Nat) (l : List AV) : Env:=fun k=>match idx k lv 0 with | some i=>l.getD i .undef | none=>e k
def UL (args : List AV) : Env:=fun k=>args.getD k .undef
def sD (d : Nat) (op : IOp) : Step:=⟨some d,none,op,[]⟩
def sG (d t : Nat) (b : Bool) (op : IOp) : Step:=⟨some d,some (t,b),op,[]⟩
def sN (op : IOp) : Step:=⟨none,none,op,[]⟩
inductive ACode where
 | skip
 | reg (n : Nat) (pi : List Nat) (anc : List (List Nat)) (ops : List Step)
 | seq (a b : ACode)
 | cond (c : Opd) (a b : ACode)
 | block (id : Nat) (c : ACode)
 | loop (lv : List Nat) (L : Nat) (c : ACode)
 | exit (id : Nat)
 | ret
def ACode.erase : ACode -> D1
 | .skip=>.skip
 | .reg n pi anc ops=>.reg n pi anc ops
 | .seq a b=>.seq a.erase b.erase
 | .cond c a b=>.cond c a.erase b.erase
 | .block i c=>.block i c.erase
 | .loop _ _ c=>.loop c.erase
 | .exit i=>.exit i
 | .ret=>.ret
def noA : AK:=fun _ _ _ _=>False
def AH (c : AV) (b : Bool) (W : (AV -> H -> Prop) -> Prop) (h : H) (K : AV -> H -> Prop) : Prop:=
 match c with
 | .bool x=>if x = b then W K else K .undef h
 | _=>K .undef h
def wantA (e : Env) (g : Option (Nat × Bool)) (W : (AV -> H -> Prop) -> Prop) (h : H) (K : AV -> H -> Prop) : Prop:=
 let _:=@opA
 match g with
 | none=>W K
 | some (t,b)=>AH (e t) b W h K
def GI (c : AV) (b : Bool) (A : Prop) : Prop:=match c with | .bool x=>if x = b then A else True | _=>True
def UN (e : Env) (h : H) (c : Chk) : Prop:=
 match c.guard with
 | none=>opA noA (ev e) h c.op (fun v _=>v = e c.dst)
 | some (t,b)=>GI (e t) b (opA noA (ev e) h c.op (fun v _=>v = e c.dst))
def AY (A B : Prop) : Prop:=A /\ B
def JX (e : Env) (h : H) : List Chk -> Prop -> Prop
 | [],A=>A
 | c :: l,A=>AY (UN e h c) (JX e h l A)
def KA (C : AK) : List Step -> Env -> H -> (Env -> H -> Prop) -> Prop
 | [],e,h,Q=>Q e h
 | i :: r,e,h,Q=>wantA e i.guard (opA C (ev e) h i.op) h fun v h'=>JX e h' i.chk (KA C r (QH e i.dst v) h' Q)
def seqA (W : Env -> H -> Prop) (Q : Ex -> Env -> H -> Prop) (x : Ex) (e : Env) (h : H) : Prop:=let _:=@opA; match x with | .norm=>W e h | x=>Q x e h
def exitA (j id : Nat) : Ex:=cond (Nat.beq j id) .norm (.exit j)
def bR (id : Nat) (Q : Ex -> Env -> H -> Prop) (x : Ex) (e : Env) (h : H) : Prop:=let _:=@opA; Q (match x with | .exit j=>exitA j id | x=>x) e h
def AJ {α : Type} (J : α) (B : α -> Prop) : Prop:=B J
def AX (l : List AV) (i : Nat) (F : AV -> Prop) : Prop:=F (l.getD i .undef)
def AC (x : AV) (A B : Prop) : Prop:=match x with | .bool b=>if b = true then A else B | _=>False
def AP (F : (List AV -> H -> Prop) -> List AV -> H -> Prop) (l : List AV) (h : H) : Prop:=
 ∃ (n : Nat) (Inv : Nat -> List AV -> H -> Prop),Inv n l h /\ ∀ n l h,Inv n l h -> F (fun l' h'=>∃ n',n' < n /\ Inv n' l' h') l h
def loopQ (N : List AV -> H -> Prop) (lv : List Nat) (Q : Ex -> Env -> H -> Prop) (x : Ex) (e : Env) (h : H) : Prop:=let _:=@opA; match x with | .norm=>N (lv.map e) h | x=>Q x e h
def wpA (C : AK) : ACode -> Env -> H -> (Ex -> Env -> H -> Prop) -> Prop
 | .skip,e,h,Q=>Q .norm e h
 | .reg _ _ _ ops,e,h,Q=>KA C ops e h (Q .norm)
 | .seq a b,e,h,Q=>wpA C a e h (seqA (fun e h=>wpA C b e h Q) Q)
 | .cond c a b,e,h,Q=>AC (ev e c) (wpA C a e h Q) (wpA C b e h Q)
 | .block id c,e,h,Q=>wpA C c e h (bR id Q)
 | .loop lv _ c,e,h,Q=>AP (fun N l h=>wpA C c (ofL e lv l) h (loopQ N lv Q)) (lv.map e) h
 | .exit id,e,h,Q=>Q (.exit id) e h
 | .ret,e,h,Q=>Q .ret e h
def V6 (h : H) (e : Env) : List LN -> (List AV -> Prop) -> Prop
 | [],K=>K []
 | .tmp t :: l,K=>V6 h e l fun vs=>K (e t :: vs)
 | .cell t n :: l,K=>AA (ldA h n (e t)) h fun v _=>V6 h e l fun vs=>K (v :: vs)
def X4 (rs : List LN) (R : AV -> H -> Prop) (x : Ex) (e : Env) (h : H) : Prop:=match x with | .exit _=>False | _=>V6 h e rs fun vs=>R (QK vs) h
def callA (tab : Nat -> Option AN) : AK:=fun f a h K=>∀ m,Rep m h -> ∃ k,CS (evF tab k f a m) EG m K
def U9 : Opd -> Nat
 | .t n=>2 ^ n
 | .c _=>0
def J5 (l : List Opd) : Nat:=l.foldr (fun x a=>U9 x ||| a) 0
def SA (l : List Nat) : Nat:=l.foldr (fun x a=>2 ^ x ||| a) 0
def MW : Option (Nat × Bool) -> Nat
 | none=>0
 | some (t,_)=>2 ^ t
def G2 (L : Nat) : Option Nat -> Nat
 | none=>L
 | some d=>L ^^^ (L &&& 2 ^ d)
def NY (l : List Chk) : Nat:=l.foldr (fun c a=>MW c.guard ||| (J5 c.op.uses ||| (2 ^ c.dst ||| a))) 0
def inN (n : Nat) : Option Nat -> Bool
 | none=>true
 | some d=>Nat.blt d n
def K9 (n : Nat) : List Step -> Nat -> Nat × Bool
 | [],L=>(L,true)
 | i :: r,L=>match K9 n r L with | (L',ok)=>(MW i.guard ||| (J5 i.op.uses ||| (NY i.chk ||| G2 L' i.dst)),ok && inN n i.dst)
def P6 : List Step -> Nat
 | []=>0
 | i :: r=>(match i.dst with | some d=>2 ^ d | none=>0) ||| P6 r
def E2 : ACode -> Nat
 | .reg _ _ _ ops=>P6 ops
 | .seq a b=>E2 a ||| E2 b
 | .cond _ a b=>E2 a ||| E2 b
 | .block _ c=>E2 c
 | .loop _ _ c=>E2 c
 | _=>0
def subM (a b : Nat) : Bool:=Nat.beq (a &&& b) a
def H5 (n : Nat) : ACode -> (Nat -> Nat) -> Nat -> Nat -> Nat × Bool
 | .skip,_,Ln,_=>(Ln,true)
 | .reg _ _ _ ops,_,Ln,_=>K9 n ops Ln
 | .seq a b,Lx,Ln,Lr=>match H5 n b Lx Ln Lr with | (L,ok)=>match H5 n a Lx L Lr with | (L',ok')=>(L',ok && ok')
 | .cond c a b,Lx,Ln,Lr=>match H5 n a Lx Ln Lr,H5 n b Lx Ln Lr with | (L,ok),(L',ok')=>(U9 c ||| (L ||| L'),ok && ok')
 | .block id c,Lx,Ln,Lr=>H5 n c (fun j=>cond (Nat.beq j id) Ln (Lx j)) Ln Lr
 | .loop lv L c,Lx,Ln,Lr=>match H5 n c Lx L Lr with | (L',ok)=>(L,ok && (subM L' L && subM (L &&& E2 c) (SA lv)))
 | .exit id,Lx,_,_=>(Lx id,true)
 | .ret,_,_,Lr=>(Lr,true)
def CD : List Step -> List Nat
 | []=>[]
 | i :: r=>match i.op.slot with | some k=>k :: CD r | none=>CD r
def V0 (n : Nat) : List Nat -> Bool
 | []=>true
 | k :: l=>Nat.blt k n && V0 n l
def YF (k : Nat) : List Nat -> Bool
 | []=>false
 | j :: l=>Nat.beq j k || YF k l
def P3 : List Nat -> Bool
 | []=>true
 | k :: l=>!(YF k l) && P3 l
def VT : List Chk -> Bool
 | []=>true
 | c :: l=>(match c.op.slot with | none=>true | some _=>false) && VT l
def Q8 : List Step -> Bool
 | []=>true
 | i :: r=>VT i.chk && Q8 r
def GN : ACode -> Bool
 | .reg n _ _ ops=>V0 n (CD ops) && P3 (CD ops) && Q8 ops
 | .seq a b | .cond _ a b=>GN a && GN b
 | .block _ c=>GN c
 | .loop _ _ c=>GN c
 | _=>true
def agree (L : Nat) (tm : List AV) (e : Env) : Prop:=∀ k,L.testBit k = true -> tm.getD k .undef = e k
theorem agree.mono {L L' : Nat} {tm : List AV} {e : Env} (h : agree L tm e) (hL : ∀ k,L'.testBit k = true -> L.testBit k = true) : agree L' tm e:=fun k hk=>h k (hL k hk)
theorem FN (t k : Nat) : (2 ^ t).testBit k = decide (t = k):=Nat.testBit_two_pow
theorem PR : ∀ (l : List Opd) (t : Nat),Opd.t t ∈ l -> (J5 l).testBit t = true
 | [],_,h=>by cases h
 | x :: l,t,h=>by
  simp only [J5,List.foldr,Nat.testBit_or,Bool.or_eq_true]
  rcases List.mem_cons.1 h with h | h
  ·left; rw [<- h]; simp [U9,FN]
  ·right; exact PR l t h
theorem PQ : ∀ (l : List Nat) (t : Nat),(SA l).testBit t = true ↔ t ∈ l
 | [],t=>by simp [SA]
 | x :: l,t=>by
  have:=PQ l t
  simp only [SA] at this
  simp only [SA,List.foldr,Nat.testBit_or,Bool.or_eq_true,this,FN,List.mem_cons,decide_eq_true_eq]
  constructor <;> rintro (h | h) <;> first | exact .inl h.symm | exact .inr h
theorem S8 (L d k : Nat) : (G2 L (some d)).testBit k = (L.testBit k && decide (d ≠ k)):=by
 simp only [G2,Nat.testBit_xor,Nat.testBit_and,FN]
 by_cases h : d = k <;> cases L.testBit k <;> simp [h]
theorem WW {L n : Nat} {tm : List AV} {e : Env} {d : Option Nat} {v : AV} (hn : tm.length = n) (hd : inN n d = true) (h : agree (G2 L d) tm e) : agree L (put tm d v) (QH e d v):=by
 intro k hk
 cases d with
 | none=>exact h k hk
 | some d=>
  have hd : d < n:=by simpa [inN] using hd
  simp only [put,QH,upd]
  by_cases hkd : k = d
  ·subst hkd
   simp [List.getD_eq_getElem?_getD,List.getElem?_set,hn,hd]
  ·have:=h k (by rw [S8,hk]; simp; exact fun x=>hkd x.symm)
   have hb : Nat.beq k d = false:=by
    cases hh : Nat.beq k d with
    | false=>rfl
    | true=>exact absurd (Nat.eq_of_beq_eq_true hh) hkd
   rw [hb]
   simp only [cond]
   rw [<- this]
   simp only [List.getD_eq_getElem?_getD,List.getElem?_set]
   rw [if_neg (fun x=>hkd x.symm)]
theorem TM (tm : List AV) (d : Option Nat) (v : AV) : (put tm d v).length = tm.length:=by
 cases d <;> simp [put]
theorem RL {a b : Nat} (h : subM a b = true) (k : Nat) (hk : a.testBit k = true) : b.testBit k = true:=by
 have:=Nat.eq_of_beq_eq_true h
 rw [<- this,Nat.testBit_and] at hk
 simp at hk
 exact hk.2
theorem TN {e : Env} {d : Option Nat} {v : AV} {k : Nat} (h : ((match d with | some d=>2 ^ d | none=>0) : Nat).testBit k = false) : QH e d v k = e k:=by
 cases d with
 | none=>rfl
 | some d=>
  simp only [FN,decide_eq_false_iff_not] at h
  simp only [QH,upd]
  have hb : Nat.beq k d = false:=by
   cases hh : Nat.beq k d with
   | false=>rfl
   | true=>exact absurd (Nat.eq_of_beq_eq_true hh).symm h
  rw [hb]; rfl
theorem ST {L : Nat} {tm : List AV} {e : Env} (h : agree L tm e) (l : List Opd) (hL : ∀ k,(J5 l).testBit k = true -> L.testBit k = true) : ∀ x ∈ l,Opd.eval tm x = ev e x:=by
 intro x hx
 cases x with
 | c v=>rfl
 | t n=>exact h n (hL n (PR l n hx))
mutual
theorem PG : ∀ x : AV,AV.same x x = true
 | .undef | .nilp | .nilsl | .nilfn=>rfl
 | .int _ _=>by simp [AV.same]
 | .bool _=>by simp [AV.same]
 | .str _=>by simp [AV.same]
 | .ptr _ _=>by simp [AV.same]
 | .sl _ _ _ _=>by simp [AV.same]
 | .agg l=>by simp [AV.same,sames_refl l]
 | .tup l=>by simp [AV.same,sames_refl l]
 | .fn f a c=>by simp [AV.same,sames_refl a,sames_refl c]
theorem sames_refl : ∀ x : List AV,AV.sames x x = true
 | []=>rfl
 | a :: l=>by simp [AV.sames,PG a,sames_refl l]
end
theorem SJ (k : Nat) : ∀ l,YF k l = true ↔ k ∈ l
 | []=>by simp [YF]
 | j :: l=>by
  simp only [YF,Bool.or_eq_true,SJ k l,List.mem_cons]
  constructor
  ·rintro (h | h)
   ·exact .inl (Nat.eq_of_beq_eq_true h).symm
   ·exact .inr h
  ·rintro (h | h)
   ·subst h; left; exact Nat.beq_refl _
   ·exact .inr h
theorem P4 (n : Nat) : ∀ l,V0 n l = true -> ∀ k ∈ l,k < n
 | [],_,_,h=>by cases h
 | j :: l,h,k,hk=>by
  simp only [V0,Bool.and_eq_true] at h
  rcases List.mem_cons.1 hk with rfl | hk
  ·simpa using h.1
  ·exact P4 n l h.2 k hk
section
variable {tab : Nat -> Option AN}
theorem chk_ok {L : Nat} {tm : List AV} {e : Env} {m : Mem} {h : H} {base : Nat} (r : Rep m h) (ha : agree L tm e) (c : Chk) (hL : ∀ k,(MW c.guard ||| (J5 c.op.uses ||| 2 ^ c.dst)).testBit k = true -> L.testBit k = true)
  (hs : c.op.slot = none) (hp : UN e h c) : D6 base tm m c = true:=by
 have hd : tm.getD c.dst .undef = e c.dst:=ha _ (hL _ (by simp [Nat.testBit_or,FN]))
 have main : opA noA (ev e) h c.op (fun v _=>v = e c.dst) -> (match A1 (fun _ _ _=>none) base tm m c.op with | some (v,_)=>AV.same v (tm.getD c.dst .undef) | none=>false) = true:=by
  intro hp
  rw [<- PM (ST ha _ fun k hk=>hL k (by simp only [Nat.testBit_or,hk]; simp))] at hp
  obtain ⟨k,v,m',h',h1,_,_,h2⟩:=QZ (S:=EG) (cf:=fun _ _ _ _=>none) (fun f a h K m hf=>hf.elim) r hp (fun j hj=>by rw [hs] at hj; cases hj) (base:=base)
  rw [h1]
  simp only [h2,hd,PG]
 unfold D6
 unfold UN at hp
 cases hg : c.guard with
 | none=>
  rw [hg] at hp
  simp only [CA,if_true]
  exact main hp
 | some x=>
  obtain ⟨t,b⟩:=x
  rw [hg] at hp
  have ht : tm.getD t .undef = e t:=ha _ (hL _ (by rw [hg]; simp [MW,Nat.testBit_or,FN]))
  simp only [CA,ht]
  simp only [GI] at hp
  cases he : e t <;> rw [he] at hp <;> simp only [Bool.false_eq_true,if_false,if_true] at hp ⊢
  rename_i y
  by_cases hy : y = b
  ·subst hy
   simp only [if_true] at hp
   simp only [beq_self_eq_true,if_true]
   exact main hp
  ·have : (y == b) = false:=by simpa using hy
   simp only [this,Bool.false_eq_true,if_false]
theorem VS {L : Nat} {tm : List AV} {e : Env} {m : Mem} {h : H} {base : Nat} (r : Rep m h) (ha : agree L tm e) {A : Prop} : ∀ (l : List Chk),(∀ k,(NY l).testBit k = true -> L.testBit k = true) -> VT l = true -> JX e h l A -> l.all (D6 base tm m) = true /\ A
 | [],_,_,hp=>⟨rfl,hp⟩
 | c :: l,hL,hs,hp=>by
  simp only [NY,List.foldr,Nat.testBit_or,Bool.or_eq_true] at hL
  simp only [VT,Bool.and_eq_true] at hs
  obtain ⟨h1,h2⟩:=VS (base:=base) r ha l (fun k hk=>hL k (.inr (.inr (.inr hk)))) hs.2 hp.2
  refine ⟨?_,h2⟩
  simp only [List.all_cons,h1,Bool.and_true]
  refine chk_ok r ha c (fun k hk=>hL k ?_) ?_ hp.1
  ·simp only [Nat.testBit_or,Bool.or_eq_true] at hk
   rcases hk with hk | hk | hk
   ·exact .inl hk
   ·exact .inr (.inl hk)
   ·exact .inr (.inr (.inl hk))
  ·have:=hs.1
   split at this
   ·assumption
   ·cases this
theorem VI (e : Env) (k : Nat) : ∀ (lv : List Nat) (i : Nat),k ∈ lv -> ∃ j,idx k lv i = some (i + j) /\ (lv.map e)[j]? = some (e k)
 | [],_,h=>by cases h
 | d :: ds,i,h=>by
  simp only [idx]
  cases hb : Nat.beq d k with
  | true=>
   have:=Nat.eq_of_beq_eq_true hb
   subst this
   exact ⟨0,rfl,rfl⟩
  | false=>
   have hk : k ∈ ds:=by
    rcases List.mem_cons.1 h with h | h
    ·subst h; rw [Nat.beq_refl] at hb; cases hb
    ·exact h
   obtain ⟨j,h1,h2⟩:=VI e k ds (i + 1) hk
   exact ⟨j + 1,by simp only [cond]; rw [h1]; congr 1; omega,by simpa using h2⟩
theorem SN (k : Nat) : ∀ (lv : List Nat) (i : Nat),k ∉ lv -> idx k lv i = none
 | [],_,_=>rfl
 | d :: ds,i,h=>by
  simp only [List.mem_cons,not_or] at h
  have hb : Nat.beq d k = false:=by
   cases hh : Nat.beq d k with
   | false=>rfl
   | true=>exact absurd (Nat.eq_of_beq_eq_true hh).symm h.1
  simp only [idx,hb]
  exact SN k ds (i + 1) h.2
theorem ofL_in {e e1 : Env} {lv : List Nat} {k : Nat} (h : k ∈ lv) : ofL e lv (lv.map e1) k = e1 k:=by
 obtain ⟨j,h1,h2⟩:=VI e1 k lv 0 h
 simp only [ofL,h1,Nat.zero_add,List.getD_eq_getElem?_getD,h2,Option.getD]
theorem ofL_out {e e1 : Env} {lv : List Nat} {k : Nat} (h : k ∉ lv) : ofL e lv (lv.map e1) k = e k:=by
 simp only [ofL,SN k lv 0 h]
theorem U8 {e e1 : Env} {lv : List Nat} {W : Nat} (h : ∀ k,W.testBit k = false -> e1 k = e k) (k : Nat) (hk : k ∈ lv \/ W.testBit k = false) : ofL e lv (lv.map e1) k = e1 k:=by
 by_cases hl : k ∈ lv
 ·exact ofL_in hl
 ·rcases hk with hk | hk
  ·exact absurd hk hl
  ·rw [ofL_out hl,h k hk]
def atEx (Lx : Nat -> Nat) (Ln Lr : Nat) : Ex -> Nat
 | .norm=>Ln
 | .exit i=>Lx i
 | .ret=>Lr
def K7 : List LN -> Nat
 | []=>0
 | .tmp t :: l=>2 ^ t ||| K7 l
 | .cell t _ :: l=>2 ^ t ||| K7 l
theorem IE {tm : List AV} {m : Mem} {h : H} {e : Env} (r : Rep m h) : ∀ (rs : List LN) (K : List AV -> Prop),agree (K7 rs) tm e -> V6 h e rs K -> ∃ vs,D7 tm m rs = some vs /\ K vs
 | [],K,_,hp=>⟨[],rfl,hp⟩
 | .tmp t :: l,K,ha,hp=>by
  have ht : tm.getD t .undef = e t:=ha t (by simp [K7,Nat.testBit_or,FN])
  obtain ⟨vs,h1,h2⟩:=IE r l _ (ha.mono fun k hk=>by simp [K7,Nat.testBit_or,hk]) hp
  exact ⟨_,by simp only [D7,KX,h1,ht],h2⟩
 | .cell t n :: l,K,ha,hp=>by
  have ht : tm.getD t .undef = e t:=ha t (by simp [K7,Nat.testBit_or,FN])
  simp only [V6] at hp
  have ho : opA noA (Opd.eval tm) h (.ld n (.t t)) (fun v _=>V6 h e l fun vs=>K (v :: vs)):=by
   simp only [opA,Opd.eval,ht]
   exact hp
  obtain ⟨_,v,m',h',g1,_,_,g2⟩:=QZ (S:=EG) (cf:=fun _ _ _ _=>none) (fun f a h K m hf=>hf.elim) r ho (base:=0) (fun j hj=>by cases hj)
  obtain ⟨vs,h1,h2⟩:=IE r l _ (ha.mono fun k hk=>by simp [K7,Nat.testBit_or,hk]) g2
  exact ⟨_,by simp only [D7,KX,g1,h1],h2⟩
def okA (n : Nat) (rs : List LN) (c : ACode) : Bool:=(H5 n c (fun _=>0) (K7 rs) (K7 rs)).2 && GN c
def SC : List (Nat × AN) -> Nat -> Option AN
 | [],_=>none
 | (k,i) :: l,f=>cond (Nat.beq k f) (some i) (SC l f)
def okFs (P : Program) : List (Nat × AN) -> Prop
 | []=>True
 | (f,i) :: l=>NW P f i = true /\ okFs P l
theorem PN {P : Program} : ∀ {l : List (Nat × AN)},okFs P l -> ∀ f i,SC l f = some i -> NW P f i = true
 | [],_,f,i,h=>by simp [SC] at h
 | (k,j) :: l,ho,f,i,h=>by
  simp only [SC] at h
  cases hb : Nat.beq k f with
  | true=>
   rw [hb] at h
   simp only [cond] at h
   injection h with h
   rw [<- h,<- Nat.eq_of_beq_eq_true hb]
   exact ho.1
  | false=>
   rw [hb] at h
   exact PN ho.2 f i h
theorem callA.mono {f : Nat} {a : List AV} {h : H} {K K' : AV -> H -> Prop} (hc : callA tab f a h K) (hk : ∀ v h',K v h' -> K' v h') : callA tab f a h K':=fun m r=>by
 obtain ⟨k,v,m',h',h1,h2,h3,h4⟩:=hc m r
 exact ⟨k,v,m',h',h1,h2,h3,hk _ _ h4⟩
theorem TK (h : H) : ∃ m,Rep m h:=by
 obtain ⟨n,hn⟩:=h.fin
 have : ∀ k,k <= n -> ∃ t : T,∀ b,t.get b = if b < k then h.get b else none:=by
  intro k
  induction k with
  | zero=>exact fun _=>⟨.nil,fun b=>by simp [T.get]⟩
  | succ k ih=>
   intro hk
   obtain ⟨t,ht⟩:=ih (by omega)
   cases hb : h.get k with
   | none=>exact ⟨t,fun b=>by
     rw [ht]
     by_cases hbk : b = k
     ·subst hbk; simp [hb]
     ·by_cases h1 : b < k
      ·rw [if_pos h1,if_pos (by omega)]
      ·rw [if_neg h1,if_neg (by omega)]⟩
   | some o=>exact ⟨t.set k o,fun b=>by
     rw [T.get_set,ht]
     by_cases hbk : b = k
     ·subst hbk; simp [hb]
     ·rw [if_neg hbk]
      by_cases h1 : b < k
      ·rw [if_pos h1,if_pos (by omega)]
      ·rw [if_neg h1,if_neg (by omega)]⟩
 obtain ⟨t,ht⟩:=this n (Nat.le_refl _)
 refine ⟨⟨n,t⟩,fun b hb=>?_,fun b=>?_⟩
 ·show t.get b = none
  rw [ht,if_neg (by have : n <= b:=hb; omega)]
 ·show t.get b = h.get b
  rw [ht]
  by_cases hb : b < n
  ·rw [if_pos hb]
  ·rw [if_neg hb,hn b (by omega)]
end
end Go.Proofs.YtdljelicbnjfjaaGreat.X
namespace Go.Proofs.YtdljelicbnjfjaaGreat.X
open Go Go.RowKit
@[congr] theorem valA_congr {o o' : Option AV} {h : H} {K : AV -> H -> Prop} (e : o = o') : AA o h K = AA o' h K:=by rw [e]
@[congr] theorem memA_congr {o o' : Option H} {v : AV} {K : AV -> H -> Prop} (e : o = o') : AM o v K = AM o' v K:=by rw [e]
@[congr] theorem boxA_congr {h : H} {cs cs' : List AV} {e : Nat} {K : AV -> H -> Prop} (q : cs = cs') : AL h cs e K = AL h cs' e K:=by rw [q]
@[congr] theorem newA_congr {h : H} {cs cs' : List AV} {e : Nat} {mk : Nat -> AV} {K : AV -> H -> Prop} (q : cs = cs') : M5 h cs e mk K = M5 h cs' e mk K:=by rw [q]
@[congr] theorem appendA_congr {h : H} {e z b : Nat} {x x' y y' : AV} {K : AV -> H -> Prop} (q : x = x') (q' : y = y') : A4 h e z b x y K = A4 h e z b x' y' K:=by rw [q,q']
@[congr] theorem s2bA_congr {h : H} {e : Nat} {x x' : AV} {K : AV -> H -> Prop} (q : x = x') : XN h e x K = XN h e x' K:=by rw [q]
@[congr] theorem mksA_congr {h : H} {e b : Nat} {z : List AV} {l l' c c' : AV} {K : AV -> H -> Prop} (q : l = l') (q' : c = c') : TS h e z b l c K = TS h e z b l' c' K:=by rw [q,q']
@[congr] theorem clearA_congr {h : H} {z : List AV} {x x' : AV} {K : AV -> H -> Prop} (q : x = x') : KP h z x K = KP h z x' K:=by rw [q]
@[congr] theorem copyA_congr {h : H} {z : Nat} {x x' y y' : AV} {K : AV -> H -> Prop} (q : x = x') (q' : y = y') : SZ h z x y K = SZ h z x' y' K:=by rw [q,q']
@[congr] theorem mkslA_congr {h : H} {e n : Nat} {o o' : Option (List AV)} {K : AV -> H -> Prop} (q : o = o') : A5 h e n o K = A5 h e n o' K:=by rw [q]
@[congr] theorem callvA_congr {C : AK} {x x' : AV} {a a' : List AV} {h : H} {K : AV -> H -> Prop} (q : x = x') (q' : a = a') : CQ C x a h K = CQ C x' a' h K:=by rw [q,q']
@[congr] theorem callA_congr {tab : Nat -> Option AN} {f : Nat} {a a' : List AV} {h : H} {K : AV -> H -> Prop} (q : a = a') : callA tab f a h K = callA tab f a' h K:=by rw [q]
@[congr] theorem whenA_congr {c c' : AV} {b : Bool} {W : (AV -> H -> Prop) -> Prop} {h : H} {K : AV -> H -> Prop} (q : c = c') : AH c b W h K = AH c' b W h K:=by rw [q]
@[congr] theorem whenP_congr {c c' : AV} {b : Bool} {A : Prop} (q : c = c') : GI c b A = GI c' b A:=by rw [q]
@[congr] theorem condA_congr {c c' : AV} {A B : Prop} (q : c = c') : AC c A B = AC c' A B:=by rw [q]
@[congr] theorem joinA_congr {α : Type} {J : α} {B B' : α -> Prop} (q : B = B') : AJ J B = AJ J B':=by rw [q]
@[congr] theorem argA_congr {l l' : List AV} {i : Nat} {F : AV -> Prop} (q : l = l') : AX l i F = AX l' i F:=by rw [q]
@[congr] theorem loopA_congr {F : (List AV -> H -> Prop) -> List AV -> H -> Prop} {l l' : List AV} {h : H} (q : l = l') : AP F l h = AP F l' h:=by rw [q]
@[congr] theorem againK_congr {A A' B : Prop} (q : A = A') : AY A B = AY A' B:=by rw [q]
section
variable {h h' : H} {K : AV -> H -> Prop} {v w : AV} {A B : Prop} {W : (AV -> H -> Prop) -> Prop}
@[go_sem] theorem AB : AA (some v) h K = K v h:=id rfl
@[go_sem] theorem valA_none : AA none h K = False:=id rfl
@[go_sem] theorem A3 : AM (some h') v K = K v h':=id rfl
@[go_sem] theorem memA_none : AM none v K = False:=id rfl
@[go_sem] theorem BE {l : List AV} {F : AV -> Prop} : AX (v :: l) 0 F = F v:=id rfl
@[go_sem] theorem CJ {a : AV} {l : List AV} {F : AV -> Prop} : AX (a :: v :: l) 1 F = F v:=id rfl
@[go_sem] theorem bW {a b : AV} {l : List AV} {F : AV -> Prop} : AX (a :: b :: v :: l) 2 F = F v:=id rfl
@[go_sem] theorem argA_3 {a b c : AV} {l : List AV} {F : AV -> Prop} : AX (a :: b :: c :: v :: l) 3 F = F v:=id rfl
@[go_sem] theorem argA_4 {a b c d : AV} {l : List AV} {F : AV -> Prop} : AX (a :: b :: c :: d :: v :: l) 4 F = F v:=id rfl
@[go_sem] theorem argA_5 {a b c d e : AV} {l : List AV} {F : AV -> Prop} : AX (a :: b :: c :: d :: e :: v :: l) 5 F = F v:=id rfl
@[go_sem] theorem AZ : AC (.bool true) A B = A:=id rfl
@[go_sem] theorem AO : AC (.bool false) A B = B:=id rfl
@[go_sem] theorem condA_d {p : Prop} [Decidable p] : AC (.bool (decide p)) A B = if p then A else B:=by
 by_cases hp : p <;> simp [AC,hp]
@[go_sem] theorem RG : AH (.bool true) true W h K = W K:=id rfl
@[go_sem] theorem GK : AH (.bool false) false W h K = W K:=id rfl
@[go_sem] theorem GJ : AH (.bool true) false W h K = K .undef h:=id rfl
@[go_sem] theorem RH : AH (.bool false) true W h K = K .undef h:=id rfl
@[go_sem] theorem whenA_u {b : Bool} : AH .undef b W h K = K .undef h:=id rfl
@[go_sem] theorem whenA_dt {p : Prop} [Decidable p] : AH (.bool (decide p)) true W h K = if p then W K else K .undef h:=by
 by_cases hp : p <;> simp [AH,hp]
@[go_sem] theorem whenA_df {p : Prop} [Decidable p] : AH (.bool (decide p)) false W h K = if p then K .undef h else W K:=by
 by_cases hp : p <;> simp [AH,hp]
@[go_sem] theorem whenP_tt : GI (.bool true) true A = A:=id rfl
@[go_sem] theorem W2 : GI (.bool false) false A = A:=id rfl
@[go_sem] theorem W1 : GI (.bool true) false A = True:=id rfl
@[go_sem] theorem whenP_ft : GI (.bool false) true A = True:=id rfl
@[go_sem] theorem LM : AY True B = B:=by simp [AY]
@[go_sem] theorem CT {b : Bool} {x y : AV} : AE (.bool b) x y = some (if b = true then x else y):=id rfl
@[go_sem] theorem cvA_i {k k' : IntKind} {n : Int} : cvA k (.int k' n) = some (.int k (k.wrap n)):=id rfl
@[go_sem] theorem extA_t {l : List AV} {i : Nat} : A8 (.tup l) i = l[i]?:=id rfl
@[go_sem] theorem lenA_s {s : List UInt8} : AF true (.str s) = some (.int .i64 s.length):=id rfl
@[go_sem] theorem lenA_n : AF false .nilsl = some (.int .i64 0):=id rfl
@[go_sem] theorem YD {b off n : Nat} {c : Cap} : AF false (.sl b off n c) = some (.int .i64 n):=id rfl
@[go_sem] theorem H8 {b o off : Nat} : faA off (.ptr b o) = some (.ptr b (o + off)):=id rfl
@[go_sem] theorem fldA_a {cs : List AV} {off : Nat} {n : Option Nat} : T3 off n (.agg cs) = EQ cs off n:=id rfl
@[go_sem] theorem partOf_n {cs : List AV} {off : Nat} : EQ cs off none = cs[off]?:=id rfl
@[go_sem] theorem partOf_s {cs : List AV} {off n : Nat} : EQ cs off (some n) = if off + n <= cs.length then some (.agg ((cs.drop off).take n)) else none:=id rfl
@[go_sem] theorem M0 {esz b off len : Nat} {c : Cap} {k : IntKind} {n : Int} : iaA esz (.sl b off len c) (.int k n) = if 0 <= n /\ n < len then some (.ptr b (off + n.toNat * esz)) else none:=id rfl
@[go_sem] theorem iaArrA_p {len esz b off : Nat} {k : IntKind} {n : Int} : QT len esz (.ptr b off) (.int k n) = if 0 <= n /\ n < len then some (.ptr b (off + n.toNat * esz)) else none:=id rfl
@[go_sem] theorem nilcA_p {b off : Nat} : BJ (.ptr b off) = some (.ptr b off):=id rfl
@[go_sem] theorem E3 {b off : Nat} : ldA h none (.ptr b off) = h.cell b off:=id rfl
@[go_sem] theorem MZ {b off n : Nat} : ldA h (some n) (.ptr b off) = (match h.read b off n with | some cs=>some (.agg cs) | none=>none):=id rfl
theorem HY {b off n : Nat} {y : AV} : stA h n (.ptr b off) y = if y.cells.length = n then h.write b off y.cells else none:=id rfl
@[go_sem] theorem S7 {l : List AV} : AT (some l) = some (.agg l):=id rfl
@[go_sem] theorem mnA_1 {x : AV} {l : List AV} : mnA (x :: l) = ES x l:=id rfl
@[go_sem] theorem mxA_1 {x : AV} {l : List AV} : mxA (x :: l) = ET x l:=id rfl
@[go_sem] theorem minInt_0 {x : AV} : ES x [] = some x:=by cases x <;> rfl
@[go_sem] theorem maxInt_0 {x : AV} : ET x [] = some x:=by cases x <;> rfl
@[go_sem] theorem minInt_1 {k : IntKind} {x y : Int} {l : List AV} : ES (.int k x) (.int k y :: l) = ES (.int k (if y < x then y else x)) l:=by simp [ES]
@[go_sem] theorem maxInt_1 {k : IntKind} {x y : Int} {l : List AV} : ET (.int k x) (.int k y :: l) = ET (.int k (if x < y then y else x)) l:=by simp [ET]
@[go_sem] theorem fillV_0 {cs : List AV} : AG cs [] = some cs:=id rfl
theorem IP {cs : List AV} {off n : Nat} {x : AV} {ps : List (Nat × Nat × AV)} : AG cs ((off,n,x) :: ps) = if x.cells.length = n /\ off + n <= cs.length /\ leaves x.cells = true then AG (overlay cs off x.cells) ps else none:=id rfl
@[go_sem] theorem bO {C : AK} {f : Nat} {a c args : List AV} : CQ C (.fn f a c) args h K = C f (a ++ args ++ c) h K:=id rfl
@[go_sem] theorem sameA_s {s : List UInt8} : XL (.str s) = some (.str s):=id rfl
attribute [go_sem] if_true if_false decide_true decide_false List.length_cons List.length_nil Option.some.injEq true_and and_true
attribute [go_sem] List.getElem?_cons_zero List.getElem?_cons_succ
variable {k : IntKind} {a b : Int}
@[go_sem] theorem BS : binOp .add .num (.int k a) (.int k b) = some (.int k (k.wrap (a + b))):=by simp [binOp,E5]
@[go_sem] theorem JN : binOp .sub .num (.int k a) (.int k b) = some (.int k (k.wrap (a - b))):=by simp [binOp,E5]
@[go_sem] theorem b_mul : binOp .mul .num (.int k a) (.int k b) = some (.int k (k.wrap (a * b))):=by simp [binOp,E5]
@[go_sem] theorem b_quo (hb : b ≠ 0) : binOp .quo .num (.int k a) (.int k b) = some (.int k (k.wrap (a.tdiv b))):=by simp [binOp,E5,hb]
@[go_sem] theorem b_rem (hb : b ≠ 0) : binOp .rem .num (.int k a) (.int k b) = some (.int k (a.tmod b)):=by simp [binOp,E5,hb]
@[go_sem] theorem b_and : binOp .and .num (.int k a) (.int k b) = some (.int k (bits .and k a b)):=by simp [binOp,E5]
@[go_sem] theorem b_or : binOp .or .num (.int k a) (.int k b) = some (.int k (bits .or k a b)):=by simp [binOp,E5]
@[go_sem] theorem b_xor : binOp .xor .num (.int k a) (.int k b) = some (.int k (bits .xor k a b)):=by simp [binOp,E5]
@[go_sem] theorem b_andNot : binOp .andNot .num (.int k a) (.int k b) = some (.int k (bits .andNot k a b)):=by simp [binOp,E5]
@[go_sem] theorem S9 : binOp .eql .num (.int k a) (.int k b) = some (.bool (decide (a = b))):=by
 simp only [binOp,E5,if_true,Option.some.injEq,AV.bool.injEq]; rfl
@[go_sem] theorem b_neq : binOp .neq .num (.int k a) (.int k b) = some (.bool (decide (a ≠ b))):=by
 simp only [binOp,E5,if_true,Option.some.injEq,AV.bool.injEq]; by_cases h : a = b <;> simp [h]
@[go_sem] theorem BO : binOp .lss .num (.int k a) (.int k b) = some (.bool (decide (a < b))):=by simp [binOp,E5]
@[go_sem] theorem b_leq : binOp .leq .num (.int k a) (.int k b) = some (.bool (decide (a <= b))):=by simp [binOp,E5]
@[go_sem] theorem J9 : binOp .gtr .num (.int k a) (.int k b) = some (.bool (decide (b < a))):=by simp [binOp,E5]
@[go_sem] theorem b_geq : binOp .geq .num (.int k a) (.int k b) = some (.bool (decide (b <= a))):=by simp [binOp,E5]
theorem b_shl {k' : IntKind} (h0 : 0 <= b) (h1 : b.toNat <= k.bits) : binOp .shl .num (.int k a) (.int k' b) = some (.int k (k.wrap (a * 2 ^ b.toNat))):=by
 have : ¬ b < 0:=by omega
 simp [binOp,KW,this,Nat.min_eq_left h1]
theorem b_shr {k' : IntKind} (h0 : 0 <= b) (h1 : b.toNat <= k.bits) : binOp .shr .num (.int k a) (.int k' b) = some (.int k (a / 2 ^ b.toNat)):=by
 have : ¬ b < 0:=by omega
 have h2 : (0 : Int) <= 2 ^ b.toNat:=Int.pow_nonneg (by omega)
 simp [binOp,KW,this,Nat.min_eq_left h1,Int.fdiv_eq_ediv_of_nonneg _ h2]
@[go_sem] theorem WV {k' : IntKind} (h0 : 0 <= b) (h1 : b <= 64) : binOp .shl .num (.int .i64 a) (.int k' b) = some (.int .i64 (IntKind.i64.wrap (a * 2 ^ b.toNat))):=b_shl h0 (by show _ <= 64; omega)
@[go_sem] theorem b_shl_u64 {k' : IntKind} (h0 : 0 <= b) (h1 : b <= 64) : binOp .shl .num (.int .u64 a) (.int k' b) = some (.int .u64 (IntKind.u64.wrap (a * 2 ^ b.toNat))):=b_shl h0 (by show _ <= 64; omega)
@[go_sem] theorem WU {k' : IntKind} (h0 : 0 <= b) (h1 : b <= 64) : binOp .shr .num (.int .i64 a) (.int k' b) = some (.int .i64 (a / 2 ^ b.toNat)):=b_shr h0 (by show _ <= 64; omega)
@[go_sem] theorem b_shr_u64 {k' : IntKind} (h0 : 0 <= b) (h1 : b <= 64) : binOp .shr .num (.int .u64 a) (.int k' b) = some (.int .u64 (a / 2 ^ b.toNat)):=b_shr h0 (by show _ <= 64; omega)
@[go_sem] theorem b_beql {x y : Bool} : binOp .eql .bool (.bool x) (.bool y) = some (.bool (decide (x = y))):=by
 simp only [binOp,HF]; cases x <;> cases y <;> rfl
@[go_sem] theorem b_bneq {x y : Bool} : binOp .neq .bool (.bool x) (.bool y) = some (.bool (decide (x ≠ y))):=by
 simp only [binOp,HF]; cases x <;> cases y <;> rfl
@[go_sem] theorem b_seql {x y : List UInt8} : binOp .eql .num (.str x) (.str y) = some (.bool (decide (x = y))):=by
 simp only [binOp,RM,Option.some.injEq,AV.bool.injEq]; by_cases h : x = y <;> simp [h]
@[go_sem] theorem b_sneq {x y : List UInt8} : binOp .neq .num (.str x) (.str y) = some (.bool (decide (x ≠ y))):=by
 simp only [binOp,RM,Option.some.injEq,AV.bool.injEq]; by_cases h : x = y <;> simp [h]
@[go_sem] theorem b_nn : binOp .eql .ptr .nilp .nilp = some (.bool true):=id rfl
@[go_sem] theorem b_pn {b off : Nat} : binOp .eql .ptr (.ptr b off) .nilp = some (.bool false):=id rfl
@[go_sem] theorem b_nn' : binOp .neq .ptr .nilp .nilp = some (.bool false):=id rfl
@[go_sem] theorem b_pn' {b off : Nat} : binOp .neq .ptr (.ptr b off) .nilp = some (.bool true):=id rfl
@[go_sem] theorem RK {x : Bool} : unOp .not (.bool x) = some (.bool !x):=id rfl
@[go_sem] theorem u_neg : unOp .neg (.int k a) = some (.int k (k.wrap (0 - a))):=id rfl
@[go_sem] theorem u_xor : unOp .xor (.int k a) = some (.int k (bits .xor k (if k.signed then -1 else k.max) a)):=id rfl
end
theorem AI {α : Type} {J : α} {B : α -> Prop} (P : α -> Prop) (hJ : P J) (hB : ∀ J',P J' -> B J') : AJ J B:=hB J hJ
theorem AS {F : (List AV -> H -> Prop) -> List AV -> H -> Prop} {l : List AV} {h : H} (n : Nat) (Inv : Nat -> List AV -> H -> Prop) (hi : Inv n l h) (hs : ∀ n l h,Inv n l h -> F (fun l' h'=>∃ n',n' < n /\ Inv n' l' h') l h) : AP F l h:=⟨n,Inv,hi,hs⟩
mutual
def DO (h : H) : Sh -> List AV -> Prop
 | .int k,l=>∃ n,l = [.int k n] /\ (Lit.int k n).wf = true
 | .bool,l=>∃ b,l = [.bool b]
 | .str,l=>∃ s : List UInt8,l = [.str s] /\ s.length <= reachBytes
 | .sl s,l=>l = [.nilsl] \/ ∃ (b ei : Nat) (css : List (List AV)),l = [.sl b 0 css.length .any] /\ h.get b = some (.live css.flatten ei false) /\ css.length <= reachBytes /\ ∀ c ∈ css,DO h s c
 | .st ss,l=>LiesL h ss l
def LiesL (h : H) : List Sh -> List AV -> Prop
 | [],l=>l = []
 | s :: ss,l=>∃ l1 l2,l = l1 ++ l2 /\ DO h s l1 /\ LiesL h ss l2
end
mutual
theorem Sits.lies {bd : Nat} (hbd : bd <= reachBytes) {m : Mem} {h : H} (r : ∀ b,m.get b = h.get b) : ∀ (s : Sh) (l : List AV),Sits bd m s l -> DO h s l
 | .int _,_,hl=>by simpa only [Sits,DO] using hl
 | .bool,_,hl=>by simpa only [Sits,DO] using hl
 | .str,_,hl=>by
  simp only [Sits] at hl
  simp only [DO]
  obtain ⟨s,h1,h2⟩:=hl
  exact ⟨s,h1,Nat.le_trans h2 hbd⟩
 | .sl s,l,hl=>by
  simp only [Sits] at hl
  simp only [DO]
  rcases hl with hl | ⟨b,ei,css,h1,h2,h3,h4⟩
  ·exact .inl hl
  ·exact .inr ⟨b,ei,css,h1,by rw [<- r]; exact h2,Nat.le_trans h3 hbd,fun c hc=>Sits.lies hbd r s c (h4 c hc)⟩
 | .st ss,l,hl=>by
  simp only [Sits] at hl
  simp only [DO]
  exact SitsL.lies hbd r ss l hl
theorem SitsL.lies {bd : Nat} (hbd : bd <= reachBytes) {m : Mem} {h : H} (r : ∀ b,m.get b = h.get b) : ∀ (ss : List Sh) (l : List AV),SitsL bd m ss l -> LiesL h ss l
 | [],_,hl=>by simpa only [SitsL,LiesL] using hl
 | s :: ss,l,hl=>by
  simp only [SitsL] at hl
  simp only [LiesL]
  obtain ⟨l1,l2,h1,h2,h3⟩:=hl
  exact ⟨l1,l2,h1,Sits.lies hbd r s l1 h2,SitsL.lies hbd r ss l2 h3⟩
end
def TF (h : H) : List Sh -> List (List AV) -> Prop
 | [],[]=>True
 | s :: ss,l :: ls=>DO h s l /\ TF h ss ls
 | _,_=>False
theorem SitsA.lies {bd : Nat} (hbd : bd <= reachBytes) {m : Mem} {h : H} (r : ∀ b,m.get b = h.get b) : ∀ (ss : List Sh) (ls : List (List AV)),SitsA bd m ss ls -> TF h ss ls
 | [],[],hl=>hl
 | [],_ :: _,hl=>hl
 | _ :: _,[],hl=>hl
 | s :: ss,l :: ls,hl=>⟨Sits.lies hbd r s l hl.1,SitsA.lies hbd r ss ls hl.2⟩
def Short (bd : Nat) (ls : List (List AV)) : Prop:=∀ l ∈ ls,∀ b o n c,AV.sl b o n c ∈ l -> n <= bd
mutual
theorem Sits.short {bd : Nat} {m : Mem} : ∀ (s : Sh) (l : List AV),Sits bd m s l -> ∀ b o n c,AV.sl b o n c ∈ l -> n <= bd
 | .int _,l,hl,b,o,n,c,h=>by simp only [Sits] at hl; obtain ⟨_,rfl,_⟩:=hl; simp at h
 | .bool,l,hl,b,o,n,c,h=>by simp only [Sits] at hl; obtain ⟨_,rfl⟩:=hl; simp at h
 | .str,l,hl,b,o,n,c,h=>by simp only [Sits] at hl; obtain ⟨_,rfl,_⟩:=hl; simp at h
 | .sl s,l,hl,b,o,n,c,h=>by
  simp only [Sits] at hl
  rcases hl with rfl | ⟨b',ei,css,rfl,_,h3,_⟩
  ·simp at h
  ·simp only [List.mem_singleton] at h; injection h with _ _ h; subst h; exact h3
 | .st ss,l,hl,b,o,n,c,h=>by
  simp only [Sits] at hl
  exact SitsL.short ss l hl b o n c h
theorem SitsL.short {bd : Nat} {m : Mem} : ∀ (ss : List Sh) (l : List AV),SitsL bd m ss l -> ∀ b o n c,AV.sl b o n c ∈ l -> n <= bd
 | [],l,hl,b,o,n,c,h=>by simp only [SitsL] at hl; subst hl; simp at h
 | s :: ss,l,hl,b,o,n,c,h=>by
  simp only [SitsL] at hl
  obtain ⟨l1,l2,rfl,h2,h3⟩:=hl
  rcases List.mem_append.1 h with h | h
  ·exact Sits.short s l1 h2 b o n c h
  ·exact SitsL.short ss l2 h3 b o n c h
end
theorem SitsA.short {bd : Nat} {m : Mem} : ∀ (ss : List Sh) (ls : List (List AV)),SitsA bd m ss ls -> Short bd ls
 | [],[],hl=>fun l hl=>by cases hl
 | [],_ :: _,hl=>hl.elim
 | _ :: _,[],hl=>hl.elim
 | s :: ss,l :: ls,hl=>fun l' hl'=>by
  rcases List.mem_cons.1 hl' with rfl | h
  ·exact Sits.short s _ hl.1
  ·exact SitsA.short ss ls hl.2 l' h
def yes : AV -> H -> Prop:=fun v _=>v = .bool true
def NK (c c' : HJ) : Prop:=∀ f a m r,c f a m = some r -> c' f a m = some r
section
variable {call call' : BN} {callP callP' : HJ}
theorem K0 (h : JO call call') (hp : NK callP callP') (hx : UQ call' callP') {b : Nat} : ∀ (l : List Step) (s : St) (r : Nat × Mem),DC call callP b l s = some r -> DC call' callP' b l s = some r
 | [],s,r,he=>by simp [DC] at he
 | i :: l,s,r,he=>by
  simp only [DC] at he ⊢
  split at he
  ·rename_i hw
   rw [if_pos hw]
   split at he
   ·rename_i v m' hv
    rw [NH h hv]
    simp only
    split at he
    ·rename_i hc
     rw [if_pos hc]
     exact K0 h hp hx l _ _ he
    ·cases he
   ·split at he
    ·rename_i f args hop
     split at he
     ·rename_i m2 hc
      have hc':=hp _ _ _ _ hc
      have hn : A1 call' b s.tm s.m i.op = none:=by
       rw [hop]
       show call' f (args.map (·.eval s.tm)) s.m = none
       exact hx _ _ _ _ hc'
      rw [hn]
      simp only [hc']
      exact he
     ·cases he
    ·cases he
  ·rename_i hw
   rw [if_neg hw]
   exact K0 h hp hx l _ _ he
theorem L6 {f g : St -> Option (Ex × St)} {fp gp : St -> Option Mem} (h : ∀ s r,f s = some r -> g s = some r) (hp : ∀ s r,fp s = some r -> gp s = some r) (hx : ∀ s r,gp s = some r -> g s = none) : ∀ {k k' : Nat} {s : St} {r : Mem},k <= k' -> DI f fp k s = some r -> DI g gp k' s = some r
 | 0,_,_,_,_,he=>by simp [DI] at he
 | k + 1,0,_,_,hk,_=>by omega
 | k + 1,k' + 1,s,r,hk,he=>by
  simp only [DI] at he ⊢
  split at he
  ·rename_i s1 h1
   rw [h _ _ h1]
   exact L6 h hp hx (by omega) he
  ·cases he
  ·have:=hp _ _ he
   rw [hx _ _ this]
   exact this
theorem HE (h : JO call call') (hp : NK callP callP') (hx : UQ call' callP') {k k' : Nat} (hk : k <= k') : ∀ {c : D1} {s : St} {r : Mem},CB call callP k c s = some r -> CB call' callP' k' c s = some r
 | .skip,_,_,he=>by simp [CB] at he
 | .exit _,_,_,he=>by simp [CB] at he
 | .ret,_,_,he=>by simp [CB] at he
 | .reg n _ _ ops,s,r,he=>by
  simp only [CB] at he ⊢
  split at he
  ·rename_i l m' hs
   rw [K0 h hp hx _ _ _ hs]
   exact he
  ·cases he
 | .seq a b,s,r,he=>by
  simp only [CB] at he ⊢
  split at he
  ·rename_i s1 h1
   rw [HP h hk h1]
   exact HE h hp hx hk he
  ·cases he
  ·have:=HE h hp hx hk he
   rw [GH _ _ _ this]
   exact this
 | .cond x a b,s,r,he=>by
  simp only [CB] at he ⊢
  split at he
  ·exact HE h hp hx hk he
  ·exact HE h hp hx hk he
  ·cases he
 | .block id b,s,r,he=>by
  simp only [CB] at he ⊢
  exact HE h hp hx hk he
 | .loop b,s,r,he=>by
  simp only [CB] at he ⊢
  exact L6 (fun s r h'=>HP h hk h') (fun s r h'=>HE h hp hx hk h') (fun s r h'=>GH _ _ _ h') hk he
theorem a6 (h : JO call call') {k k' : Nat} (hk : k <= k') {fn : AN} {args : List AV} {m : Mem} {r : AV × Mem} (he : GY call k fn args m = some r) : GY call' k' fn args m = some r:=by
 unfold GY at he ⊢
 cases hc : evC call k fn.body (HC fn args m) with
 | none=>simp [hc] at he
 | some x=>rw [HP h hk hc]; rw [hc] at he; exact he
theorem WM (h : JO call call') (hp : NK callP callP') (hx : UQ call' callP') {ty : Nat} {args : List AV} {m : Mem} {r : AV × Mem} (he : FF call callP ty args m = some r) : FF call' callP' ty args m = some r:=by
 unfold FF at he ⊢
 split at he
 ·split at he
  ·rename_i b m1 hn
   split at he
   ·rename_i v m2 hc
    rw [h _ _ _ _ hc]
    exact he
   ·split at he
    ·rename_i m2 hc
     have:=hp _ _ _ _ hc
     rw [hx _ _ _ _ this]
     simp only [this]
     exact he
    ·cases he
  ·cases he
 ·cases he
end
theorem EE (S : Sp) (tab : Nat -> Option AN) : ∀ {k k' : Nat},k <= k' -> JO (BP S tab k).1 (BP S tab k').1 /\ NK (BP S tab k).2 (BP S tab k').2
 | 0,_,_=>⟨fun f a m r h=>by simp [BP] at h,fun f a m r h=>by simp [BP] at h⟩
 | k + 1,0,hk=>by omega
 | k + 1,k' + 1,hk=>by
  obtain ⟨i1,i2⟩:=EE S tab (k:=k) (k':=k') (by omega)
  have ix:=FG S tab k'
  refine ⟨fun f a m r h=>?_,fun f a m r h=>?_⟩
  ·simp only [BP] at h ⊢
   by_cases h1 : f = S.must
   ·rw [if_pos h1] at h ⊢; exact h
   rw [if_neg h1] at h ⊢
   by_cases h2 : f = S.hold
   ·rw [if_pos h2] at h ⊢; exact WM i1 i2 ix h
   rw [if_neg h2] at h ⊢
   by_cases h3 : S.knows f = true
   ·rw [if_pos h3] at h ⊢; exact h
   rw [if_neg h3] at h ⊢
   cases hf : tab f with
   | none=>simp [hf] at h
   | some fn=>
    simp only [hf] at h ⊢
    exact a6 i1 (by omega) h
  ·simp only [BP] at h ⊢
   by_cases h1 : f = S.must
   ·rw [if_pos h1] at h ⊢; exact h
   rw [if_neg h1] at h ⊢
   by_cases h2 : f = S.hold
   ·rw [if_pos h2] at h; cases h
   rw [if_neg h2] at h ⊢
   by_cases h3 : S.knows f = true
   ·rw [if_pos h3] at h; cases h
   rw [if_neg h3] at h ⊢
   cases hf : tab f with
   | none=>simp [hf] at h
   | some fn=>
    simp only [hf] at h ⊢
    exact HE i1 i2 ix (by omega) h
def cD (o : Option Mem) (m : Mem) (K : H -> Prop) : Prop:=∃ m' h',o = some m' /\ Rep m' h' /\ Keep EG m m' /\ K h'
def AU : H -> Prop:=fun _=>False
def callB (S : Sp) (tab : Nat -> Option AN) (PK : H -> Prop) : AK:=fun f a h K=>∀ m,Rep m h -> ∃ k,CS ((BP S tab k).1 f a m) EG m K \/ cD ((BP S tab k).2 f a m) m PK
section
variable {S : Sp} {tab : Nat -> Option AN} {PK : H -> Prop}
theorem callB.mono {PK' : H -> Prop} {f : Nat} {a : List AV} {h : H} {K K' : AV -> H -> Prop} (hc : callB S tab PK f a h K) (hk : ∀ v h',K v h' -> K' v h') (hp : ∀ h',PK h' -> PK' h') : callB S tab PK' f a h K':=fun m r=>by
 obtain ⟨k,⟨v,m',h',h1,h2,h3,h4⟩ | ⟨m',h',h1,h2,h3,h4⟩⟩:=hc m r
 ·exact ⟨k,.inl ⟨v,m',h',h1,h2,h3,hk _ _ h4⟩⟩
 ·exact ⟨k,.inr ⟨m',h',h1,h2,h3,hp _ h4⟩⟩
theorem callB.quiet {f : Nat} {a : List AV} {h : H} {K : AV -> H -> Prop} (hc : callB S tab AU f a h K) : callB S tab PK f a h K:=hc.mono (fun _ _ x=>x) (fun _ x=>x.elim)
theorem BR {f : Nat} {a : List AV} {h h' : H} {v : AV} (hc : callB S tab AU f a h fun v' h''=>v' = v /\ h'' = h') (K : AV -> H -> Prop) : callB S tab PK f a h K = K v h':=by
 apply propext
 constructor
 ·intro hk
  obtain ⟨m,r⟩:=TK h
  obtain ⟨k,⟨v1,m1,h1,e1,r1,_,rfl,rfl⟩ | ⟨_,_,_,_,_,x⟩⟩:=hc m r
  ·obtain ⟨k2,⟨v2,m2,h2,e2,r2,_,hk⟩ | ⟨m2,h2,e2,_⟩⟩:=hk m r
   ·have g1:=(EE S tab (Nat.le_max_left k k2)).1 _ _ _ _ e1
    have g2:=(EE S tab (Nat.le_max_right k k2)).1 _ _ _ _ e2
    rw [g1] at g2
    injection g2 with g2
    injection g2 with g2 g3
    subst g2; subst g3
    have : h1 = h2:=H.ext' fun b=>by rw [<- r1.eq,r2.eq]
    rw [this]; exact hk
   ·have g1:=(EE S tab (Nat.le_max_left k k2)).1 _ _ _ _ e1
    have g2:=(EE S tab (Nat.le_max_right k k2)).2 _ _ _ _ e2
    rw [FG S tab _ _ _ _ _ g2] at g1
    cases g1
  ·exact x.elim
 ·intro hk
  exact hc.mono (fun v' h'' ⟨e1,e2⟩=>by rw [e1,e2]; exact hk) (fun _ x=>x.elim)
theorem UH {b : Bool} {h : H} {K : AV -> H -> Prop} (hp : if b = true then K (.tup []) h else PK h) : callB S tab PK S.must [.bool b] h K:=fun m r=>by
 cases b with
 | true=>exact ⟨1,.inl ⟨_,m,h,by simp [BP,OJ],r,Keep.refl _ _,hp⟩⟩
 | false=>exact ⟨1,.inr ⟨m,h,by simp [BP,JV],r,Keep.refl _ _,hp⟩⟩
theorem JM {f : Nat} (h1 : f ≠ S.must) (h2 : f ≠ S.hold) (h3 : S.knows f = true) {a : List AV} {h : H} {K : AV -> H -> Prop} (hp : ∀ m,Rep m h -> CS (FL S f a m) EG m K) : callB S tab PK f a h K:=fun m r=>by
 refine ⟨1,.inl ?_⟩
 simp only [BP,if_neg h1,if_neg h2,if_pos h3]
 exact hp m r
theorem S6 {f : Nat} (h1 : f ≠ S.must) (h2 : f ≠ S.hold) (h0 : S.isLive f = false) (h3 : S.isSort f = true) {h : H} (K : AV -> H -> Prop) : callB S tab PK f [.nilsl] h K = K (.tup []) h:=
 BR (JM h1 h2 (by unfold Sp.knows; rw [h3,h0]; rfl) fun m r=>by
  unfold FL
  rw [h0]
  exact ⟨_,m,h,rfl,r,Keep.refl _ _,rfl,rfl⟩) K
theorem UG {f : Nat} (h1 : f ≠ S.must) (h2 : f ≠ S.hold) (h0 : S.isLive f = false) (h3 : S.isSort f = true) {h h' : H} {b off len : Nat} {c : Cap} {cs : List AV} {zs : List Int} (hl0 : len ≠ 0) (hl : len < 4611686018427387904) (hr : h.read b off len = some cs) (hz : JC cs = some zs)
  (hw : h.write b off ((CG zs).map fun n=>.int .i64 n) = some h') (K : AV -> H -> Prop) : callB S tab PK f [.sl b off len c] h K = K (.tup []) h':=
 BR (JM h1 h2 (by unfold Sp.knows; rw [h3,h0]; rfl) fun m r=>by
  unfold FL
  rw [h0]
  obtain ⟨m',w1,w2,w3⟩:=r.write hw
  refine ⟨_,m',h',?_,w2,w3 _,rfl,rfl⟩
  simp only [cond_false,KN,if_neg hl0,if_pos hl,r.read,hr,hz,w1]) K
theorem UI (hne : S.hold ≠ S.must) {g : Nat} {first cap : List AV} {h : H} {K : AV -> H -> Prop}
  (hp : ∀ b,h.get b = none -> callB S tab (fun h2=>AM (h2.write b 0 [.bool false]) (.bool false) K) g (first ++ cap) (h.set b (.live [.bool false] S.okTy true)) fun _ h2=>AM (h2.write b 0 [.bool true]) (.bool true) K) : callB S tab PK S.hold [.fn g first cap] h K:=fun m r=>by
 have hfree : h.get m.next = none:=by rw [<- r.eq]; exact r.ok _ (Nat.le_refl _)
 have hnew : m.new none [.bool false] S.okTy = some (m.next,⟨m.next + 1,m.t.set m.next (.live [.bool false] S.okTy true)⟩):=by
  unfold Mem.new
  rw [if_pos (by rfl)]
 obtain ⟨k,⟨v,m2,h2,e2,r2,kp2,q2⟩ | ⟨m2,h2,e2,r2,kp2,q2⟩⟩:=hp m.next hfree _ (U5 r _)
 ·refine ⟨k + 1,.inl ?_⟩
  simp only [BP,if_neg hne,if_true,FF,hnew,e2]
  have q2':=q2
  unfold AM at q2
  split at q2
  ·rename_i h3 hw
   obtain ⟨m3,w1,w2,w3⟩:=r2.write hw
   exact ⟨_,m3,h3,by rw [w1],w2,((N8 (S:=EG) _).trans kp2).trans (w3 _),q2⟩
  ·exact q2.elim
 ·refine ⟨k + 1,.inl ?_⟩
  have hn:=FG S tab k _ _ _ _ e2
  simp only [BP,if_neg hne,if_true,FF,hnew,hn,e2]
  unfold AM at q2
  split at q2
  ·rename_i h3 hw
   obtain ⟨m3,w1,w2,w3⟩:=r2.write hw
   exact ⟨_,m3,h3,by rw [w1],w2,((N8 (S:=EG) _).trans kp2).trans (w3 _),q2⟩
  ·exact q2.elim
end
def N6 (pi : List Nat) (anc : List (List Nat)) (n : Nat) : List Step -> Bool
 | []=>true
 | i :: r=>(match i.op with | .call ..=>QR pi anc n r.length | .callv ..=>false | _=>true) && N6 pi anc n r
def E4 : ACode -> Bool
 | .reg _ pi an ops=>N6 pi an ops.length ops
 | .seq a b=>E4 a && E4 b
 | .cond _ a b=>E4 a && E4 b
 | .block _ c=>E4 c
 | .loop _ _ c=>E4 c
 | _=>true
def isV : IOp -> Bool
 | .callv ..=>true
 | _=>false
section
variable {S : Sp} {tab : Nat -> Option AN} {PK : H -> Prop}
theorem bA {m : Mem} {h : H} {K : AV -> H -> Prop} {Sl : Nat -> Prop} (r : Rep m h) {tm : List AV} {base : Nat} {op : IOp} (k : opA (callB S tab PK) (Opd.eval tm) h op K)
  (hs : ∀ j,op.slot = some j -> m.get (base + j) = none /\ base + j < m.next /\ Sl (base + j)) (hq : (∀ h,¬ PK h) \/ isV op = false) :
  (∃ k,CS (A1 (BP S tab k).1 base tm m op) Sl m K) \/ ∃ k f args,op = .call f args /\ cD ((BP S tab k).2 f (args.map (·.eval tm)) m) m PK:=by
 have wk : ∀ {o},CS o EG m K -> CS o Sl m K:=fun ⟨v,m',h',h1,h2,h3,h4⟩=>⟨v,m',h',h1,h2,h3.weaken fun _ x=>x.elim,h4⟩
 have non : opA noA (Opd.eval tm) h op K -> (∃ k,CS (A1 (BP S tab k).1 base tm m op) Sl m K) \/ ∃ k f args,op = .call f args /\ cD ((BP S tab k).2 f (args.map (·.eval tm)) m) m PK:=fun k=>
  .inl (QZ (C:=noA) (cf:=fun k=>(BP S tab k).1) (fun f a h K m hf=>hf.elim) r k hs)
 cases op
 case call f args=>
  obtain ⟨j,h1 | h1⟩:=(show callB S tab PK f (args.map (Opd.eval tm)) h K from k) m r
  ·exact .inl ⟨j,wk h1⟩
  ·exact .inr ⟨j,f,args,rfl,h1⟩
 case callv x args=>
  rcases hq with hq | hq
  ·have k : CQ (callB S tab PK) (x.eval tm) (args.map (·.eval tm)) h K:=k
   unfold CQ at k
   split at k
   ·rename_i f a c hx
    obtain ⟨j,h1 | ⟨_,h',_,_,_,h2⟩⟩:=k m r
    ·refine .inl ⟨j,?_⟩
     show CS (match x.eval tm with | .fn f first cap=>(BP S tab j).1 f (first ++ args.map (·.eval tm) ++ cap) m | _=>none) Sl m K
     rw [hx]
     exact wk h1
    ·exact absurd h2 (hq h')
   ·exact k.elim
  ·cases hq
 case ld n x=>cases n <;> exact non k
 case cv s c x=>cases c <;> exact non k
 case ia a e x i=>cases a <;> exact non k
 case ix a x i=>rcases a with _ | ⟨_,_,_⟩ <;> exact non k
 case len s x=>cases s <;> exact non k
 all_goals exact non k
def RegB (S : Sp) (tab : Nat -> Option AN) (PK : H -> Prop) (n base : Nat) (pi : List Nat) (anc : List (List Nat)) (N : Nat) (full l : List Step) (e0 : Env) (L : Nat) (tm : List AV) (m m0 : Mem) (Q : Env -> H -> Prop) : Prop:=
 (∃ k s e' h',A9 (BP S tab k).1 base l ⟨tm,m⟩ = some s /\ s.tm.length = n /\ agree L s.tm e' /\ Rep s.m h' /\ Keep (fun b=>∃ j ∈ CD full,b = base + j) m0 s.m /\ (∀ k,(P6 full).testBit k = false -> e' k = e0 k) /\ Q e' h') \/
 ∃ k q m' h',DC (BP S tab k).1 (BP S tab k).2 base l ⟨tm,m⟩ = some (q,m') /\ QR pi anc N q = true /\ Rep m' h' /\ Keep (fun b=>∃ j ∈ CD full,b = base + j) m0 m' /\ PK h'
theorem KS {n base : Nat} {pi : List Nat} {anc : List (List Nat)} {N : Nat} : ∀ (l : List Step) (e : Env) (h : H) (Q : Env -> H -> Prop) (tm : List AV) (m : Mem) (L : Nat),(K9 n l L).2 = true -> P3 (CD l) = true -> Q8 l = true -> tm.length = n -> agree (K9 n l L).1 tm e -> Rep m h ->
  (∀ k ∈ CD l,m.get (base + k) = none /\ base + k < m.next) -> ((∀ h,¬ PK h) \/ N6 pi anc N l = true) -> KA (callB S tab PK) l e h Q -> RegB S tab PK n base pi anc N l l e L tm m m Q
 | [],e,h,Q,tm,m,L,_,_,_,hn,ha,r,_,_,hp=>.inl ⟨0,⟨tm,m⟩,e,h,rfl,hn,ha,r,Keep.refl _ m,fun _ _=>rfl,hp⟩
 | i :: l,e,h,Q,tm,m,L,hok,hap,hch,hn,ha,r,hs,hq,hp=>by
  simp only [K9,Bool.and_eq_true] at hok ha
  simp only [Q8,Bool.and_eq_true] at hch
  have hbits : ∀ A B C D k : Nat,(A ||| (B ||| (C ||| D))).testBit k = (A.testBit k || (B.testBit k || (C.testBit k || D.testBit k))):=fun A B C D k=>by simp only [Nat.testBit_or]
  have hb1 : ∀ k,(J5 i.op.uses).testBit k = true -> (MW i.guard ||| (J5 i.op.uses ||| (NY i.chk ||| G2 (K9 n l L).1 i.dst))).testBit k = true:=fun k hk=>by rw [hbits,hk]; simp
  have hb2 : ∀ k,(NY i.chk).testBit k = true -> (MW i.guard ||| (J5 i.op.uses ||| (NY i.chk ||| G2 (K9 n l L).1 i.dst))).testBit k = true:=fun k hk=>by rw [hbits,hk]; simp
  have hb3 : ∀ k,(G2 (K9 n l L).1 i.dst).testBit k = true -> (MW i.guard ||| (J5 i.op.uses ||| (NY i.chk ||| G2 (K9 n l L).1 i.dst))).testBit k = true:=fun k hk=>by rw [hbits,hk]; simp
  have hapl : P3 (CD l) = true:=by
   simp only [CD] at hap
   split at hap
   ·simp only [P3,Bool.and_eq_true] at hap; exact hap.2
   ·exact hap
  have hsub : ∀ k ∈ CD l,k ∈ CD (i :: l):=fun k hk=>by
   simp only [CD]; split
   ·exact List.mem_cons_of_mem _ hk
   ·exact hk
  have hql : (∀ h,¬ PK h) \/ N6 pi anc N l = true:=by
   rcases hq with hq | hq
   ·exact .inl hq
   ·simp only [N6,Bool.and_eq_true] at hq; exact .inr hq.2
  have rest : ∀ (v : AV) (h' : H) (m' : Mem),Rep m' h' -> Keep (fun b=>∃ j ∈ CD (i :: l),b = base + j) m m' -> (∀ k ∈ CD l,m'.get (base + k) = none) ->
    JX e h' i.chk (KA (callB S tab PK) l (QH e i.dst v) h' Q) -> i.chk.all (D6 base tm m') = true /\ RegB S tab PK n base pi anc N (i :: l) l e L (put tm i.dst v) m' m Q:=by
   intro v h' m' r' kp hfree hp
   obtain ⟨h1,h2⟩:=VS (base:=base) r' ha i.chk hb2 hch.1 hp
   refine ⟨h1,?_⟩
   rcases KS (n:=n) (base:=base) l (QH e i.dst v) h' Q (put tm i.dst v) m' L hok.1 hapl hch.2 (by rw [TM,hn]) (WW hn hok.2 (ha.mono hb3)) r'
    (fun k hk=>⟨hfree k hk,Nat.lt_of_lt_of_le (hs k (hsub k hk)).2 kp.next⟩) hql h2 with ⟨k,s,e',h'',g1,g2,g3,g4,g5,g7,g6⟩ | ⟨k,q,m2,h'',g1,g2,g3,g4,g5⟩
   ·exact .inl ⟨k,s,e',h'',g1,g2,g3,g4,kp.trans (g5.weaken fun b ⟨j,hj,hb⟩=>⟨j,hsub j hj,hb⟩),fun k hk=>by
     simp only [P6,Nat.testBit_or,Bool.or_eq_false_iff] at hk
     rw [g7 k hk.2,TN hk.1],g6⟩
   ·exact .inr ⟨k,q,m2,h'',g1,g2,g3,kp.trans (g4.weaken fun b ⟨j,hj,hb⟩=>⟨j,hsub j hj,hb⟩),g5⟩
  have skip : JX e h i.chk (KA (callB S tab PK) l (QH e i.dst .undef) h Q) -> CA tm i.guard = false -> RegB S tab PK n base pi anc N (i :: l) (i :: l) e L tm m m Q:=by
   intro hp hw
   rcases (rest .undef h m r (Keep.refl _ m) (fun k hk=>(hs k (hsub k hk)).1) hp).2 with ⟨k,s,e',h'',g1,g2⟩ | ⟨k,q,m2,h'',g1,g2⟩
   ·exact .inl ⟨k,s,e',h'',by simp only [A9,hw,Bool.false_eq_true,if_false]; exact g1,g2⟩
   ·exact .inr ⟨k,q,m2,h'',by simp only [DC,hw,Bool.false_eq_true,if_false]; exact g1,g2⟩
  have go : opA (callB S tab PK) (ev e) h i.op (fun v h'=>JX e h' i.chk (KA (callB S tab PK) l (QH e i.dst v) h' Q)) -> CA tm i.guard = true -> RegB S tab PK n base pi anc N (i :: l) (i :: l) e L tm m m Q:=by
   intro hp hw
   rw [<- PM (ST ha _ hb1)] at hp
   rcases bA (Sl:=fun b=>∃ j,i.op.slot = some j /\ b = base + j) r hp (base:=base) (fun j hj=>by
    have hj' : j ∈ CD (i :: l):=by simp only [CD,hj]; exact List.mem_cons_self ..
    exact ⟨(hs j hj').1,(hs j hj').2,j,hj,rfl⟩) (by
     rcases hq with hq | hq
     ·exact .inl hq
     ·simp only [N6,Bool.and_eq_true] at hq
      refine .inr ?_
      cases hop : i.op <;> first | rfl | (rw [hop] at hq; cases hq.1)) with ⟨k1,v,m',h',h1,h2,h3,h4⟩ | ⟨k1,f,args,hop,m',h',h1,h2,h3,h4⟩
   ·have kp : Keep (fun b=>∃ j ∈ CD (i :: l),b = base + j) m m':=h3.weaken fun b ⟨j,hj,hb⟩=>⟨j,by simp only [CD,hj]; exact List.mem_cons_self ..,hb⟩
    have hfree : ∀ k ∈ CD l,m'.get (base + k) = none:=fun k hk=>by
     refine h3.free _ (hs k (hsub k hk)).2 ?_ (hs k (hsub k hk)).1
     rintro ⟨j,hj,hb⟩
     have hkj : k = j:=by omega
     subst hkj
     simp only [CD,hj,P3,Bool.and_eq_true,Bool.not_eq_true'] at hap
     rw [(SJ k _).2 hk] at hap
     cases hap.1
    obtain ⟨hc,hr⟩:=rest v h' m' h2 kp hfree h4
    rcases hr with ⟨k2,s,e',h'',g1,g2⟩ | ⟨k2,q,m2,h'',g1,g2⟩
    ·refine .inl ⟨max k1 k2,s,e',h'',?_,g2⟩
     simp only [A9,hw,if_true,NH (EE S tab (Nat.le_max_left k1 k2)).1 h1,if_pos hc]
     exact IR (EE S tab (Nat.le_max_right k1 k2)).1 g1
    ·refine .inr ⟨max k1 k2,q,m2,h'',?_,g2⟩
     simp only [DC,hw,if_true,NH (EE S tab (Nat.le_max_left k1 k2)).1 h1,if_pos hc]
     have:=EE S tab (Nat.le_max_right k1 k2)
     exact K0 this.1 this.2 (FG S tab _) _ _ _ g1
   ·refine .inr ⟨k1,l.length,m',h',?_,?_,h2,h3.weaken fun _ x=>x.elim,h4⟩
    ·have hn : A1 (BP S tab k1).1 base tm m (.call f args) = none:=FG S tab k1 _ _ _ _ h1
     simp only [DC,hw,if_true,hop,hn,h1]
    ·rcases hq with hq | hq
     ·exact absurd h4 (hq h')
     ·simp only [N6,hop,Bool.and_eq_true] at hq
      exact hq.1
  simp only [KA] at hp
  cases hg : i.guard with
  | none=>
   rw [hg] at hp
   exact go hp (by rw [hg]; rfl)
  | some x=>
   obtain ⟨t,b⟩:=x
   rw [hg] at hp
   simp only [wantA,AH] at hp
   have ht : tm.getD t .undef = e t:=ha t (by rw [hbits,hg]; simp [MW,FN])
   have hw : CA tm i.guard = match e t with | .bool c=>c == b | _=>false:=by rw [hg]; simp only [CA,ht]; rfl
   cases he : e t <;> rw [he] at hp hw
   case bool y=>
    simp only at hp hw
    by_cases hy : y = b
    ·rw [if_pos hy] at hp
     exact go hp (by rw [hw,hy]; simp)
    ·rw [if_neg hy] at hp
     exact skip hp (by rw [hw]; simpa using hy)
   all_goals exact skip hp hw
def CodeB (S : Sp) (tab : Nat -> Option AN) (PK : H -> Prop) (n : Nat) (c : ACode) (e0 : Env) (Lx : Nat -> Nat) (Ln Lr : Nat) (tm : List AV) (m : Mem) (Q : Ex -> Env -> H -> Prop) : Prop:=
 (∃ k x s e' h',evC (BP S tab k).1 k c.erase ⟨tm,m⟩ = some (x,s) /\ s.tm.length = n /\ agree (atEx Lx Ln Lr x) s.tm e' /\ Rep s.m h' /\ Keep EG m s.m /\ (∀ k,(E2 c).testBit k = false -> e' k = e0 k) /\ Q x e' h') \/
 ∃ k m' h',CB (BP S tab k).1 (BP S tab k).2 k c.erase ⟨tm,m⟩ = some m' /\ Rep m' h' /\ Keep EG m m' /\ PK h'
theorem IS {k k' : Nat} (hk : k <= k') {c : D1} {s : St} {r : Ex × St} (h : evC (BP S tab k).1 k c s = some r) : evC (BP S tab k').1 k' c s = some r:=HP (EE S tab hk).1 hk h
theorem QX {k k' : Nat} (hk : k <= k') {c : D1} {s : St} {r : Mem} (h : CB (BP S tab k).1 (BP S tab k).2 k c s = some r) : CB (BP S tab k').1 (BP S tab k').2 k' c s = some r:=HE (EE S tab hk).1 (EE S tab hk).2 (FG S tab _) hk h
theorem MI {k : Nat} {c : D1} {s : St} {r : Mem} (h : CB (BP S tab k).1 (BP S tab k).2 k c s = some r) : evC (BP S tab k).1 k c s = none:=GH _ _ _ h
theorem E9 {n : Nat} : ∀ (c : ACode) (e : Env) (h : H) (Q : Ex -> Env -> H -> Prop) (tm : List AV) (m : Mem) (Lx : Nat -> Nat) (Ln Lr : Nat),(H5 n c Lx Ln Lr).2 = true -> GN c = true -> tm.length = n -> agree (H5 n c Lx Ln Lr).1 tm e -> Rep m h -> ((∀ h,¬ PK h) \/ E4 c = true) -> wpA (callB S tab PK) c e h Q ->
  CodeB S tab PK n c e Lx Ln Lr tm m Q
 | .skip,e,h,Q,tm,m,Lx,Ln,Lr,_,_,hn,ha,r,_,hp=>.inl ⟨0,.norm,⟨tm,m⟩,e,h,rfl,hn,ha,r,Keep.refl _ m,fun _ _=>rfl,hp⟩
 | .exit i,e,h,Q,tm,m,Lx,Ln,Lr,_,_,hn,ha,r,_,hp=>.inl ⟨0,.exit i,⟨tm,m⟩,e,h,rfl,hn,ha,r,Keep.refl _ m,fun _ _=>rfl,hp⟩
 | .ret,e,h,Q,tm,m,Lx,Ln,Lr,_,_,hn,ha,r,_,hp=>.inl ⟨0,.ret,⟨tm,m⟩,e,h,rfl,hn,ha,r,Keep.refl _ m,fun _ _=>rfl,hp⟩
 | .reg k pi an ops,e,h,Q,tm,m,Lx,Ln,Lr,hok,hsl,hn,ha,r,hq,hp=>by
  simp only [GN,Bool.and_eq_true] at hsl
  have rb : Rep ⟨m.next + k,m.t⟩ h:=⟨fun b hb=>r.ok b (by have : m.next + k <= b:=hb; omega),r.eq⟩
  rcases KS (n:=n) (base:=m.next) (pi:=pi) (anc:=an) (N:=ops.length) ops e h (Q .norm) tm ⟨m.next + k,m.t⟩ Ln hok hsl.1.2 hsl.2 hn ha rb
   (fun i hi=>⟨r.ok _ (Nat.le_add_right _ _),by have:=P4 k _ hsl.1.1 i hi; show m.next + i < m.next + k; omega⟩) hq hp with ⟨j,s,e',h',h1,h2,h3,h4,h5,h7,h6⟩ | ⟨j,q,m',h',h1,h2,h3,h5,h6⟩
  ·refine .inl ⟨j,.norm,s,e',h',by simp only [ACode.erase,evC,h1],h2,h3,h4,?_,h7,h6⟩
   exact ⟨Nat.le_trans (Nat.le_add_right _ _) h5.next,fun b hb _ he=>h5.free b (by show b < m.next + k; omega) (by rintro ⟨i,_,rfl⟩; omega) he⟩
  ·refine .inr ⟨j,m',h',by simp only [ACode.erase,CB,h1,h2,if_true],h3,?_,h6⟩
   exact ⟨Nat.le_trans (Nat.le_add_right _ _) h5.next,fun b hb _ he=>h5.free b (by show b < m.next + k; omega) (by rintro ⟨i,_,rfl⟩; omega) he⟩
 | .seq a b,e,h,Q,tm,m,Lx,Ln,Lr,hok,hsl,hn,ha,r,hq,hp=>by
  simp only [GN,Bool.and_eq_true] at hsl
  simp only [H5,Bool.and_eq_true] at hok ha
  have hqa : (∀ h,¬ PK h) \/ E4 a = true:=hq.imp_right fun h=>by simp only [E4,Bool.and_eq_true] at h; exact h.1
  have hqb : (∀ h,¬ PK h) \/ E4 b = true:=hq.imp_right fun h=>by simp only [E4,Bool.and_eq_true] at h; exact h.2
  have hw : ∀ k,(E2 (.seq a b)).testBit k = false -> (E2 a).testBit k = false /\ (E2 b).testBit k = false:=fun k hk=>by
   simp only [E2,Nat.testBit_or,Bool.or_eq_false_iff] at hk
   exact hk
  rcases E9 a e h _ tm m Lx _ Lr hok.2 hsl.1 hn ha r hqa hp with ⟨k,x,s,e',h',h1,h2,h3,h4,h5,h7,h6⟩ | ⟨k,m',h',h1,h2,h5,h6⟩
  ·cases x with
   | norm=>
    rcases E9 b e' h' Q s.tm s.m Lx Ln Lr hok.1 hsl.2 h2 h3 h4 hqb h6 with ⟨k',x',s',e'',h'',g1,g2,g3,g4,g5,g7,g6⟩ | ⟨k',m2,h'',g1,g2,g5,g6⟩
    ·refine .inl ⟨max k k',x',s',e'',h'',?_,g2,g3,g4,h5.trans g5,fun k hk=>by rw [g7 k (hw k hk).2,h7 k (hw k hk).1],g6⟩
     simp only [ACode.erase,evC,IS (Nat.le_max_left k k') h1]
     exact IS (Nat.le_max_right k k') g1
    ·refine .inr ⟨max k k',m2,h'',?_,g2,h5.trans g5,g6⟩
     simp only [ACode.erase,CB,IS (Nat.le_max_left k k') h1]
     exact QX (Nat.le_max_right k k') g1
   | exit i=>exact .inl ⟨k,.exit i,s,e',h',by simp only [ACode.erase,evC,h1],h2,h3,h4,h5,fun k hk=>h7 k (hw k hk).1,h6⟩
   | ret=>exact .inl ⟨k,.ret,s,e',h',by simp only [ACode.erase,evC,h1],h2,h3,h4,h5,fun k hk=>h7 k (hw k hk).1,h6⟩
  ·exact .inr ⟨k,m',h',by simp only [ACode.erase,CB,MI h1]; exact h1,h2,h5,h6⟩
 | .cond c a b,e,h,Q,tm,m,Lx,Ln,Lr,hok,hsl,hn,ha,r,hq,hp=>by
  simp only [GN,Bool.and_eq_true] at hsl
  simp only [H5,Bool.and_eq_true] at hok ha
  have hqa : (∀ h,¬ PK h) \/ E4 a = true:=hq.imp_right fun h=>by simp only [E4,Bool.and_eq_true] at h; exact h.1
  have hqb : (∀ h,¬ PK h) \/ E4 b = true:=hq.imp_right fun h=>by simp only [E4,Bool.and_eq_true] at h; exact h.2
  have hc : c.eval tm = ev e c:=by
   cases c with
   | c v=>rfl
   | t q=>exact ha q (by simp [U9,Nat.testBit_or,FN])
  simp only [wpA,AC] at hp
  split at hp
  ·rename_i y hy
   cases y with
   | true=>
    simp only [if_true] at hp
    rcases E9 a e h Q tm m Lx Ln Lr hok.1 hsl.1 hn (ha.mono fun k hk=>by simp [Nat.testBit_or,hk]) r hqa hp with ⟨k,x,s,e',h',h1,h2,h3,h4,h5,h7,h6⟩ | ⟨k,m',h',h1,h2,h5,h6⟩
    ·exact .inl ⟨k,x,s,e',h',by simp only [ACode.erase,evC,hc,hy,h1],h2,h3,h4,h5,fun k hk=>by
      simp only [E2,Nat.testBit_or,Bool.or_eq_false_iff] at hk
      exact h7 k hk.1,h6⟩
    ·exact .inr ⟨k,m',h',by simp only [ACode.erase,CB,hc,hy,h1],h2,h5,h6⟩
   | false=>
    simp only [Bool.false_eq_true,if_false] at hp
    rcases E9 b e h Q tm m Lx Ln Lr hok.2 hsl.2 hn (ha.mono fun k hk=>by simp [Nat.testBit_or,hk]) r hqb hp with ⟨k,x,s,e',h',h1,h2,h3,h4,h5,h7,h6⟩ | ⟨k,m',h',h1,h2,h5,h6⟩
    ·exact .inl ⟨k,x,s,e',h',by simp only [ACode.erase,evC,hc,hy,h1],h2,h3,h4,h5,fun k hk=>by
      simp only [E2,Nat.testBit_or,Bool.or_eq_false_iff] at hk
      exact h7 k hk.2,h6⟩
    ·exact .inr ⟨k,m',h',by simp only [ACode.erase,CB,hc,hy,h1],h2,h5,h6⟩
  ·exact hp.elim
 | .block id c,e,h,Q,tm,m,Lx,Ln,Lr,hok,hsl,hn,ha,r,hq,hp=>by
  simp only [GN] at hsl
  simp only [H5] at hok ha
  rcases E9 c e h _ tm m _ Ln Lr hok hsl hn ha r hq hp with ⟨k,x,s,e',h',h1,h2,h3,h4,h5,h7,h6⟩ | ⟨k,m',h',h1,h2,h5,h6⟩
  ·cases x with
   | norm=>exact .inl ⟨k,.norm,s,e',h',by simp only [ACode.erase,evC,h1],h2,h3,h4,h5,h7,h6⟩
   | ret=>exact .inl ⟨k,.ret,s,e',h',by simp only [ACode.erase,evC,h1],h2,h3,h4,h5,h7,h6⟩
   | exit j=>
    simp only [bR,exitA] at h6
    simp only [atEx] at h3
    by_cases hj : j = id
    ·subst hj
     rw [Nat.beq_refl] at h6 h3
     exact .inl ⟨k,.norm,s,e',h',by simp only [ACode.erase,evC,h1,if_true],h2,h3,h4,h5,h7,h6⟩
    ·have hb : Nat.beq j id = false:=by
      cases hh : Nat.beq j id with
      | false=>rfl
      | true=>exact absurd (Nat.eq_of_beq_eq_true hh) hj
     rw [hb] at h6 h3
     exact .inl ⟨k,.exit j,s,e',h',by simp only [ACode.erase,evC,h1,if_neg hj],h2,h3,h4,h5,h7,h6⟩
  ·exact .inr ⟨k,m',h',by simp only [ACode.erase,CB]; exact h1,h2,h5,h6⟩
 | .loop lv L c,e,h,Q,tm,m,Lx,Ln,Lr,hok,hsl,hn,ha,r,hq,hp=>by
  simp only [GN] at hsl
  simp only [H5,Bool.and_eq_true] at hok ha
  obtain ⟨hok,hL1,hL2⟩:=hok
  obtain ⟨n0,Inv,hi,hF⟩:=hp
  have main : ∀ (q : Nat) (tm : List AV) (m : Mem) (e1 : Env) (h : H),Inv q (lv.map e1) h -> (∀ k,(E2 c).testBit k = false -> e1 k = e k) -> tm.length = n -> agree L tm e1 -> Rep m h ->
    (∃ k x s e' h',D9 (evC (BP S tab k).1 k c.erase) k ⟨tm,m⟩ = some (x,s) /\ s.tm.length = n /\ agree (atEx Lx Ln Lr x) s.tm e' /\ Rep s.m h' /\ Keep EG m s.m /\ (∀ k,(E2 c).testBit k = false -> e' k = e k) /\ Q x e' h') \/
    ∃ k m' h',DI (evC (BP S tab k).1 k c.erase) (CB (BP S tab k).1 (BP S tab k).2 k c.erase) k ⟨tm,m⟩ = some m' /\ Rep m' h' /\ Keep EG m m' /\ PK h':=by
   intro q
   induction q using Nat.strongRecOn with
   | ind q ih=>
    intro tm m e1 h hi hw hn ha r
    have ha' : agree L tm (ofL e lv (lv.map e1)):=fun k hk=>by
     rw [ha k hk,U8 hw]
     by_cases hb : (E2 c).testBit k = true
     ·exact .inl ((PQ lv k).1 (RL hL2 k (by rw [Nat.testBit_and,hk,hb]; rfl)))
     ·exact .inr (by simpa using hb)
    rcases E9 c (ofL e lv (lv.map e1)) h _ tm m Lx L Lr hok hsl hn (ha'.mono fun k hk=>RL hL1 k hk) r hq (hF q _ _ hi) with ⟨k,x,s,e',h',h1,h2,h3,h4,h5,h7,h6⟩ | ⟨k,m',h',h1,h2,h5,h6⟩
    ·have hw' : ∀ k,(E2 c).testBit k = false -> e' k = e k:=fun k hk=>by rw [h7 k hk,U8 hw k (.inr hk),hw k hk]
     cases x with
     | norm=>
      obtain ⟨q',hq',hi'⟩:=h6
      rcases ih q' hq' s.tm s.m e' h' hi' hw' h2 h3 h4 with ⟨k',x',s',e'',h'',g1,g2,g3,g4,g5,g7,g6⟩ | ⟨k',m2,h'',g1,g2,g5,g6⟩
      ·refine .inl ⟨max k k' + 1,x',s',e'',h'',?_,g2,g3,g4,h5.trans g5,g7,g6⟩
       simp only [D9,IS (show k <= max k k' + 1 by omega) h1]
       exact N0 (fun s r h'=>IS (show k' <= max k k' + 1 by omega) h') (by omega) g1
      ·refine .inr ⟨max k k' + 1,m2,h'',?_,g2,h5.trans g5,g6⟩
       simp only [DI,IS (show k <= max k k' + 1 by omega) h1]
       exact L6 (fun s r h'=>IS (show k' <= max k k' + 1 by omega) h') (fun s r h'=>QX (show k' <= max k k' + 1 by omega) h') (fun s r h'=>MI h') (by omega) g1
     | exit i=>exact .inl ⟨k + 1,.exit i,s,e',h',by simp only [D9,IS (Nat.le_succ k) h1],h2,h3,h4,h5,hw',h6⟩
     | ret=>exact .inl ⟨k + 1,.ret,s,e',h',by simp only [D9,IS (Nat.le_succ k) h1],h2,h3,h4,h5,hw',h6⟩
    ·have h1':=QX (Nat.le_succ k) h1
     exact .inr ⟨k + 1,m',h',by simp only [DI,MI h1']; exact h1',h2,h5,h6⟩
  rcases main n0 tm m e h hi (fun _ _=>rfl) hn ha r with ⟨k,x,s,e',h',h1,h2⟩ | ⟨k,m',h',h1,h2⟩
  ·exact .inl ⟨k,x,s,e',h',by simp only [ACode.erase,evC]; exact h1,h2⟩
  ·exact .inr ⟨k,m',h',by simp only [ACode.erase,CB]; exact h1,h2⟩
def Sp.plain (S : Sp) (f : Nat) : Bool:=!(Nat.beq f S.must) && !(Nat.beq f S.hold) && !(S.knows f)
theorem VV {f : Nat} {fn : AN} {c : ACode} (hpl : S.plain f = true) (hf : tab f = some fn) (hc : fn.body = c.erase) (hok : okA fn.ntmps fn.results c = true) {args : List AV} (hl : args.length <= fn.ntmps) (hq : (∀ h,¬ PK h) \/ E4 c = true) {h : H} {R : AV -> H -> Prop}
  (hp : wpA (callB S tab PK) c (UL args) h (X4 fn.results R)) : callB S tab PK f args h R:=by
 intro m r
 simp only [okA,Bool.and_eq_true] at hok
 simp only [Sp.plain,Bool.and_eq_true,Bool.not_eq_true'] at hpl
 have ne : ∀ {a b : Nat},Nat.beq a b = false -> ¬ a = b:=fun h e=>by subst e; rw [Nat.beq_refl] at h; cases h
 have p1:=ne hpl.1.1
 have p2:=ne hpl.1.2
 have p3 : ¬ S.knows f = true:=by rw [hpl.2]; decide
 rcases E9 c (UL args) h _ (args ++ List.replicate (fn.ntmps - args.length) .undef) m _ _ _ hok.1 hok.2 (by simp; omega) (fun k _=>by
  simp only [UL,List.getD_eq_getElem?_getD]
  by_cases hk : k < args.length
  ·rw [List.getElem?_append_left hk]
  ·rw [List.getElem?_append_right (by omega),List.getElem?_replicate,List.getElem?_eq_none (by omega)]
   split <;> rfl) r hq hp with ⟨k,x,s,e',h',h1,h2,h3,h4,h5,h7,h6⟩ | ⟨k,m',h',h1,h2,h5,h6⟩
 ·rw [<- hc] at h1
  cases x with
  | exit i=>exact h6.elim
  | norm=>
   obtain ⟨vs,g1,g2⟩:=IE h4 _ _ h3 h6
   exact ⟨k + 1,.inl ⟨_,_,_,by simp only [BP,if_neg p1,if_neg p2,if_neg p3,hf,GY,HC,h1,g1],h4,h5,g2⟩⟩
  | ret=>
   obtain ⟨vs,g1,g2⟩:=IE h4 _ _ h3 h6
   exact ⟨k + 1,.inl ⟨_,_,_,by simp only [BP,if_neg p1,if_neg p2,if_neg p3,hf,GY,HC,h1,g1],h4,h5,g2⟩⟩
 ·rw [<- hc] at h1
  exact ⟨k + 1,.inr ⟨_,_,by simp only [BP,if_neg p1,if_neg p2,if_neg p3,hf,HC,h1],h2,h5,h6⟩⟩
theorem bN {f : Nat} {fn : AN} {c : ACode} (hpl : S.plain f = true) (hf : tab f = some fn) (hc : fn.body = c.erase) (hok : okA fn.ntmps fn.results c = true) {args : List AV} (hl : args.length <= fn.ntmps) {h : H} {R : AV -> H -> Prop} {Sh : Prop}
  (e : wpA (callB S tab AU) c (UL args) h (X4 fn.results R) = Sh) (hp : Sh) : callB S tab PK f args h R:=(VV hpl hf hc hok hl (.inl fun _ x=>x) (e ▸ hp)).quiet
theorem bM {f : Nat} {fn : AN} {c : ACode} (hpl : S.plain f = true) (hf : tab f = some fn) (hc : fn.body = c.erase) (hok : okA fn.ntmps fn.results c = true) {args : List AV} (hl : args.length <= fn.ntmps) (hq : E4 c = true) {h : H} {R : AV -> H -> Prop} {Sh : Prop}
  (e : wpA (callB S tab PK) c (UL args) h (X4 fn.results R) = Sh) (hp : Sh) : callB S tab PK f args h R:=VV hpl hf hc hok hl (.inr hq) (e ▸ hp)
end
end Go.Proofs.YtdljelicbnjfjaaGreat.X
