import Derived.Test.YteidabibgjokkaaGreatDoorGC
import Derived.Laws.Externs
set_option maxRecDepth 20000
set_option linter.all false
namespace Go.Proofs.YteidabibgjokkaaGreatDoor.Lift
open Go
section
variable {X:Type}
def wrt (s:Nat→X):List (Nat × X)→Nat→X
 | [],l=>s l
 | (k,x) :: W,l=>wrt (fun m=>if m=k then x else s m) W l
def touch (W:List (Nat × X)) (l:Nat):Prop:=∃ p ∈ W,p.1=l
theorem wrt_congr:∀ (W:List (Nat × X)) (s s':Nat→X) (l:Nat),s l=s' l→wrt s W l=wrt s' W l:=by
 intro W
 induction W with
 | nil=>intro s s' l h;exact h
 | cons p W ih=>
  obtain ⟨k,x⟩:=p
  intro s s' l h
  refine ih _ _ l ?_
  by_cases e:l=k
  ·simp [e]
  ·simp [e,h]
theorem wrt_touch:∀ (W:List (Nat × X)) (s s':Nat→X) (l:Nat),touch W l→wrt s W l=wrt s' W l:=by
 intro W
 induction W with
 | nil=>intro s s' l h;obtain ⟨p,hp,_⟩:=h;simp at hp
 | cons p W ih=>
  obtain ⟨k,x⟩:=p
  intro s s' l h
  by_cases e:l=k
  ·exact wrt_congr W _ _ l (by simp [e])
  ·obtain ⟨q,hq,hql⟩:=h
   rcases List.mem_cons.1 hq with rfl | hq
   ·exact absurd hql.symm e
   ·exact ih _ _ l ⟨q,hq,hql⟩
theorem wrt_untouch:∀ (W:List (Nat × X)) (s:Nat→X) (l:Nat),¬ touch W l→wrt s W l=s l:=by
 intro W
 induction W with
 | nil=>intro s l h;rfl
 | cons p W ih=>
  obtain ⟨k,x⟩:=p
  intro s l h
  have hk:l≠k:=fun e=>h ⟨(k,x),by simp,e.symm⟩
  show wrt (fun m=>if m=k then x else s m) W l=s l
  rw [ih _ l (fun ⟨q,hq,hql⟩=>h ⟨q,by simp [hq],hql⟩)]
  simp [hk]
def run (L:Nat→Bool):List (List (Nat × X))→Nat→(Nat→X)→Nat→X
 | [],_,s=>s
 | W :: Ws,k,s=>run L Ws (k+1) (if L k=true then wrt s W else s)
theorem run_agree {L L':Nat→Bool} {l:Nat}:∀ (Ws:List (List (Nat × X))) (k:Nat) (s s':Nat→X),(∀ j W,Ws[j]? = some W→L (k+j)≠L' (k+j)→¬ touch W l)→s l=s' l→run L Ws k s l=run L' Ws k s' l:=by
 intro Ws
 induction Ws with
 | nil=>intro k s s' h e;exact e
 | cons W Ws ih=>
  intro k s s' h e
  refine ih (k+1) _ _ (fun j W' hW' hne=>h (j+1) W' (by simpa using hW') (by rwa [show k+(j+1)=k+1+j by omega])) ?_
  have h0:=h 0 W rfl
  rw [Nat.add_zero] at h0
  by_cases e1:L k=true<;>by_cases e2:L' k=true
  ·rw [if_pos e1,if_pos e2];exact wrt_congr W _ _ l e
  ·rw [if_pos e1,if_neg e2,wrt_untouch W s l (h0 (by rw [e1];intro h;exact e2 h.symm)),e]
  ·rw [if_neg e1,if_pos e2,wrt_untouch W s' l (h0 (by rw [e2];exact e1)),e]
  ·rw [if_neg e1,if_neg e2];exact e
theorem run_touch {L:Nat→Bool} {l i:Nat}:∀ (Ws:List (List (Nat × X))) (k:Nat) (s s0:Nat→X) (W:List (Nat × X)),k≤i→Ws[i-k]? = some W→L i=true→touch W l→(∀ j W',i<j→k≤j→Ws[j-k]? = some W'→L j=true→¬ touch W' l)→run L Ws k s l=wrt s0 W l:=by
 intro Ws
 induction Ws with
 | nil=>intro k s s0 W hk hW;simp at hW
 | cons V Ws ih=>
  intro k s s0 W hk hW hL ht hlater
  by_cases e:k=i
  ·subst e
   rw [Nat.sub_self] at hW
   have:V=W:=by simpa using hW
   subst this
   show run L Ws (k+1) (if L k=true then wrt s V else s) l=_
   rw [if_pos hL]
   have h1:=run_agree (L:=L) (L':=fun _=>false) (l:=l) Ws (k+1) (wrt s V) (wrt s V) (fun j W' hW' hne=>hlater (k+1+j) W' (by omega) (by omega) (by
    rw [show k+1+j-k=j+1 by omega];simpa using hW') (by
    cases h:L (k+1+j) with
    | true=>rfl
    | false=>exact absurd h hne)) rfl
   rw [h1]
   have h2:∀ (Ws:List (List (Nat × X))) (k:Nat) (s:Nat→X),run (fun _=>false) Ws k s=s:=by
    intro Ws
    induction Ws with
    | nil=>intro k s;rfl
    | cons U Ws ih2=>intro k s;exact ih2 (k+1) s
   rw [h2]
   exact wrt_touch V _ _ l ht
  ·refine ih (k+1) _ s0 W (by omega) (by
    have:i-k=(i-(k+1))+1:=by omega
    rw [this] at hW
    simpa using hW) hL ht (fun j W' hj hkj hW'=>hlater j W' hj (by omega) (by
    rw [show j-k=(j-(k+1))+1 by omega];simpa using hW'))
end
structure Tr where
 dst:Option Tmp
 rs:List Nat
 v:V
 hr:List Nat
 hw:List (Nat × Option Row)
 nn:List Nat
def Tr.fw (T:Tr):List (Nat × Option V):=match T.dst with
 | some d=>[(d,some T.v)]
 | none=>[]
def Eff.rds:Eff→List Nat
 | .val _=>[]
 | .rd h _=>[h]
 | .new _ _=>[]
 | .wr h _=>[h]
 | .wr2 h h2 _=>[h,h2]
 | .grow h _ _=>[h]
 | .grow2 h h2 _ _=>[h,h2]
 | .new2 h2 _ _=>[h2]
def Eff.wws (n:Nat) (hp':List (Nat × Row)):Eff→List (Nat × Option Row)
 | .val _=>[]
 | .rd _ _=>[]
 | .new _ _=>[(n,lkp hp' n)]
 | .wr h _=>[(h,lkp hp' h)]
 | .wr2 h _ _=>[(h,lkp hp' h)]
 | .grow h _ _=>[(h,none),(n,lkp hp' n)]
 | .grow2 h _ _ _=>[(h,none),(n,lkp hp' n)]
 | .new2 _ _ _=>[(n,lkp hp' n)]
theorem wrt_upd (s:Nat→Option Row)(k:Nat)(x:Option Row):wrt s [(k,x)]=upd s k x:=by funext l;rfl
theorem wrt_upd2 (s:Nat→Option Row)(k j:Nat)(x y:Option Row):wrt s [(k,x),(j,y)]=upd (upd s k x) j y:=by funext l;rfl
theorem run_local {e:Eff} {n:Nat} {hp:List (Nat × Row)} {v:V} {hp':List (Nat × Row)} {u:Bool} (h:e.runL n hp=some (v,hp',u)) {s:Nat→Option Row} (hs:∀ k ∈ e.rds,s k=lkp hp k):e.run n s=some (v,wrt s (e.wws n hp'),u):=by
 cases e<;>simp only [Eff.runL] at h<;>simp only [Eff.run,Eff.wws,Eff.rds,List.mem_cons,List.not_mem_nil,or_false,forall_eq_or_imp,forall_eq] at hs ⊢
 case val=>cases h;rfl
 case rd hh k=>
  rw [hs]
  split at h<;>(try cases h;done)
  split at h<;>(try cases h;done)
  cases h
  simp [*]
  rfl
 case new r mk=>cases h;rw [wrt_upd];simp [lkp]
 case wr hh k=>
  rw [hs]
  split at h<;>(try cases h;done)
  split at h<;>(try cases h;done)
  cases h
  rw [wrt_upd,lkp_set]
  simp [*]
 case wr2 hh h2 k=>
  rw [hs.1,hs.2]
  split at h<;>(try cases h;done)
  split at h<;>(try cases h;done)
  cases h
  rw [wrt_upd,lkp_set]
  simp [*]
 case grow hh k mk=>
  rw [hs]
  split at h<;>(try cases h;done)
  split at h<;>(try cases h;done)
  cases h
  rw [wrt_upd2,lkp_cons]
  simp [*]
 case grow2 hh h2 k mk=>
  rw [hs.1,hs.2]
  split at h<;>(try cases h;done)
  split at h<;>(try cases h;done)
  cases h
  rw [wrt_upd2,lkp_cons]
  simp [*]
 case new2 h2 k mk=>
  rw [hs]
  split at h<;>(try cases h;done)
  split at h<;>(try cases h;done)
  cases h
  rw [wrt_upd,lkp_cons]
  simp [*]
theorem run_indep {e:Eff} {n:Nat} {s s':Nat→Option Row} {v:V} (h:e.run n s=some (v,s',false))(m:Nat):e.run m s=some (v,s',false):=by
 cases e<;>simp only [Eff.run] at h ⊢ <;> try exact h
 case new=>simp at h
 case grow=>split at h<;>(try cases h;done);split at h<;>simp at h
 case grow2=>split at h<;>(try cases h;done);split at h<;>simp at h
 case new2=>split at h<;>(try cases h;done);split at h<;>simp at h
mutual
def cnl:V→V
 | .nl=>.sl []
 | .agg cs=>.agg (cnlL cs)
 | .tup cs=>.tup (cnlL cs)
 | v=>v
def cnlL:List V→List V
 | []=>[]
 | v :: vs=>cnl v :: cnlL vs
end
theorem cnlL_length (l:List V):(cnlL l).length=l.length:=by
 induction l with
 | nil=>rfl
 | cons v l ih=>simp [cnlL,ih]
theorem cnlL_getD (l:List V):∀ k,(cnlL l).getD k .junk=cnl (l.getD k .junk):=by
 induction l with
 | nil=>intro k;simp [cnlL,cnl]
 | cons v l ih=>
  intro k
  cases k with
  | zero=>rfl
  | succ k=>exact ih k
theorem Rep.cnl {F:Nat→Prop} {w:World} {env:Env} {D:Nat→Prop} {x:Value} {v:V} (h:Rep F w env D x v):Rep F w env D x (cnl v):=by
 induction h with
 | junk=>simp only [Lift.cnl];exact .junk
 | b=>simp only [Lift.cnl];exact .b
 | i hk=>simp only [Lift.cnl];exact .i hk
 | s hs=>simp only [Lift.cnl];exact .s hs
 | nl=>simp only [Lift.cnl];exact .sl0
 | sl0=>simp only [Lift.cnl];exact .sl0
 | sl y hne hc hl hF hb hE hy hr ih=>simp only [Lift.cnl];exact .sl y hne hc hl hF hb hE hy hr
 | agg hs hr ih=>
  simp only [Lift.cnl]
  refine .agg (by rw [cnlL_length];exact hs) fun k hk=>?_
  rw [cnlL_length] at hk
  rw [cnlL_getD]
  exact ih k hk
 | tup hs hr ih=>
  simp only [Lift.cnl]
  refine .tup (by rw [cnlL_length];exact hs) fun k hk=>?_
  rw [cnlL_length] at hk
  rw [cnlL_getD]
  exact ih k hk
 | ptr hD he hs=>simp only [Lift.cnl];exact .ptr hD he hs
 | mp hD he=>simp only [Lift.cnl];exact .mp hD he
 | rp y hF hb hy hr ih=>simp only [Lift.cnl];exact .rp y hF hb hy hr
 | own hD he hc hl hs=>simp only [Lift.cnl];exact .own hD he hc hl hs
 | own0 hD=>simp only [Lift.cnl];exact .own0 hD
 | fn hs hr ih=>simp only [Lift.cnl];exact .fn hs hr
def slotsOf:List Operand→List Nat
 | []=>[]
 | .tmp t :: xs=>t :: slotsOf xs
 | _ :: xs=>slotsOf xs
def gSlot:Option (Option Tmp × Bool)→List Nat
 | some (some d,_)=>[d]
 | _=>[]
def TrOk (P:Program) (ops:Array Oper) (N:Nat) (i:Nat) (T:Tr) (fr0:Nat→Option V) (hp0:Nat→Option Row):Prop:=
 ∀ (C:Ctx) (env:Env) (fr:Nat→Option V) (hp:Nat→Option Row) (D:Nat→Prop) (a:Act) (w:World),C.N=N→Sim C env fr hp D a w→(∀ t ∈ T.rs,fr t=fr0 t)→(∀ h ∈ T.hr,hp h=hp0 h)→(∀ n ∈ T.nn,¬ D n)→(∃ m,¬ D m) →
  ∀ (K:Act→World→Prop) (Q:Exit→Act→World→Prop),(∀ env' a' w',Sim C env' (wrt fr T.fw) (wrt hp T.hw) (fun m=>D m∨m ∈ T.nn) a' w'→K a' w')→wpOp P ops Q i K a w
theorem valsOf_sim {C:Ctx} {env:Env} {fr:Nat→Option V} {hp:Nat→Option Row} {D:Nat→Prop} {a:Act} {w:World} (hs:Sim C env fr hp D a w) {l:List (Nat × V)}:∀ {xs:List Operand} {vs:List V},valsOf l xs=some vs→(∀ t ∈ slotsOf xs,fr t=lkp l t) →
  vs.length=xs.length∧∀ j,j<vs.length→Rep (Fd C env hp) w env D (a.eval (xs.getD j (.const undef))) (vs.getD j .junk):=by
 intro xs
 induction xs with
 | nil=>intro vs h _;simp [valsOf] at h;subst h;exact ⟨rfl,fun j hj=>by simp at hj⟩
 | cons x xs ih=>
  intro vs h hsl
  simp only [valsOf] at h
  split at h
  ·rename_i v hv
   split at h
   ·rename_i vs' hvs
    cases h
    obtain ⟨h1,h2⟩:=ih hvs (fun t ht=>hsl t (by cases x<;>simp [slotsOf,ht]))
    refine ⟨by simp [h1],fun j hj=>?_⟩
    cases j with
    | zero=>
     show Rep _ _ _ _ (a.eval x) v
     cases x with
     | tmp t=>
      have e:=hsl t (by simp [slotsOf])
      simp only [valOf] at hv
      exact (hs.tm t v (e.trans hv)).2
     | const c=>simp only [valOf,Option.some.injEq] at hv;subst hv;exact rep_ofConst c
     | func f=>simp only [valOf,Option.some.injEq] at hv;subst hv;exact .fn rfl (fun k hk=>by simp at hk)
     | global g=>simp [valOf] at hv
    | succ j=>exact h2 j (by simpa using hj)
   ·cases h
  ·cases h
theorem guard_sim {C:Ctx} {env:Env} {fr:Nat→Option V} {hp:Nat→Option Row} {D:Nat→Prop} {a:Act} {w:World} (hs:Sim C env fr hp D a w) {ops:Array Oper} {o:Oper} {l:List (Nat × V)} {c:Bool} (h:guardP l (match o.guard with
  | none=>none
  | some (j,w)=>some (gslot ops j,w))=some c) (hsl:∀ t ∈ gSlot (match o.guard with
  | none=>none
  | some (j,w)=>some (gslot ops j,w)),fr t=lkp l t):Region.wanted o (yielded ops a.tmps)=c:=by
 unfold Region.wanted
 cases hg:o.guard with
 | none=>
  simp only [hg,guardP] at h
  cases h
  rfl
 | some p=>
  obtain ⟨j,want⟩:=p
  simp only [hg] at h hsl
  cases hd:gslot ops j with
  | none=>simp [hd,guardP] at h
  | some d=>
   simp only [hd,guardP] at h hsl
   split at h
   ·rename_i x hx
    cases h
    have e:=hsl d (by simp [gSlot])
    obtain ⟨hlt,hr⟩:=hs.tm d _ (e.trans hx)
    have hb:=hr.b_inv
    have:a.tmps[d]? = some (.bool x):=by
     have h1:d<a.tmps.size:=by rw [hs.sz];exact hlt
     rw [Array.getElem?_eq_getElem h1]
     rw [Array.getD_eq_getD_getElem?,Array.getElem?_eq_getElem h1] at hb
     exact congrArg some hb
    simp only [yielded]
    unfold gslot at hd
    rw [hd]
    simp only [Option.bind_some,this]
    cases x<;>cases want<;>rfl
   ·rename_i hx
    cases h
    obtain ⟨hlt,hr⟩:=hs.tm d _ ((hsl d (by simp [gSlot])).trans hx)
    have hb:a.tmps.getD d undef=.tuple #[]:=by
     generalize a.tmps.getD d undef=X at hr
     cases hr with
     | tup hsz _=>rename_i xs;rw [Array.eq_empty_of_size_eq_zero hsz]
    have:a.tmps[d]? = some (.tuple #[]):=by
     have h1:d<a.tmps.size:=by rw [hs.sz];exact hlt
     rw [Array.getElem?_eq_getElem h1]
     rw [Array.getD_eq_getD_getElem?,Array.getElem?_eq_getElem h1] at hb
     exact congrArg some hb
    simp only [yielded]
    unfold gslot at hd
    rw [hd]
    simp only [Option.bind_some,this]
    cases want<;>rfl
   ·cases h
theorem put_sim {C:Ctx} {env:Env} {fr:Nat→Option V} {hp:Nat→Option Row} {D:Nat→Prop} {a:Act} {w:World} (hs:Sim C env fr hp D a w) {T:Tr} (hd:∀ d,T.dst=some d→d<C.N) {x:Value} (hr:Rep (Fd C env hp) w env D x T.v) :
  Sim C env (wrt fr T.fw) hp D (a.put T.dst x) w:=by
 unfold Tr.fw
 cases h:T.dst with
 | none=>exact hs
 | some d=>
  have e:wrt fr [(d,some T.v)]=upd fr d (some T.v):=by funext l;rfl
  simp only
  rw [e]
  exact hs.put (hd d h) hr
inductive RunD (P:Program) (N:Nat):List PO→St→List Tr→St→Prop
 | nil {st:St}:RunD P N [] st [] st
 | op {o:PO} {l:List PO} {Ts:List Tr} {st st1 st2:St} {vs:List V} {e:Eff} {v:V} {hp:List (Nat × Row)} {u:Bool} {T:Tr}:isCall o.op=false→guardP st.fr o.g=some true→valsOf st.fr (opsOf o.op)=some vs→eff P o.op vs=some e→e.runL st.nx st.hp=some (v,hp,u) →
   putSt N o.dst v st.fr hp (if u=true then st.nx+1 else st.nx)=some st1→T=⟨o.dst,slotsOf (opsOf o.op)++gSlot o.g,v,e.rds,e.wws st.nx hp,if u=true then [st.nx] else []⟩→RunD P N l st1 Ts st2→RunD P N (o :: l) st (T :: Ts) st2
 | call {o:PO} {l:List PO} {Ts:List Tr} {st st1 st2:St} {f:FuncId} {caps args:List V} {v:V} {T:Tr}:isCall o.op=true→guardP st.fr o.g=some true→valsOf st.fr (opsOf o.op)=some (.fn f caps :: args)→V.hfL (args++caps)=true→PCall P f (cnlL (args++caps)) v []→V.hf v=true →
   putSt N o.dst v st.fr st.hp st.nx=some st1→T=⟨o.dst,slotsOf (opsOf o.op)++gSlot o.g,v,[],[],[]⟩→RunD P N l st1 Ts st2→RunD P N (o :: l) st (T :: Ts) st2
 | skip {o:PO} {l:List PO} {Ts:List Tr} {st st1 st2:St} {T:Tr}:guardP st.fr o.g=some false→putSt N o.dst (.tup []) st.fr st.hp st.nx=some st1→T=⟨o.dst,gSlot o.g,.tup [],[],[],[]⟩→RunD P N l st1 Ts st2→RunD P N (o :: l) st (T :: Ts) st2
 | tr {o:PO} {l:List PO} {Ts:List Tr} {st st1 st2:St} {T:Tr}:(∀ (ops:Array Oper) (i:Nat) (o':Oper),ops[i]? = some o'→(⟨o'.dst,o'.op,match o'.guard with
  | none=>none
  | some (j,w)=>some (gslot ops j,w)⟩:PO)=o→TrOk P ops N i T (lkp st.fr) (lkp st.hp))→lkp st1.fr=wrt (lkp st.fr) T.fw→lkp st1.hp=wrt (lkp st.hp) T.hw→RunD P N l st1 Ts st2→RunD P N (o :: l) st (T :: Ts) st2
theorem putSt_dst {N:Nat} {dst:Option Tmp} {v:V} {fr:List (Nat × V)} {hp:List (Nat × Row)} {nx:Nat} {st1:St} (h:putSt N dst v fr hp nx=some st1):(∀ d,dst=some d→d<N)∧lkp st1.fr=wrt (lkp fr) (Tr.fw ⟨dst,[],v,[],[],[]⟩)∧st1.hp=hp∧st1.nx=nx:=by
 unfold putSt at h
 split at h
 ·rename_i d
  split at h
  ·rename_i hd
   cases h
   refine ⟨fun d' e=>by cases e;exact hd,?_,rfl,rfl⟩
   show lkp ((d,v) :: fr)=_
   rw [lkp_cons]
   funext l
   rfl
  ·cases h
 ·cases h
  exact ⟨fun d e=>(by cases e),rfl,rfl,rfl⟩
theorem TrOk.op {P:Program} {ops:Array Oper} {i:Nat} {o:Oper} (hi:ops[i]? = some o) {N:Nat} {st st1:St} {vs:List V} {e:Eff} {v:V} {hp:List (Nat × Row)} {u:Bool} (h1:guardP st.fr (match o.guard with
  | none=>none
  | some (j,w)=>some (gslot ops j,w))=some true) (h2:valsOf st.fr (opsOf o.op)=some vs) (h3:eff P o.op vs=some e) (h4:e.runL st.nx st.hp=some (v,hp,u)) (h5:putSt N o.dst v st.fr hp (if u=true then st.nx+1 else st.nx)=some st1) :
  TrOk P ops N i ⟨o.dst,slotsOf (opsOf o.op)++gSlot (match o.guard with
  | none=>none
  | some (j,w)=>some (gslot ops j,w)),v,e.rds,e.wws st.nx hp,if u=true then [st.nx] else []⟩ (lkp st.fr) (lkp st.hp):=by
 intro C env fr hpf D a w hN hs hfr hhp hnn hex K Q hk
 subst hN
 unfold wpOp
 simp only [hi]
 rw [if_pos (guard_sim hs h1 (fun t ht=>hfr t (by simp [ht])))]
 refine .inl ?_
 obtain ⟨hl,hr⟩:=valsOf_sim hs h2 (fun t ht=>hfr t (by simp [ht]))
 rw [opsOf_eq] at hl hr
 have hrun:=run_local h4 (s:=hpf) (fun k hk=>hhp k hk)
 have hdst:=(putSt_dst h5).1
 obtain ⟨m,hm,hrun',hDD⟩:∃ m,¬ D m∧e.run m hpf=some (v,wrt hpf (e.wws st.nx hp),u)∧DD D m u=fun k=>D k∨k ∈ (if u=true then [st.nx] else []):=by
  cases u with
  | true=>exact ⟨st.nx,hnn st.nx (by simp),hrun,by funext k;simp [DD]⟩
  | false=>
   obtain ⟨m,hm⟩:=hex
   exact ⟨m,hm,run_indep hrun m,by funext k;simp [DD]⟩
 obtain ⟨env',w',nx,x,g1,g2,g3,g4⟩:=good_eff (ty:=o.type) h3 C env fr hpf D a w hs ⟨by simpa using hl,fun j hj=>by
  have:=hr j hj
  have e1:o.op.operands.toList.getD j (.const undef)=o.op.operands.getD j (.const undef):=by
   simp [List.getD_eq_getElem?_getD,Array.getD_eq_getD_getElem?]
  rw [e1] at this
  exact this⟩ m hm v (wrt hpf (e.wws st.nx hp)) u hrun'
 rw [hDD] at g2 g3
 exact wp_of_value g1 g4 (hk env' _ w' (put_sim (T:=⟨o.dst,slotsOf (opsOf o.op)++gSlot (match o.guard with
  | none=>none
  | some (j,w)=>some (gslot ops j,w)),v,e.rds,e.wws st.nx hp,if u=true then [st.nx] else []⟩) g2 hdst g3))
theorem TrOk.skip {P:Program} {ops:Array Oper} {i:Nat} {o:Oper} (hi:ops[i]? = some o) {N:Nat} {st st1:St} (h1:guardP st.fr (match o.guard with
  | none=>none
  | some (j,w)=>some (gslot ops j,w))=some false) (h5:putSt N o.dst (.tup []) st.fr st.hp st.nx=some st1) :
  TrOk P ops N i ⟨o.dst,gSlot (match o.guard with
  | none=>none
  | some (j,w)=>some (gslot ops j,w)),.tup [],[],[],[]⟩ (lkp st.fr) (lkp st.hp):=by
 intro C env fr hpf D a w hN hs hfr hhp hnn hex K Q hk
 subst hN
 unfold wpOp
 simp only [hi]
 rw [if_neg (by rw [guard_sim hs h1 (fun t ht=>hfr t ht)];simp)]
 have hdst:=(putSt_dst h5).1
 have e1:(fun m=>D m∨m ∈ ([]:List Nat))=D:=by funext m;simp
 rw [e1] at hk
 exact hk env _ w (put_sim (T:=⟨o.dst,gSlot (match o.guard with
  | none=>none
  | some (j,w)=>some (gslot ops j,w)),.tup [],[],[],[]⟩) hs hdst (.tup (xs:=#[]) rfl (fun k hk=>absurd hk (Nat.not_lt_zero k))))
theorem TrOk.call {P:Program} {ops:Array Oper} {i:Nat} {o:Oper} (hi:ops[i]? = some o) {N:Nat} {st st1:St} {f:FuncId} {caps args:List V} {v:V} (h0:isCall o.op=true) (h1:guardP st.fr (match o.guard with
  | none=>none
  | some (j,w)=>some (gslot ops j,w))=some true) (h2:valsOf st.fr (opsOf o.op)=some (.fn f caps :: args)) (h3:V.hfL (args++caps)=true) (h4:PCall P f (cnlL (args++caps)) v []) (hv:V.hf v=true) (h5:putSt N o.dst v st.fr st.hp st.nx=some st1) :
  TrOk P ops N i ⟨o.dst,slotsOf (opsOf o.op)++gSlot (match o.guard with
  | none=>none
  | some (j,w)=>some (gslot ops j,w)),v,[],[],[]⟩ (lkp st.fr) (lkp st.hp):=by
 intro C env fr hpf D a w hN hs hfr hhp hnn hex K Q hk
 subst hN
 unfold wpOp
 simp only [hi]
 rw [if_pos (guard_sim hs h1 (fun t ht=>hfr t (by simp [ht])))]
 refine .inl ?_
 obtain ⟨hl,hr⟩:=valsOf_sim hs h2 (fun t ht=>hfr t (by simp [ht]))
 rw [opsOf_eq] at hl hr
 have hdst:=(putSt_dst h5).1
 obtain ⟨hcf,hcalls⟩:=h4
 cases hop:o.op with
 | call c=>
  rw [hop] at h0 hl hr
  simp only [isCall] at h0
  split at h0
  ·rename_i g hcal
   have hops:(Op.call c).operands.toList=g :: c.args.toList:=by simp [Op.operands,Call.operands,hcal]
   rw [hops] at hl hr
   have hg0:Rep _ w env _ (a.eval g) (.fn f caps):=hr 0 (by simp)
   generalize hgv:a.eval g=gv at hg0
   cases hg0 with
   | fn hsz hcr=>
    rename_i xcaps
    have hrun:(execOp a.eval o).run P w=.ok (.enter f (c.args.map a.eval++xcaps)) w:=by
     unfold execOp
     rw [hop]
     simp only [Sem.run_bind]
     have h1:(resolve a.eval c o.type).run P w=.ok { target:=.fn (.func f) xcaps,args:=c.args.map a.eval } w:=by
      unfold resolve
      simp only [hcal,hgv,Deferred.ofValue,Array.empty_append]
      rfl
     rw [h1]
     simp only [Result.andThen_ok,invoke]
     exact hcf _ _
    unfold Oper.wp
    rw [hrun,Oper.upon_enter]
    have hlen:args.length=c.args.size:=by simpa using hl
    have hrep0:∀ k,k<(args++caps).length→Rep (Fd C env hpf) w env D ((c.args.map a.eval++xcaps).getD k undef) ((args++caps).getD k .junk):=by
     intro k hk
     by_cases hka:k<args.length
     ·have h1:=hr (k+1) (by simp;omega)
      simp only [List.getD_cons_succ] at h1
      have e1:(c.args.map a.eval++xcaps).getD k undef=a.eval (c.args.toList.getD k (.const undef)):=by
       rw [Array.getD_eq_getD_getElem?,Array.getElem?_append_left (by simp;omega)]
       simp [List.getD_eq_getElem?_getD,show k<c.args.size by omega]
      have e2:(args++caps).getD k .junk=args.getD k .junk:=by
       rw [List.getD_eq_getElem?_getD,List.getElem?_append_left hka,← List.getD_eq_getElem?_getD]
      rw [e1,e2]
      exact h1
     ·have e1:(c.args.map a.eval++xcaps).getD k undef=xcaps.getD (k-args.length) undef:=by
       rw [Array.getD_eq_getD_getElem?,Array.getElem?_append_right (by simp;omega),Array.getD_eq_getD_getElem?]
       simp [hlen]
      have e2:(args++caps).getD k .junk=caps.getD (k-args.length) .junk:=by
       rw [List.getD_eq_getElem?_getD,List.getElem?_append_right (by omega),← List.getD_eq_getElem?_getD]
      rw [e1,e2]
      exact hcr _ (by simp at hk;omega)
    refine (hcalls (Fd C env hpf) w (c.args.map a.eval++xcaps) (fun b hb=>hs.fd_lt hb) (by rw [cnlL_length];simp [hlen,hsz]) (fun k hk=>?_)).mono ?_
    ·rw [cnlL_length] at hk
     rw [cnlL_getD]
     exact ((hrep0 k hk).hf (hfL_getD h3 k)).cnl
    ·rintro e w' ⟨x,rfl,hstep,e1,_,_,_,hrep⟩
     show K (a.put o.dst x) w'
     have e2:(fun m=>D m∨m ∈ ([]:List Nat))=D:=by funext m;simp
     rw [e2] at hk
     refine hk env _ w' (put_sim (T:=⟨o.dst,slotsOf (opsOf o.op)++gSlot (match o.guard with
      | none=>none
      | some (j,w)=>some (gslot ops j,w)),v,[],[],[]⟩) (hs.world hstep) hdst ?_)
     have hrep':Rep (PFd (Fd C env hpf) [] e1) w' env D x v:=hrep.hf hv
     exact hrep'.sub (fun b hb=>.inl hb)
  ·cases h0
 | _=>rw [hop] at h0;simp [isCall] at h0
theorem run_shift {X:Type} (L:Nat→Bool):∀ (Ws:List (List (Nat × X))) (k:Nat) (s:Nat→X),run L Ws (k+1) s=run (fun m=>L (m+1)) Ws k s:=by
 intro Ws
 induction Ws with
 | nil=>intro k s;rfl
 | cons W Ws ih=>intro k s;exact ih (k+1) _
theorem run_false {X:Type}:∀ (Ws:List (List (Nat × X))) (k:Nat) (s:Nat→X),run (fun _=>false) Ws k s=s:=by
 intro Ws
 induction Ws with
 | nil=>intro k s;rfl
 | cons W Ws ih=>intro k s;exact ih (k+1) s
theorem wws_hp {e:Eff} {n:Nat} {hp:List (Nat × Row)} {v:V} {hp':List (Nat × Row)} {u:Bool} (h:e.runL n hp=some (v,hp',u)):lkp hp'=wrt (lkp hp) (e.wws n hp'):=by
 have h1:=runL_run h
 have h2:=run_local h (s:=lkp hp) (fun _ _=>rfl)
 rw [h1] at h2
 simp only [Option.some.injEq,Prod.mk.injEq] at h2
 exact h2.2.1
theorem RunD.spec {P:Program} {N:Nat} {ops:Array Oper}:∀ {l:List Oper} {i:Nat} {st st':St} {Ts:List Tr},ops.toList.drop i=l→RunD P N (prepL ops l) st Ts st' →
  Ts.length=l.length∧(∀ j T,Ts[j]? = some T→TrOk P ops N (i+j) T (run (fun m=>decide (m<j)) (Ts.map Tr.fw) 0 (lkp st.fr)) (run (fun m=>decide (m<j)) (Ts.map Tr.hw) 0 (lkp st.hp))) ∧
  lkp st'.fr=run (fun _=>true) (Ts.map Tr.fw) 0 (lkp st.fr)∧lkp st'.hp=run (fun _=>true) (Ts.map Tr.hw) 0 (lkp st.hp):=by
 intro l
 induction l with
 | nil=>
  intro i st st' Ts hd h
  cases h
  exact ⟨rfl,fun j T hT=>by simp at hT,rfl,rfl⟩
 | cons o l ih=>
  intro i st st' Ts hd h
  have hi:ops[i]? = some o:=by
   have:(ops.toList.drop i)[0]? = some o:=by rw [hd];rfl
   simpa using this
  have hd':ops.toList.drop (i+1)=l:=by
   rw [← List.drop_drop,hd]
   rfl
  have fin:∀ {st1:St} {T:Tr} {Ts:List Tr},TrOk P ops N i T (lkp st.fr) (lkp st.hp)→lkp st1.fr=wrt (lkp st.fr) T.fw→lkp st1.hp=wrt (lkp st.hp) T.hw→RunD P N (prepL ops l) st1 Ts st' →
    (T :: Ts).length=(o :: l).length∧(∀ j T',(T :: Ts)[j]? = some T'→TrOk P ops N (i+j) T' (run (fun m=>decide (m<j)) ((T :: Ts).map Tr.fw) 0 (lkp st.fr)) (run (fun m=>decide (m<j)) ((T :: Ts).map Tr.hw) 0 (lkp st.hp))) ∧
    lkp st'.fr=run (fun _=>true) ((T :: Ts).map Tr.fw) 0 (lkp st.fr)∧lkp st'.hp=run (fun _=>true) ((T :: Ts).map Tr.hw) 0 (lkp st.hp):=by
   intro st1 T Ts h1 h2 h3 h4
   obtain ⟨g1,g2,g3,g4⟩:=ih hd' h4
   refine ⟨by simp [g1],?_,?_,?_⟩
   ·intro j T' hT'
    cases j with
    | zero=>
     have:T=T':=by simpa using hT'
     subst this
     have e0:(fun m:Nat=>decide (m<0))=fun _=>false:=by funext m;simp
     rw [e0,run_false,run_false]
     exact h1
    | succ j=>
     have hT2:Ts[j]? = some T':=by simpa using hT'
     have:=g2 j T' hT2
     rw [show i+1+j=i+(j+1) by omega] at this
     have e1:∀ {X:Type} (W:List (Nat × X)) (Ws:List (List (Nat × X))) (s:Nat→X),run (fun m=>decide (m<j+1)) (W :: Ws) 0 s=run (fun m=>decide (m<j)) Ws 0 (wrt s W):=by
      intro X W Ws s
      show run (fun m=>decide (m<j+1)) Ws (0+1) (if decide (0<j+1)=true then wrt s W else s)=_
      rw [if_pos (by simp),run_shift]
      congr 1
      funext m
      simp
     rw [List.map_cons,List.map_cons,e1,e1,← h2,← h3]
     exact this
   ·rw [g3,List.map_cons]
    show _=run (fun _=>true) (Ts.map Tr.fw) (0+1) (if true=true then wrt (lkp st.fr) T.fw else lkp st.fr)
    rw [if_pos rfl,run_shift,h2]
   ·rw [g4,List.map_cons]
    show _=run (fun _=>true) (Ts.map Tr.hw) (0+1) (if true=true then wrt (lkp st.hp) T.hw else lkp st.hp)
    rw [if_pos rfl,run_shift,h3]
  simp only [prepL] at h
  cases h with
  | op h1 h2 h3 h4 h5 h6 h7 h8=>
   subst h7
   obtain ⟨_,e1,e2,_⟩:=putSt_dst h6
   refine fin (TrOk.op hi h2 h3 h4 h5 h6) e1 ?_ h8
   rw [e2]
   exact wws_hp h5
  | call h1 h2 h3 h4 h5 h6 h7 h8 h9=>
   subst h8
   obtain ⟨_,e1,e2,_⟩:=putSt_dst h7
   exact fin (TrOk.call hi h1 h2 h3 h4 h5 h6 h7) e1 (by rw [e2];rfl) h9
  | skip h1 h2 h3 h4=>
   subst h3
   obtain ⟨_,e1,e2,_⟩:=putSt_dst h2
   exact fin (TrOk.skip hi h1 h2) e1 (by rw [e2];rfl) h4
  | tr h1 h2 h3 h4=>exact fin (h1 ops i o hi rfl) h2 h3 h4
structure Info where
 dst:Option Nat
 rs:List Nat
 hr:List Nat
 hw:List Nat
 nn:List Nat
def Tr.info (T:Tr):Info:=⟨T.dst,T.rs,T.hr,T.hw.map (·.1),T.nn⟩
def meet (a b:List Nat):Bool:=a.any fun x=>b.contains x
def clash (a b:Info):Bool:=meet a.dst.toList (b.rs++b.dst.toList) || meet b.dst.toList a.rs || meet a.hw (b.hr++b.hw) || meet b.hw a.hr
def maskOf (ms:List Nat) (o:Oper):Nat:=o.after.toList.foldl (fun s e=>if Region.binds .any e=true then s ||| (2 ^ e.on ||| ms.getD e.on 0) else s) 0
def okMasks (ms:List Nat):Nat→List Oper→Bool
 | _,[]=>true
 | j,o :: l=>(ms.getD j 0 ||| maskOf ms o == maskOf ms o) && (o.after.toList.all fun e=>!(Region.binds .any e) || decide (e.on<j)) && okMasks ms (j+1) l
def okClash (ms:List Nat) (infos:List Info):Bool:=
 (List.range infos.length).all fun j=>(List.range j).all fun i=>match infos[i]?,infos[j]? with
  | some a,some b=>!(clash a b) || (ms.getD j 0).testBit i
  | _,_=>true
def okNames (nx0 nxN:Nat) (infos:List Info):Bool:=
 decide (nx0≤nxN) && (infos.all fun a=>a.nn.all fun m=>decide (nx0≤m) && decide (m<nxN)) &&
 (List.range infos.length).all fun j=>(List.range j).all fun i=>match infos[i]?,infos[j]? with
  | some a,some b=>!(meet a.nn b.nn)
  | _,_=>true
def okDraw (ops:Array Oper) (infos:List Info) (nx0 nxN:Nat):Bool:=
 okMasks (Region.before ops).toList 0 ops.toList && okClash (Region.before ops).toList infos && okNames nx0 nxN infos
theorem maskOf_bit {ms:List Nat} {o:Oper} {i:Nat} (h:(maskOf ms o).testBit i=true):∃ e ∈ o.after.toList,Region.binds .any e=true∧(e.on=i∨(ms.getD e.on 0).testBit i=true):=by
 unfold maskOf at h
 have key:∀ (l:List Edge) (s:Nat),(l.foldl (fun s e=>if Region.binds .any e=true then s ||| (2 ^ e.on ||| ms.getD e.on 0) else s) s).testBit i=true→s.testBit i=true∨∃ e ∈ l,Region.binds .any e=true∧(e.on=i∨(ms.getD e.on 0).testBit i=true):=by
  intro l
  induction l with
  | nil=>intro s h;exact .inl h
  | cons e l ih=>
   intro s h
   rcases ih _ h with h1 | ⟨e',he',h2⟩
   ·have h1':(if Region.binds .any e=true then s ||| (2 ^ e.on ||| ms.getD e.on 0) else s).testBit i=true:=h1
    clear h1
    have h1:=h1'
    clear h1'
    split at h1
    ·rename_i hb
     rw [Nat.testBit_or,Bool.or_eq_true] at h1
     rcases h1 with h1 | h1
     ·exact .inl h1
     ·rw [Nat.testBit_or,Bool.or_eq_true] at h1
      refine .inr ⟨e,by simp,hb,?_⟩
      rcases h1 with h1 | h1
      ·rw [Nat.testBit_two_pow] at h1
       exact .inl (by simpa using h1)
      ·exact .inr h1
    ·exact .inl h1
   ·exact .inr ⟨e',by simp [he'],h2⟩
 rcases key _ 0 h with h1 | h1
 ·simp at h1
 ·exact h1
theorem okMasks_at {ms:List Nat}:∀ {l:List Oper} {j0 j:Nat} {o:Oper},okMasks ms j0 l=true→l[j]? = some o→(∀ i,(ms.getD (j0+j) 0).testBit i=true→(maskOf ms o).testBit i=true)∧∀ e ∈ o.after.toList,Region.binds .any e=true→e.on<j0+j:=by
 intro l
 induction l with
 | nil=>intro j0 j o _ h;simp at h
 | cons o' l ih=>
  intro j0 j o h ho
  simp only [okMasks,Bool.and_eq_true] at h
  obtain ⟨⟨h1,h2⟩,h3⟩:=h
  cases j with
  | zero=>
   have:o'=o:=by simpa using ho
   subst this
   refine ⟨fun i hi=>?_,fun e he hb=>?_⟩
   ·rw [← eq_of_beq h1,Nat.testBit_or,Bool.or_eq_true]
    rw [Nat.add_zero] at hi
    exact .inl hi
   ·rw [List.all_eq_true] at h2
    have:=h2 e he
    simp [hb] at this
    exact this
  | succ j=>
   have:=ih (j0:=j0+1) (j:=j) h3 (by simpa using ho)
   rwa [show j0+1+j=j0+(j+1) by omega] at this
def Closed (ops:Array Oper) (L:Nat→Bool):Prop:=∀ j o,ops[j]? = some o→L j=true→∀ e ∈ o.after.toList,Region.binds .any e=true→L e.on=true
theorem closed_bit {ops:Array Oper} {ms:List Nat} {L:Nat→Bool} (hm:okMasks ms 0 ops.toList=true)(hc:Closed ops L):∀ j i,j<ops.size→(ms.getD j 0).testBit i=true→(L j=true∨∃ o,ops[j]? = some o∧∀ e ∈ o.after.toList,Region.binds .any e=true→L e.on=true)→L i=true:=by
 intro j
 induction j using Nat.strongRecOn with
 | _ j ih=>
  intro i hj hb hL
  have ho:ops[j]? = some ops[j]:=Array.getElem?_eq_getElem hj
  obtain ⟨h1,h2⟩:=okMasks_at (j:=j) hm (by rw [Array.getElem?_toList];exact ho)
  rw [Nat.zero_add] at h1 h2
  obtain ⟨e,he,hbd,hor⟩:=maskOf_bit (h1 i hb)
  have hLe:L e.on=true:=by
   rcases hL with hL | ⟨o,ho',hL⟩
   ·exact hc j _ ho hL e he hbd
   ·rw [ho] at ho'
    cases ho'
    exact hL e he hbd
  rcases hor with rfl | hor
  ·exact hLe
  ·have hlt:=h2 e he hbd
   exact ih e.on hlt i (Nat.lt_trans hlt hj) hor (.inl hLe)
theorem okClash_at {ms:List Nat} {infos:List Info} (h:okClash ms infos=true) {i j:Nat} {a b:Info} (hij:i<j)(ha:infos[i]? = some a)(hb:infos[j]? = some b)(hc:clash a b=true):(ms.getD j 0).testBit i=true:=by
 unfold okClash at h
 rw [List.all_eq_true] at h
 have hj:j<infos.length:=(List.getElem?_eq_some_iff.1 hb).1
 have h1:=h j (by simp [hj])
 rw [List.all_eq_true] at h1
 have h2:=h1 i (by simp [hij])
 simp only [ha,hb,hc,Bool.not_true,Bool.false_or] at h2
 exact h2
theorem meet_of {a b:List Nat} {x:Nat} (ha:x ∈ a)(hb:x ∈ b):meet a b=true:=by
 unfold meet
 rw [List.any_eq_true]
 exact ⟨x,ha,by simpa using hb⟩
theorem filter_drop {l:List Nat} (hn:l.Nodup) {i:Nat} (hi:i ∈ l) {p q:Nat→Bool} (hp:p i=true)(hq:q i=false)(h:∀ j,j≠i→p j=q j):(l.filter p).length=(l.filter q).length+1:=by
 induction l with
 | nil=>simp at hi
 | cons x l ih=>
  rw [List.nodup_cons] at hn
  by_cases e:x=i
  ·subst e
   have:l.filter p=l.filter q:=by
    apply List.filter_congr
    intro j hj
    exact h j (fun e=>hn.1 (e ▸ hj))
   simp [hp,hq,this]
  ·have hi':i ∈ l:=by
    rcases List.mem_cons.1 hi with rfl | h1
    ·exact absurd rfl e
    ·exact h1
   have:=ih hn.2 hi'
   have hx:=h x e
   simp only [List.filter_cons,← hx]
   split<;>simp [this]
theorem AX.drawn {P:Program} {C:Ctx} {st st1:St} {Q:Exit→St→Prop} (hmix:P.follows .mixedOrders=true) {id:Nat} {ops:Array Oper} {po:List PO} (hp:prep ops=po) {Ts:List Tr} (h:RunD P C.N po st Ts st1) {infos:List Info} (hinf:Ts.map Tr.info=infos)
  (hok:okDraw ops infos st.nx st1.nx=true) (hq:Q .normal st1):AX P C (.region id ops true) st Q:=by
 subst hp hinf
 obtain ⟨hlen,htr,hfr,hhp⟩:=RunD.spec (ops:=ops) (i:=0) (by simp) h
 simp only [okDraw,Bool.and_eq_true] at hok
 obtain ⟨⟨hm,hcl⟩,hnm⟩:=hok
 simp only [okNames,Bool.and_eq_true,decide_eq_true_eq] at hnm
 obtain ⟨⟨hnx,hn1⟩,hn2⟩:=hnm
 have hsize:Ts.length=ops.size:=by simpa using hlen
 have hinfo:∀ {j:Nat} {T:Tr},Ts[j]? = some T→(Ts.map Tr.info)[j]? = some T.info:=fun hT=>by simp [hT]
 have hn1':∀ {j:Nat} {T:Tr} {m:Nat},Ts[j]? = some T→m ∈ T.nn→st.nx≤m∧m<st1.nx:=by
  intro j T m hT hm
  rw [List.all_eq_true] at hn1
  have h1:=hn1 T.info (List.mem_of_getElem? (hinfo hT))
  rw [List.all_eq_true] at h1
  have h2:=h1 m hm
  simpa using h2
 have hn2':∀ {i j:Nat} {T U:Tr} {m:Nat},i≠j→Ts[i]? = some T→Ts[j]? = some U→m ∈ T.nn→m ∈ U.nn→False:=by
  have key:∀ {i j:Nat} {T U:Tr} {m:Nat},i<j→Ts[i]? = some T→Ts[j]? = some U→m ∈ T.nn→m ∈ U.nn→False:=by
   intro i j T U m hij hT hU h1 h2
   rw [List.all_eq_true] at hn2
   have hj:j<(Ts.map Tr.info).length:=(List.getElem?_eq_some_iff.1 (hinfo hU)).1
   have g1:=hn2 j (by simpa using hj)
   rw [List.all_eq_true] at g1
   have g2:=g1 i (by simp [hij])
   simp only [hinfo hT,hinfo hU] at g2
   have g3:meet T.info.nn U.info.nn=true:=meet_of h1 h2
   rw [g3] at g2
   simp at g2
  intro i j T U m hij hT hU h1 h2
  rcases Nat.lt_or_gt_of_ne hij with h3 | h3
  ·exact key h3 hT hU h1 h2
  ·exact key h3 hU hT h2 h1
 intro env a w hs
 refine wp_region_any hmix ?_
 have hs0:SimS C env st a { w with drawn:=w.drawn+1 }:=hs.world (step_drawn w _)
 let DL:(Nat→Bool)→Nat→Prop:=fun L m=>m<st.nx∨∃ (i:Nat) (T:Tr),L i=true∧Ts[i]? = some T∧m ∈ T.nn
 -- the invariant
 have main:∀ (fuel:Nat) (listed:Array Bool) (env:Env) (a:Act) (w:World),listed.size=ops.size→Closed ops (fun i=>listed.getD i false) →
   ((List.range ops.size).filter fun i=>!(listed.getD i false)).length=fuel →
   Sim C env (run (fun i=>listed.getD i false) (Ts.map Tr.fw) 0 (lkp st.fr)) (run (fun i=>listed.getD i false) (Ts.map Tr.hw) 0 (lkp st.hp)) (DL fun i=>listed.getD i false) a w →
   wpAny P .any ops (fun e a' w'=>∃ st' env',Q e st'∧SimS C env' st' a' w') fuel listed a w:=by
  intro fuel
  induction fuel with
  | zero=>
   intro listed env a w hsz hclosed hcount hsim
   have hall:∀ i,i<ops.size→listed.getD i false=true:=by
    intro i hi
    have h1:=List.eq_nil_of_length_eq_zero hcount
    rw [List.filter_eq_nil_iff] at h1
    have h2:=h1 i (by simp [hi])
    simpa using h2
   refine ⟨?_,st1,env,hq,?_⟩
   ·rw [List.eq_nil_iff_forall_not_mem]
    intro i hi
    obtain ⟨h1,o,ho,_⟩:=mem_ready.1 hi
    have hlt:i<ops.size:=(Array.getElem?_eq_some_iff.1 ho).1
    have h2:=hall i hlt
    have h3:listed.getD i true=listed.getD i false:=by
     simp [Array.getD_eq_getD_getElem?,show i<listed.size by omega]
    rw [h3,h2] at h1
    cases h1
   ·have e1:run (fun i=>listed.getD i false) (Ts.map Tr.fw) 0 (lkp st.fr)=lkp st1.fr:=by
     rw [hfr]
     funext l
     refine run_agree _ _ _ _ (fun j W hW hne=>?_) rfl
     exfalso
     apply hne
     have:j<ops.size:=by
      have:=(List.getElem?_eq_some_iff.1 hW).1
      simpa [hsize] using this
     simp [hall j this]
    have e2:run (fun i=>listed.getD i false) (Ts.map Tr.hw) 0 (lkp st.hp)=lkp st1.hp:=by
     rw [hhp]
     funext l
     refine run_agree _ _ _ _ (fun j W hW hne=>?_) rfl
     exfalso
     apply hne
     have:j<ops.size:=by
      have:=(List.getElem?_eq_some_iff.1 hW).1
      simpa [hsize] using this
     simp [hall j this]
    rw [e1,e2] at hsim
    refine hsim.dom fun m hm=>?_
    rcases hm with hm | ⟨i,T,_,hT,hmT⟩
    ·exact Nat.lt_of_lt_of_le hm hnx
    ·exact (hn1' hT hmT).2
  | succ fuel ih=>
   intro listed env a w hsz hclosed hcount hsim
   constructor
   ·intro hnil
    exfalso
    -- the first that is not listed is ready
    have hne:((List.range ops.size).filter fun i=>!(listed.getD i false))≠[]:=by
     intro e
     rw [e] at hcount
     simp at hcount
    have hex:∃ i,i<ops.size∧listed.getD i false=false:=by
     obtain ⟨i,hi⟩:=List.exists_mem_of_ne_nil _ hne
     rw [List.mem_filter] at hi
     exact ⟨i,by simpa using hi.1,by simpa using hi.2⟩
    obtain ⟨i,⟨hi,hli⟩,hmin⟩:=exists_least hex
    have ho:ops[i]? = some ops[i]:=Array.getElem?_eq_getElem hi
    obtain ⟨_,h2⟩:=okMasks_at (j:=i) hm (by rw [Array.getElem?_toList];exact ho)
    rw [Nat.zero_add] at h2
    have:i ∈ Region.ready .any ops listed:=by
     refine mem_ready.2 ⟨?_,_,ho,fun e he hb=>?_⟩
     ·have h3:listed.getD i true=listed.getD i false:=by
       simp [Array.getD_eq_getD_getElem?,show i<listed.size by omega]
      rw [h3,hli]
     ·have hlt:=h2 e (by simpa using he) hb
      cases hle:listed.getD e.on false with
      | true=>rfl
      | false=>exact absurd (hmin e.on ⟨Nat.lt_trans hlt hi,hle⟩) (Nat.not_le.2 hlt)
    rw [hnil] at this
    simp at this
   ·intro i hi
    obtain ⟨hnl,o,ho,hedges⟩:=mem_ready.1 hi
    have hlt:i<ops.size:=(Array.getElem?_eq_some_iff.1 ho).1
    have hLi:listed.getD i false=false:=by
     have h3:listed.getD i true=listed.getD i false:=by
      simp [Array.getD_eq_getD_getElem?,show i<listed.size by omega]
     rw [← h3];exact hnl
    obtain ⟨T,hT⟩:∃ T,Ts[i]? = some T:=⟨Ts[i]'(by omega),List.getElem?_eq_getElem (by omega)⟩
    have hok:=htr i T hT
    rw [Nat.zero_add] at hok
    have hedges':∀ e ∈ o.after.toList,Region.binds .any e=true→listed.getD e.on false=true:=fun e he hb=>hedges e (by simpa using he) hb
    -- what must have come before has come;what must come behind has not
    have before:∀ {j:Nat} {U:Tr},j<i→Ts[j]? = some U→clash U.info T.info=true→listed.getD j false=true:=by
     intro j U hj hU hc
     have hb:=okClash_at hcl hj (hinfo hU) (hinfo hT) hc
     exact closed_bit hm hclosed i j hlt hb (.inr ⟨o,ho,hedges'⟩)
    have behind:∀ {j:Nat} {U:Tr},i<j→Ts[j]? = some U→clash T.info U.info=true→listed.getD j false=false:=by
     intro j U hj hU hc
     have hb:=okClash_at hcl hj (hinfo hT) (hinfo hU) hc
     cases hLj:listed.getD j false with
     | false=>rfl
     | true=>
      have hjs:j<ops.size:=by
       have:=(List.getElem?_eq_some_iff.1 hU).1
       omega
      have:=closed_bit hm hclosed j i hjs hb (.inl hLj)
      simp only [hLi] at this
      cases this
    have fwT:∀ {j:Nat} {W:List (Nat × Option V)},(Ts.map Tr.fw)[j]? = some W→∃ U,Ts[j]? = some U∧W=U.fw:=by
     intro j W hW
     rw [List.getElem?_map] at hW
     cases hU:Ts[j]? with
     | none=>simp [hU] at hW
     | some U=>simp [hU] at hW;exact ⟨U,rfl,hW.symm⟩
    have hwT:∀ {j:Nat} {W:List (Nat × Option Row)},(Ts.map Tr.hw)[j]? = some W→∃ U,Ts[j]? = some U∧W=U.hw:=by
     intro j W hW
     rw [List.getElem?_map] at hW
     cases hU:Ts[j]? with
     | none=>simp [hU] at hW
     | some U=>simp [hU] at hW;exact ⟨U,rfl,hW.symm⟩
    have tfw:∀ {U:Tr} {l:Nat},touch U.fw l→U.dst=some l:=by
     intro U l ht
     obtain ⟨p,hp,rfl⟩:=ht
     unfold Tr.fw at hp
     split at hp
     ·rename_i d hd
      rw [hd]
      simp at hp
      subst hp
      rfl
     ·simp at hp
    have thw:∀ {U:Tr} {l:Nat},touch U.hw l→l ∈ U.info.hw:=by
     intro U l ht
     obtain ⟨p,hp,rfl⟩:=ht
     exact List.mem_map.2 ⟨p,hp,rfl⟩
    refine hok C env _ _ _ a w rfl hsim ?_ ?_ ?_ ?_ _ _ ?_
    ·intro t ht
     refine run_agree _ _ _ _ (fun j W hW hne hto=>?_) rfl
     rw [Nat.zero_add] at hne
     obtain ⟨U,hU,rfl⟩:=fwT hW
     have hd:=tfw hto
     rcases Nat.lt_or_ge j i with hj | hj
     ·have:=before hj hU (by simp only [clash,Bool.or_eq_true];exact .inl (.inl (.inl (meet_of (x:=t) (by simp [Tr.info,hd]) (by simp [Tr.info,ht])))))
      simp [hj,this] at hne
     ·rcases Nat.eq_or_lt_of_le hj with rfl | hj
      ·simp [hLi] at hne
      ·have:=behind hj hU (by simp only [clash,Bool.or_eq_true];exact .inl (.inl (.inr (meet_of (x:=t) (by simp [Tr.info,hd]) (by simp [Tr.info,ht])))))
       simp [this,Nat.not_lt.2 (Nat.le_of_lt hj)] at hne
    ·intro n hn
     refine run_agree _ _ _ _ (fun j W hW hne hto=>?_) rfl
     rw [Nat.zero_add] at hne
     obtain ⟨U,hU,rfl⟩:=hwT hW
     have hd:=thw hto
     rcases Nat.lt_or_ge j i with hj | hj
     ·have:=before hj hU (by simp only [clash,Bool.or_eq_true];exact .inl (.inr (meet_of (x:=n) hd (by simp [Tr.info,hn]))))
      simp [hj,this] at hne
     ·rcases Nat.eq_or_lt_of_le hj with rfl | hj
      ·simp [hLi] at hne
      ·have:=behind hj hU (by simp only [clash,Bool.or_eq_true];exact .inr (meet_of (x:=n) hd (by simp [Tr.info,hn])))
       simp [this,Nat.not_lt.2 (Nat.le_of_lt hj)] at hne
    ·rintro n hn (h1 | ⟨j,U,hLj,hU,hnU⟩)
     ·exact absurd (hn1' hT hn).1 (Nat.not_le.2 h1)
     ·have:i≠j:=by
       rintro rfl
       simp only [hLi] at hLj
       cases hLj
      exact hn2' this hT hU hn hnU
    ·refine ⟨st1.nx,?_⟩
     rintro (h1 | ⟨j,U,hLj,hU,hnU⟩)
     ·exact absurd hnx (Nat.not_le.2 h1)
     ·exact absurd (hn1' hU hnU).2 (Nat.lt_irrefl _)
    ·intro env' a' w' hs'
     have hL':∀ j,(listed.setIfInBounds i true).getD j false=if j=i then true else listed.getD j false:=by
      intro j
      by_cases e:j=i
      ·subst e
       simp [Array.getD_eq_getD_getElem?,show j<listed.size by omega]
      ·rw [if_neg e,Array.getD_eq_getD_getElem?,Array.getElem?_setIfInBounds_ne (Ne.symm e),← Array.getD_eq_getD_getElem?]
     refine ih (listed.setIfInBounds i true) env' a' w' (by simpa using hsz) ?_ ?_ ?_
     ·intro j oj hoj hLj e he hb
      simp only [hL'] at hLj ⊢
      by_cases ej:j=i
      ·subst ej
       rw [ho] at hoj
       cases hoj
       have:=hedges' e he hb
       by_cases e2:e.on=j
       ·simp [e2]
       ·rw [if_neg e2];exact this
      ·rw [if_neg ej] at hLj
       have:=hclosed j oj hoj hLj e he hb
       by_cases e2:e.on=i
       ·simp [e2]
       ·rw [if_neg e2];exact this
     ·have:=filter_drop (List.nodup_range (n:=ops.size)) (i:=i) (by simp [hlt]) (p:=fun j=>!(listed.getD j false)) (q:=fun j=>!((listed.setIfInBounds i true).getD j false)) (by simp [hLi]) (by simp [hL']) (fun j hj=>by simp [hL',hj])
      omega
     ·have e1:run (fun j=>(listed.setIfInBounds i true).getD j false) (Ts.map Tr.fw) 0 (lkp st.fr)=wrt (run (fun j=>listed.getD j false) (Ts.map Tr.fw) 0 (lkp st.fr)) T.fw:=by
       funext l
       by_cases ht:touch T.fw l
       ·refine run_touch (i:=i) _ 0 _ _ T.fw (Nat.zero_le _) (by simp [hT]) (by simp [hL']) ht (fun j W hj _ hW hLj hto=>?_)
        rw [Nat.sub_zero] at hW
        obtain ⟨U,hU,rfl⟩:=fwT hW
        have h1:=tfw ht
        have h2:=tfw hto
        have:=behind hj hU (by simp only [clash,Bool.or_eq_true];exact .inl (.inl (.inl (meet_of (x:=l) (by simp [Tr.info,h1]) (by simp [Tr.info,h2])))))
        simp only [hL',if_neg (show j≠i by omega),this] at hLj
        cases hLj
       ·rw [wrt_untouch _ _ _ ht]
        refine run_agree _ _ _ _ (fun j W hW hne hto=>?_) rfl
        rw [Nat.zero_add] at hne
        by_cases ej:j=i
        ·subst ej
         obtain ⟨U,hU,rfl⟩:=fwT hW
         rw [hT] at hU
         cases hU
         exact ht hto
        ·simp [hL',ej] at hne
      have e2:run (fun j=>(listed.setIfInBounds i true).getD j false) (Ts.map Tr.hw) 0 (lkp st.hp)=wrt (run (fun j=>listed.getD j false) (Ts.map Tr.hw) 0 (lkp st.hp)) T.hw:=by
       funext l
       by_cases ht:touch T.hw l
       ·refine run_touch (i:=i) _ 0 _ _ T.hw (Nat.zero_le _) (by simp [hT]) (by simp [hL']) ht (fun j W hj _ hW hLj hto=>?_)
        rw [Nat.sub_zero] at hW
        obtain ⟨U,hU,rfl⟩:=hwT hW
        have h1:=thw ht
        have h2:=thw hto
        have:=behind hj hU (by simp only [clash,Bool.or_eq_true];exact .inl (.inr (meet_of (x:=l) h1 (by simp [h2]))))
        simp only [hL',if_neg (show j≠i by omega),this] at hLj
        cases hLj
       ·rw [wrt_untouch _ _ _ ht]
        refine run_agree _ _ _ _ (fun j W hW hne hto=>?_) rfl
        rw [Nat.zero_add] at hne
        by_cases ej:j=i
        ·subst ej
         obtain ⟨U,hU,rfl⟩:=hwT hW
         rw [hT] at hU
         cases hU
         exact ht hto
        ·simp [hL',ej] at hne
      rw [e1,e2]
      refine hs'.dom fun m hm=>?_
      rcases hm with (h1 | ⟨j,U,hLj,hU,hmU⟩) | h1
      ·exact .inl h1
      ·refine .inr ⟨j,U,?_,hU,hmU⟩
       simp only [hL']
       split
       ·rfl
       ·exact hLj
      ·exact .inr ⟨i,T,by simp [hL'],hT,h1⟩
 have hL0:(fun i=>(Array.replicate ops.size false).getD i false)=fun _=>false:=by
  funext i
  rw [Array.getD_eq_getD_getElem?]
  cases h:(Array.replicate ops.size false)[i]? with
  | none=>rfl
  | some b=>
   have:=Array.getElem?_eq_some_iff.1 h
   obtain ⟨_,h2⟩:=this
   simp at h2
   subst h2
   rfl
 refine main ops.size (Array.replicate ops.size false) env a _ (by simp) ?_ ?_ ?_
 ·intro j o ho hL
  have h0:(Array.replicate ops.size false).getD j false=false:=congrFun hL0 j
  have h1:(Array.replicate ops.size false).getD j false=true:=hL
  rw [h0] at h1
  cases h1
 ·have:((List.range ops.size).filter fun i=>!((Array.replicate ops.size false).getD i false))=List.range ops.size:=by
   rw [List.filter_eq_self]
   intro i hi
   have h0:(Array.replicate ops.size false).getD i false=false:=congrFun hL0 i
   rw [h0]
   rfl
  rw [this]
  simp
 ·rw [hL0,run_false,run_false]
  exact hs0.dom fun m hm=>.inl hm
theorem AX.dreg {P:Program} {C:Ctx} {st:St} {Q:Exit→St→Prop} (l:List Nat) (hmix:P.follows .mixedOrders=true) {id:Nat} {ops:Array Oper} {po:List PO} {fr0 fr:List (Nat × V)} {hp1:List (Nat × Row)} {nx1:Nat} (hp:prep ops=po) {Ts:List Tr} (h:RunD P C.N po st Ts ⟨fr0,hp1,nx1⟩) (hk:Keep l fr0 fr)
  (hok:okDraw ops (Ts.map Tr.info) st.nx nx1=true) (hq:Q .normal ⟨fr,hp1,nx1⟩):AX P C (.region id ops true) st Q:=by
 have h1:AX P C (.region id ops true) st (fun e s=>e=.normal∧s=⟨fr0,hp1,nx1⟩):=AX.drawn hmix hp h rfl hok ⟨rfl,rfl⟩
 intro env a w hs
 refine wp_mono (h1 env a w hs) ?_
 rintro e a' w' ⟨s,env',⟨rfl,rfl⟩,hs'⟩
 exact ⟨_,env',hq,simS_keep (st:=⟨fr0,hp1,nx1⟩) hk hs'⟩
theorem AX.sdreg {P:Program} {C:Ctx} {st:St} {Q:Exit→St→Prop} (l:List Nat) (hmix:P.follows .mixedOrders=true) {id:Nat} {ops:Array Oper} {po:List PO} {fr0 fr:List (Nat × V)} {hp1:List (Nat × Row)} {nx1:Nat} {y:Code} (hp:prep ops=po) {Ts:List Tr} (h:RunD P C.N po st Ts ⟨fr0,hp1,nx1⟩) (hk:Keep l fr0 fr)
  (hok:okDraw ops (Ts.map Tr.info) st.nx nx1=true) (hq:AX P C y ⟨fr,hp1,nx1⟩ Q):AX P C (.seq (.region id ops true) y) st Q:=AX.seq (AX.dreg l hmix hp h hk hok hq)
theorem run_eqAN {P:Program} {w:World} {t el:TypeId} (hu:P.underlying t=some (.slice el))(a:Option Addr)(m c:Nat):∃ b,(binOp .eql t (.slice a m c) (.slice none 0 0)).run P w=.ok (.bool b) w:=by
 have h:∃ b,(Op.equal t (.slice a m c) (.slice none 0 0)).run P w=.ok b w:=by
  cases a with
  | none=>refine ⟨true,?_⟩;rw [equal_unfold,Op.equalIn];simp only [Sem.run_bind,r_under hu,Result.andThen_ok];rfl
  | some a=>exact ⟨false,run_equalSN hu a m c⟩
 obtain ⟨b,hb⟩:=h
 refine ⟨b,?_⟩
 show (do pure (Value.bool (← Op.equal t (.slice a m c) (.slice none 0 0))):Sem Value).run P w=_
 simp only [Sem.run_bind,hb,Result.andThen_ok]
 rfl
theorem AX.isnil {P:Program} {C:Ctx} {st:St} {Q:Exit→St→Prop} {id:Nat} {o1 o2:Oper} {t0 t3 t4:Tmp} {xt yt e:TypeId} {y:Operand} (h1:o1.op=.move (.tmp t0)) (d1:o1.dst=some t3) (g1:o1.guard=none)
  (h2:o2.op=.binOp .eql xt (.tmp t3) y yt) (d2:o2.dst=some t4) (g2:o2.guard=none) (hy:∀ fr,valOf fr y=some .nl) (hu:P.underlying xt=some (.slice e)) (h0:lkp st.fr t0=some (.sl [])) (hN:t3<C.N∧t4<C.N)
  (hq:∀ b,Q .normal ⟨(t4,.b b) :: (t3,.sl []) :: st.fr,st.hp,st.nx⟩):AX P C (.region id #[o1,o2] false) st Q:=by
 intro env a w hs
 refine wp_region ?_
 have hr:List.range (#[o1,o2]:Array Oper).size=[0,1]:=rfl
 rw [hr,wpOps_cons]
 refine stepOp_sound (G:=noG) noG_ok (st':=⟨(t3,.sl []) :: st.fr,st.hp,st.nx⟩) hs (o:=o1) ?_ rfl ?_
 ·unfold stepOp guardOf
  rw [g1,h1,d1]
  simp [Op.operands,valsOf,valOf,h0,isCall,eff,effMove,Eff.runL,putSt,hN.1]
 ·intro env' a' w' hs'
  rw [wpOps_cons]
  unfold wpOp
  simp only [show (#[o1,o2]:Array Oper)[1]? = some o2 from rfl]
  have hw:Region.wanted o2 (yielded #[o1,o2] a'.tmps)=true:=by simp [Region.wanted,g2]
  rw [if_pos hw]
  refine .inl ?_
  have hx:Rep (Fd C env' (lkp st.hp)) w' env' (· < st.nx) (a'.eval (.tmp t3)) (.sl []):=valOf_sound hs' (x:=.tmp t3) (by simp [valOf,lkp])
  have hyy:Rep (Fd C env' (lkp st.hp)) w' env' (· < st.nx) (a'.eval y) .nl:=valOf_sound hs' (hy _)
  generalize hX:a'.eval (.tmp t3)=X at hx
  generalize hY:a'.eval y=Y at hyy
  have key:∃ b,(execOp a'.eval ⟨none,o2.op,o2.type, "", #[],none⟩).run P w'=.ok (.value (.bool b)) w':=by
   cases hyy with
   | nl=>
    cases hx with
    | sl0=>
     rename_i aa cap
     obtain ⟨b,hb⟩:=run_eqAN (P:=P) (w:=w') hu aa 0 cap
     refine ⟨b,?_⟩
     rw [h2]
     exact run_bin (by rw [hX];trivial) (by rw [hX,hY];exact hb)
    | sl y hne=>exact absurd rfl hne
  obtain ⟨b,hb⟩:=key
  refine wp_of_value hb (.inl rfl) ?_
  refine ⟨_,env',hq b,?_⟩
  rw [d2]
  exact putSt_sound (fr:=(t3,.sl []) :: st.fr) (hp:=st.hp) (nx:=st.nx) (by simp [putSt,hN.2]) hs' .b
theorem AX.own0 {P:Program} {C:Ctx} {st:St} {Q:Exit→St→Prop} (t:Tmp)(T:TypeId)(E:Nat) {c:Code} (h0:lkp st.fr t=some .nl)(h:AX P C c ⟨(t,.own st.nx 0 0 E) :: st.fr,(st.nx,⟨T,[]⟩) :: st.hp,st.nx+1⟩ Q):AX P C c st Q:=by
 intro env a w hs
 have h1:=hs.newVirtual (n:=st.nx) (Nat.lt_irrefl _) T
 have hnl:a.eval (.tmp t)=.slice none 0 0:=by
  have:=valOf_sound hs (x:=.tmp t) h0
  generalize a.eval (.tmp t)=X at this
  cases this with
  | nl=>rfl
 have hD:(fun m=>m<st.nx∨m=st.nx)=(· < st.nx+1):=by
  funext m
  simp only [eq_iff_iff]
  omega
 refine h (upd env st.nx none) a w ?_
 show Sim C (upd env st.nx none) (lkp ((t,.own st.nx 0 0 E) :: st.fr)) (lkp ((st.nx,⟨T,[]⟩) :: st.hp)) (· < st.nx+1) a w
 rw [lkp_cons,lkp_cons,← hD]
 refine ⟨h1.sz,h1.df,?_,h1.row,h1.old,h1.inj,h1.st,h1.ob,h1.gv⟩
 intro t' v hv
 by_cases e:t'=t
 ·subst e
  rw [upd_same] at hv
  cases hv
  have e2:=h1.tm t' .nl h0
  refine ⟨e2.1,?_⟩
  have:a.tmps.getD t' undef=.slice none 0 0:=hnl
  rw [this]
  exact .own0 (.inr rfl)
 ·rw [upd_ne _ _ e] at hv
  exact h1.tm t' v hv
def cutS (I:St→Prop) (Q:Exit→St→Prop):Exit→St→Prop
 | .normal,st=>I st
 | e,st=>Q e st
theorem AX.cutR {P:Program} {C:Ctx} {st:St} {Q:Exit→St→Prop} {x y:Code} (I:St→Prop)(h1:AX P C x st (cutS I Q))(h2:∀ st',I st'→AX P C y st' Q):AX P C (.seq x y) st Q:=by
 refine AX.seq (h1.mono fun e st' h=>?_)
 cases e with
 | normal=>exact h2 st' h
 | _=>exact h
theorem frz_fun {C:Ctx} {env:Env} {fr:Nat→Option V} {hp:Nat→Option Row} {D:Nat→Prop} {a:Act} {w:World} (hs:Sim C env fr hp D a w) {h off len E:Nat} {r:Row} (hr:hp h=some r) (hE:0<E) (hle:off+len*E≤r.cells.length)
  (hflat:((r.cells.drop off).take (len*E)).all V.flat=true) (hhf:V.hfL ((r.cells.drop off).take (len*E))=true) {x:Value} (hx:Rep (Fd C env hp) w env D x (.own h off len E)) :
  Rep (Fd C env (upd hp h none)) w env D x (.sl (chunks E len ((r.cells.drop off).take (len*E)))):=by
 cases hx with
 | own a1 a2 a3 a4 a5=>
  rename_i cap blk
  obtain ⟨c,hw,hl,hc⟩:=good_loadRow hs hr a2 (by obtain ⟨c,T,z,h,_⟩:=a5;exact ⟨c,T,z,h⟩)
  have hsome:(hp h).isSome=true:=by simp [hr]
  have hnF:¬ Fd C env (upd hp h none) blk:=by
   rintro (ho | ⟨m,hm,he⟩)
   ·exact (hs.old h blk hsome a2).1 ho
   ·by_cases e:m=h
    ·subst e;simp at hm
    ·rw [upd_ne _ _ e] at hm
     exact e (hs.inj m h blk hm hsome he a2)
  refine rep_chunks hw hnF hE (by simp;omega) (by omega) a3 a4 hflat fun k hk=>?_
  have hk':k<len*E:=by simp at hk;omega
  have e2:((r.cells.drop off).take (len*E)).getD k .junk=r.cells.getD (off+k) .junk:=by
   simp [List.getD_eq_getElem?_getD,List.getElem?_take,hk']
  have h3:=hfL_getD hhf k
  rw [e2] at h3 ⊢
  exact ((hc (off+k) (by omega)).hf h3).sub (fun b=>Fd.drop)
 | own0 a1=>
  have:chunks E 0 ((r.cells.drop 0).take (0*E))=[]:=by
   unfold chunks
   split<;>simp
  rw [this]
  exact .sl0
theorem RunD.mk {P:Program} {N:Nat} {o:PO} {l:List PO} {Ts:List Tr} {st st1 st2:St} {vs:List V} {r:Row} {mk:Nat→V} {off len E:Nat} {v:V} {T:Tr} (h0:isCall o.op=false) (h1:guardP st.fr o.g=some true) (h2:valsOf st.fr (opsOf o.op)=some vs) (h3:eff P o.op vs=some (.new r mk))
  (h4:mk st.nx=.own st.nx off len E) (hE:0<E) (hle:off+len*E≤r.cells.length) (hflat:((r.cells.drop off).take (len*E)).all V.flat=true) (hhf:V.hfL ((r.cells.drop off).take (len*E))=true) (hv:v=.sl (chunks E len ((r.cells.drop off).take (len*E))))
  (h5:putSt N o.dst v st.fr st.hp (st.nx+1)=some st1) (hT:T=⟨o.dst,slotsOf (opsOf o.op)++gSlot o.g,v,[],[],[st.nx]⟩) (h:RunD P N l st1 Ts st2):RunD P N (o :: l) st (T :: Ts) st2:=by
 have hdst:=putSt_dst h5
 subst hT
 refine RunD.tr (fun ops i o' hi ho=>?_) (by rw [hdst.2.1];rfl) (by rw [hdst.2.2.1];rfl) h
 subst ho
 intro C env fr hpf D a w hN hs hfr hhp hnn hex K Q hk
 subst hN
 unfold wpOp
 simp only [hi]
 rw [if_pos (guard_sim hs h1 (fun t ht=>hfr t (by simp [ht])))]
 refine .inl ?_
 obtain ⟨hl,hr⟩:=valsOf_sim hs h2 (fun t ht=>hfr t (by simp [ht]))
 rw [opsOf_eq] at hl hr
 have hn:¬ D st.nx:=hnn st.nx (by simp)
 obtain ⟨env',w',nx,x,g1,g2,g3,g4⟩:=good_eff (ty:=o'.type) h3 C env fr hpf D a w hs ⟨by simpa using hl,fun j hj=>by
  have:=hr j hj
  have e1:o'.op.operands.toList.getD j (.const undef)=o'.op.operands.getD j (.const undef):=by
   simp [List.getD_eq_getElem?_getD,Array.getD_eq_getD_getElem?]
  rw [e1] at this
  exact this⟩ st.nx hn (mk st.nx) (upd hpf st.nx (some r)) true rfl
 rw [h4] at g3
 have f1:=frz_fun g2 (upd_same _ _ _) hE hle hflat hhf g3
 have f2:=g2.drop st.nx
 have hnone:hpf st.nx=none:=by
  cases hh:hpf st.nx with
  | none=>rfl
  | some r'=>exact absurd (hs.row _ _ hh).1 hn
 have e3:upd (upd hpf st.nx (some r)) st.nx none=hpf:=by
  funext m
  by_cases e:m=st.nx
  ·subst e;rw [upd_same,hnone]
  ·rw [upd_ne _ _ e,upd_ne _ _ e]
 rw [e3] at f1 f2
 rw [← hv] at f1
 have e4:DD D st.nx true=fun k=>D k∨k ∈ [st.nx]:=by
  rw [dd_true]
  funext m
  simp
 rw [e4] at f1 f2
 exact wp_of_value g1 g4 (hk env' _ w' (put_sim (T:=⟨o'.dst,slotsOf (opsOf o'.op)++gSlot (match o'.guard with
  | none=>none
  | some (j,w)=>some (gslot ops j,w)),v,[],[],[st.nx]⟩) f2 hdst.1 f1))
def isMk:Op→Bool
 | .buildSlice _ _ _=>true
 | _=>false
def okFrz (off len E:Nat) (cs:List V):Bool:=decide (0<E) && decide (off+len*E≤cs.length) && ((cs.drop off).take (len*E)).all V.flat && V.hfL ((cs.drop off).take (len*E))
def slen:V→Nat
 | .sl els=>els.length
 | _=>0
theorem RunD.mkS {P:Program} {N:Nat} {o:PO} {l:List PO} {Ts:List Tr} {st st1 st2:St} {vs:List V} {r:Row} {mk:Nat→V} {off len E:Nat} {v:V} {T:Tr} (h0:isMk o.op=true) (h1:guardP st.fr o.g=some true) (h2:valsOf st.fr (opsOf o.op)=some vs) (h3:eff P o.op vs=some (.new r mk))
  (h4:mk st.nx=.own st.nx off len E) (hl:slen v=len) (hk:okFrz off len E r.cells=true) (hv:V.sl (chunks E len ((r.cells.drop off).take (len*E)))=v)
  (h5:putSt N o.dst v st.fr st.hp (st.nx+1)=some st1) (hT:T=⟨o.dst,slotsOf (opsOf o.op)++gSlot o.g,v,[],[],[st.nx]⟩) (h:RunD P N l st1 Ts st2):RunD P N (o :: l) st (T :: Ts) st2:=by
 unfold okFrz at hk
 simp only [Bool.and_eq_true,decide_eq_true_eq] at hk
 obtain ⟨⟨⟨hE,hle⟩,hflat⟩,hhf⟩:=hk
 refine RunD.mk ?_ h1 h2 h3 h4 hE hle hflat hhf hv.symm h5 hT h
 unfold isMk at h0
 split at h0
 ·rename_i h;rw [h];rfl
 ·cases h0
theorem cAdd {a b:Nat}:(a:Int)+(b:Int)=((a+b:Nat):Int):=(Int.natCast_add a b).symm
theorem cMul {a b:Nat}:(a:Int)*(b:Int)=((a*b:Nat):Int):=(Int.natCast_mul a b).symm
theorem AX.condT {P:Program} {C:Ctx} {st:St} {Q:Exit→St→Prop} {c:Operand} {x y:Code} (h:AX P C x st Q)(hc:valOf st.fr c=some (.b true):=by first | rfl | simp only [valOf,lkp,if_true,if_false,Nat.reduceEqDiff,reduceIte]):AX P C (.cond c x y) st Q:=AX.cond_true hc h
theorem AX.condF {P:Program} {C:Ctx} {st:St} {Q:Exit→St→Prop} {c:Operand} {x y:Code} (h:AX P C y st Q)(hc:valOf st.fr c=some (.b false):=by first | rfl | simp only [valOf,lkp,if_true,if_false,Nat.reduceEqDiff,reduceIte]):AX P C (.cond c x y) st Q:=AX.cond_false hc h
theorem AX.keepA (l:List Nat) {P:Program} {C:Ctx} {st:St} {Q:Exit→St→Prop} {fr:List (Nat × V)} {c:Code} (h:AX P C c ⟨fr,st.hp,st.nx⟩ Q)(hk:Keep l st.fr fr:=by repeat (first | exact Keep.nil | (apply Keep.take;· rfl) | (apply Keep.drop;· rfl))):AX P C c st Q:=AX.keep hk h
def Rg (P:Program) (N:Nat) (ops:Array Oper) (st st1:St):Prop:=∃ (po:List PO) (fr0:List (Nat × V)) (l:List Nat),prep ops=po∧RunO P N po st ⟨fr0,st1.hp,st1.nx⟩∧Keep l fr0 st1.fr
def RgD (P:Program) (N:Nat) (ops:Array Oper) (st st1:St):Prop:=∃ (po:List PO) (fr0:List (Nat × V)) (l:List Nat) (Ts:List Tr),P.follows .mixedOrders=true∧prep ops=po∧RunD P N po st Ts ⟨fr0,st1.hp,st1.nx⟩∧Keep l fr0 st1.fr∧okDraw ops (Ts.map Tr.info) st.nx st1.nx=true
section
variable {P:Program} {C:Ctx} {st st1:St} {Q:Exit→St→Prop} {id:Nat} {ops:Array Oper} {y:Code}
theorem AX.sR (h:Rg P C.N ops st st1)(hq:AX P C y st1 Q):AX P C (.seq (.region id ops false) y) st Q:=by
 obtain ⟨po,fr0,l,hp,h,hk⟩:=h
 exact AX.sreg l hp h hk hq
theorem AX.rR (h:Rg P C.N ops st st1)(hq:Q .normal st1):AX P C (.region id ops false) st Q:=by
 obtain ⟨po,fr0,l,hp,h,hk⟩:=h
 exact AX.reg l hp h hk hq
theorem AX.sD (h:RgD P C.N ops st st1)(hq:AX P C y st1 Q):AX P C (.seq (.region id ops true) y) st Q:=by
 obtain ⟨po,fr0,l,Ts,hm,hp,h,hk,ho⟩:=h
 exact AX.sdreg l hm hp h hk ho hq
theorem AX.rD (h:RgD P C.N ops st st1)(hq:Q .normal st1):AX P C (.region id ops true) st Q:=by
 obtain ⟨po,fr0,l,Ts,hm,hp,h,hk,ho⟩:=h
 exact AX.dreg l hm hp h hk ho hq
end
set_option maxHeartbeats 1000000
theorem oT:True:=True.intro
theorem aI {a b:Prop} (h:a)(g:b):a∧b:=And.intro h g
theorem rgA {P:Program} {N:Nat} {st:St} (l:List Nat) {ops:Array Oper} {po:List PO} {fr0 fr:List (Nat × V)} {hp1:List (Nat × Row)} {nx1:Nat} (hp:prep ops=po:=by simp only [pq];rfl)
  (h:RunO P N po st ⟨fr0,hp1,nx1⟩:=by
   repeat (first
   |(apply RunO.op rfl;· rfl
     ·rfl
     iterate 2 (· (simp (disch:=omega) only [go_sem,i64_of,u32_of,u64_of,Nat.reduceLT,Nat.reduceLeDiff,Nat.reduceEqDiff,Nat.reduceAdd,Nat.reduceSub,Nat.reduceMul,Nat.reducePow,Nat.reduceBEq,Int.reduceLE,Int.reduceLT,Int.reduceToNat,Int.reduceEq,Int.reduceNeg,↓reduceIte,reduceCtorEq];rfl))
     ·(simp only [pb,Nat.reduceLT,Nat.reduceAdd,reduceIte];rfl))
   |(apply RunO.skip;· rfl
     ·(simp only [pb,Nat.reduceLT,Nat.reduceAdd,reduceIte];rfl)))
   exact RunO.nil)
  (hk:Keep l fr0 fr:=by repeat (first | exact Keep.nil | (apply Keep.take;· rfl) | (apply Keep.drop;· rfl)))
  : Rg P N ops st ⟨fr,hp1,nx1⟩:=⟨po,fr0,l,hp,h,hk⟩
theorem rgDA {P:Program} {N:Nat} {st:St} (l:List Nat) (hmix:P.follows .mixedOrders=true:=by kernel_rfl) {ops:Array Oper} {po:List PO} {fr0 fr:List (Nat × V)} {hp1:List (Nat × Row)} {nx1:Nat} {Ts:List Tr} (hp:prep ops=po:=by simp only [pq];rfl)
  (h:RunD P N po st Ts ⟨fr0,hp1,nx1⟩:=by
   repeat (first
   |(apply RunD.op rfl;· rfl
     ·rfl
     iterate 2 (· (simp (disch:=omega) only [go_sem,i64_of,u32_of,u64_of,Nat.reduceLT,Nat.reduceLeDiff,Nat.reduceEqDiff,Nat.reduceAdd,Nat.reduceSub,Nat.reduceMul,Nat.reducePow,Nat.reduceBEq,Int.reduceLE,Int.reduceLT,Int.reduceToNat,Int.reduceEq,Int.reduceNeg,↓reduceIte,reduceCtorEq];rfl))
     ·(simp only [pb,Nat.reduceLT,Nat.reduceAdd,reduceIte];rfl)
     ·rfl)
   |(apply RunD.skip;· rfl
     ·(simp only [pb,Nat.reduceLT,Nat.reduceAdd,reduceIte];rfl)
     ·rfl))
   exact RunD.nil)
  (hk:Keep l fr0 fr:=by repeat (first | exact Keep.nil | (apply Keep.take;· rfl) | (apply Keep.drop;· rfl)))
  (hok:okDraw ops (Ts.map Tr.info) st.nx nx1=true:=by kernel_rfl)
  : RgD P N ops st ⟨fr,hp1,nx1⟩:=⟨po,fr0,l,Ts,hmix,hp,h,hk,hok⟩
theorem rgC {X:Prop} {P:Program} {N:Nat} {st:St} (l:List Nat) (x:X) {ops:Array Oper} {po:List PO} {fr0 fr:List (Nat × V)} {hp1:List (Nat × Row)} {nx1:Nat} (hp:prep ops=po:=by simp only [pq];rfl)
  (h:X→RunO P N po st ⟨fr0,hp1,nx1⟩:=by
   intro hx
   repeat (first
   |(apply RunO.op rfl;· rfl
     ·rfl
     iterate 2 (· (simp (disch:=omega) only [go_sem,i64_of,u32_of,u64_of,Nat.reduceLT,Nat.reduceLeDiff,Nat.reduceEqDiff,Nat.reduceAdd,Nat.reduceSub,Nat.reduceMul,Nat.reducePow,Nat.reduceBEq,Int.reduceLE,Int.reduceLT,Int.reduceToNat,Int.reduceEq,Int.reduceNeg,↓reduceIte,reduceCtorEq];rfl))
     ·(simp only [pb,Nat.reduceLT,Nat.reduceAdd,reduceIte];rfl))
   |(apply RunO.call rfl;· rfl
     ·rfl
     ·(simp (disch:=omega) only [go_sem,i64_of,u32_of,u64_of,Nat.reduceLT,Nat.reduceLeDiff,Nat.reduceEqDiff,Nat.reduceAdd,Nat.reduceSub,Nat.reduceMul,Nat.reducePow,Nat.reduceBEq,Int.reduceLE,Int.reduceLT,Int.reduceToNat,Int.reduceEq,Int.reduceNeg,↓reduceIte,reduceCtorEq];rfl)
     ·rfl
     ·((repeat (first | exact hx.1 | replace hx:=hx.2));done)
     ·(simp (disch:=omega) only [go_sem,i64_of,u32_of,u64_of,Nat.reduceLT,Nat.reduceLeDiff,Nat.reduceEqDiff,Nat.reduceAdd,Nat.reduceSub,Nat.reduceMul,Nat.reducePow,Nat.reduceBEq,Int.reduceLE,Int.reduceLT,Int.reduceToNat,Int.reduceEq,Int.reduceNeg,↓reduceIte,reduceCtorEq];rfl)
     ·(simp only [pb,Nat.reduceLT,Nat.reduceAdd,reduceIte];rfl))
   |(apply RunO.skip;· rfl
     ·(simp only [pb,Nat.reduceLT,Nat.reduceAdd,reduceIte];rfl)))
   exact RunO.nil)
  (hk:Keep l fr0 fr:=by repeat (first | exact Keep.nil | (apply Keep.take;· rfl) | (apply Keep.drop;· rfl)))
  : Rg P N ops st ⟨fr,hp1,nx1⟩:=⟨po,fr0,l,hp,h x,hk⟩
theorem rgW {W X:Prop} {P:Program} {N:Nat} {st:St} (l:List Nat) (w:W) (x:X) {ops:Array Oper} {po:List PO} {fr0 fr:List (Nat × V)} {hp1:List (Nat × Row)} {nx1:Nat} (hp:prep ops=po:=by simp only [pq];rfl)
  (h:W→X→RunO P N po st ⟨fr0,hp1,nx1⟩:=by
   intro hw hx
   repeat (first
   |(apply RunO.op rfl;· rfl
     ·rfl
     iterate 2 (· (simp (disch:=omega) only [go_sem,i64_of,u32_of,u64_of,Nat.reduceLT,Nat.reduceLeDiff,Nat.reduceEqDiff,Nat.reduceAdd,Nat.reduceSub,Nat.reduceMul,Nat.reducePow,Nat.reduceBEq,Int.reduceLE,Int.reduceLT,Int.reduceToNat,Int.reduceEq,Int.reduceNeg,↓reduceIte,reduceCtorEq,hw];rfl))
     ·(simp only [pb,Nat.reduceLT,Nat.reduceAdd,reduceIte];rfl))
   |(apply RunO.call rfl;· rfl
     ·rfl
     ·(simp (disch:=omega) only [go_sem,i64_of,u32_of,u64_of,Nat.reduceLT,Nat.reduceLeDiff,Nat.reduceEqDiff,Nat.reduceAdd,Nat.reduceSub,Nat.reduceMul,Nat.reducePow,Nat.reduceBEq,Int.reduceLE,Int.reduceLT,Int.reduceToNat,Int.reduceEq,Int.reduceNeg,↓reduceIte,reduceCtorEq,hw];rfl)
     ·rfl
     ·((repeat (first | exact hx.1 | replace hx:=hx.2));done)
     ·(simp (disch:=omega) only [go_sem,i64_of,u32_of,u64_of,Nat.reduceLT,Nat.reduceLeDiff,Nat.reduceEqDiff,Nat.reduceAdd,Nat.reduceSub,Nat.reduceMul,Nat.reducePow,Nat.reduceBEq,Int.reduceLE,Int.reduceLT,Int.reduceToNat,Int.reduceEq,Int.reduceNeg,↓reduceIte,reduceCtorEq,hw];rfl)
     ·(simp only [pb,Nat.reduceLT,Nat.reduceAdd,reduceIte];rfl))
   |(apply RunO.skip;· rfl
     ·(simp only [pb,Nat.reduceLT,Nat.reduceAdd,reduceIte];rfl)))
   exact RunO.nil)
  (hk:Keep l fr0 fr:=by repeat (first | exact Keep.nil | (apply Keep.take;· rfl) | (apply Keep.drop;· rfl)))
  : Rg P N ops st ⟨fr,hp1,nx1⟩:=⟨po,fr0,l,hp,h w x,hk⟩
theorem rgDW {W X:Prop} {P:Program} {N:Nat} {st:St} (l:List Nat) (w:W) (x:X) (hmix:P.follows .mixedOrders=true:=by kernel_rfl) {ops:Array Oper} {po:List PO} {fr0 fr:List (Nat × V)} {hp1:List (Nat × Row)} {nx1:Nat} {Ts:List Tr} (hp:prep ops=po:=by simp only [pq];rfl)
  (h:W→X→RunD P N po st Ts ⟨fr0,hp1,nx1⟩:=by
   intro hw hx
   repeat (first
   |(apply RunD.op rfl;· rfl
     ·rfl
     iterate 2 (· (simp (disch:=omega) only [go_sem,i64_of,u32_of,u64_of,Nat.reduceLT,Nat.reduceLeDiff,Nat.reduceEqDiff,Nat.reduceAdd,Nat.reduceSub,Nat.reduceMul,Nat.reducePow,Nat.reduceBEq,Int.reduceLE,Int.reduceLT,Int.reduceToNat,Int.reduceEq,Int.reduceNeg,↓reduceIte,reduceCtorEq,hw];rfl))
     ·(simp only [pb,Nat.reduceLT,Nat.reduceAdd,reduceIte];rfl)
     ·rfl)
   |(apply RunD.call rfl;· rfl
     ·rfl
     ·first | rfl | (simp only [List.cons_append,List.nil_append,V.hfL,V.hf,Bool.true_and];assumption)
     ·(first | (simp only [cnlL,cnl,List.append_nil,List.cons_append,List.nil_append];(repeat (first | exact hx.1 | replace hx:=hx.2));done) | ((repeat (first | exact hx.1 | replace hx:=hx.2));done))
     ·rfl
     ·(simp only [pb,Nat.reduceLT,Nat.reduceAdd,reduceIte];rfl)
     ·rfl)
   |(apply RunD.skip;· rfl
     ·(simp only [pb,Nat.reduceLT,Nat.reduceAdd,reduceIte];rfl)
     ·rfl))
   exact RunD.nil)
  (hk:Keep l fr0 fr:=by repeat (first | exact Keep.nil | (apply Keep.take;· rfl) | (apply Keep.drop;· rfl)))
  (hok:okDraw ops (Ts.map Tr.info) st.nx nx1=true:=by kernel_rfl)
  : RgD P N ops st ⟨fr,hp1,nx1⟩:=⟨po,fr0,l,Ts,hmix,hp,h w x,hk,hok⟩
theorem rgAV {P:Program} {N:Nat} {st:St} (l:List Nat) {ops:Array Oper} {po:List PO} {fr0 fr:List (Nat × V)} {hp1:List (Nat × Row)} {nx1:Nat} (hp:prep ops=po:=by simp only [pq];rfl)
  (h:RunO P N po st ⟨fr0,hp1,nx1⟩:=by
   repeat (first
   |(apply RunO.op rfl;· rfl
     ·(simp only [opsOf,valsOf,valOf,lkp,ofConst,ofCell,Array.toList,Option.toList,List.map_cons,List.map_nil,List.cons_append,List.nil_append,List.append_nil,Nat.reduceEqDiff,Nat.reducePow,Nat.reduceLT,Nat.reduceLeDiff,reduceIte,if_true,if_false,IntKind.min,IntKind.max,IntKind.bits,IntKind.signed,Int.reduceLE,Int.reduceNeg,Int.reducePow,Int.reduceSub,and_self,Bool.false_eq_true,Nat.reduceSub];rfl)
     iterate 2 (· (simp (disch:=omega) only [go_sem,i64_of,u32_of,u64_of,Nat.reduceLT,Nat.reduceLeDiff,Nat.reduceEqDiff,Nat.reduceAdd,Nat.reduceSub,Nat.reduceMul,Nat.reducePow,Nat.reduceBEq,Int.reduceLE,Int.reduceLT,Int.reduceToNat,Int.reduceEq,Int.reduceNeg,↓reduceIte,reduceCtorEq];rfl))
     ·(simp only [pb,Nat.reduceLT,Nat.reduceAdd,reduceIte];rfl))
   |(apply RunO.skip;· rfl
     ·(simp only [pb,Nat.reduceLT,Nat.reduceAdd,reduceIte];rfl)))
   exact RunO.nil)
  (hk:Keep l fr0 fr:=by repeat (first | exact Keep.nil | (apply Keep.take;· rfl) | (apply Keep.drop;· rfl)))
  : Rg P N ops st ⟨fr,hp1,nx1⟩:=⟨po,fr0,l,hp,h,hk⟩
theorem rgDAV {P:Program} {N:Nat} {st:St} (l:List Nat) (hmix:P.follows .mixedOrders=true:=by kernel_rfl) {ops:Array Oper} {po:List PO} {fr0 fr:List (Nat × V)} {hp1:List (Nat × Row)} {nx1:Nat} {Ts:List Tr} (hp:prep ops=po:=by simp only [pq];rfl)
  (h:RunD P N po st Ts ⟨fr0,hp1,nx1⟩:=by
   repeat (first
   |(apply RunD.op rfl;· rfl
     ·(simp only [opsOf,valsOf,valOf,lkp,ofConst,ofCell,Array.toList,Option.toList,List.map_cons,List.map_nil,List.cons_append,List.nil_append,List.append_nil,Nat.reduceEqDiff,Nat.reducePow,Nat.reduceLT,Nat.reduceLeDiff,reduceIte,if_true,if_false,IntKind.min,IntKind.max,IntKind.bits,IntKind.signed,Int.reduceLE,Int.reduceNeg,Int.reducePow,Int.reduceSub,and_self,Bool.false_eq_true,Nat.reduceSub];rfl)
     iterate 2 (· (simp (disch:=omega) only [go_sem,i64_of,u32_of,u64_of,Nat.reduceLT,Nat.reduceLeDiff,Nat.reduceEqDiff,Nat.reduceAdd,Nat.reduceSub,Nat.reduceMul,Nat.reducePow,Nat.reduceBEq,Int.reduceLE,Int.reduceLT,Int.reduceToNat,Int.reduceEq,Int.reduceNeg,↓reduceIte,reduceCtorEq];rfl))
     ·(simp only [pb,Nat.reduceLT,Nat.reduceAdd,reduceIte];rfl)
     ·rfl)
   |(apply RunD.skip;· rfl
     ·(simp only [pb,Nat.reduceLT,Nat.reduceAdd,reduceIte];rfl)
     ·rfl))
   exact RunD.nil)
  (hk:Keep l fr0 fr:=by repeat (first | exact Keep.nil | (apply Keep.take;· rfl) | (apply Keep.drop;· rfl)))
  (hok:okDraw ops (Ts.map Tr.info) st.nx nx1=true:=by kernel_rfl)
  : RgD P N ops st ⟨fr,hp1,nx1⟩:=⟨po,fr0,l,Ts,hmix,hp,h,hk,hok⟩
theorem rgCV {X:Prop} {P:Program} {N:Nat} {st:St} (l:List Nat) (x:X) {ops:Array Oper} {po:List PO} {fr0 fr:List (Nat × V)} {hp1:List (Nat × Row)} {nx1:Nat} (hp:prep ops=po:=by simp only [pq];rfl)
  (h:X→RunO P N po st ⟨fr0,hp1,nx1⟩:=by
   intro hx
   repeat (first
   |(apply RunO.op rfl;· rfl
     ·(simp only [opsOf,valsOf,valOf,lkp,ofConst,ofCell,Array.toList,Option.toList,List.map_cons,List.map_nil,List.cons_append,List.nil_append,List.append_nil,Nat.reduceEqDiff,Nat.reducePow,Nat.reduceLT,Nat.reduceLeDiff,reduceIte,if_true,if_false,IntKind.min,IntKind.max,IntKind.bits,IntKind.signed,Int.reduceLE,Int.reduceNeg,Int.reducePow,Int.reduceSub,and_self,Bool.false_eq_true,Nat.reduceSub];rfl)
     iterate 2 (· (simp (disch:=omega) only [go_sem,i64_of,u32_of,u64_of,Nat.reduceLT,Nat.reduceLeDiff,Nat.reduceEqDiff,Nat.reduceAdd,Nat.reduceSub,Nat.reduceMul,Nat.reducePow,Nat.reduceBEq,Int.reduceLE,Int.reduceLT,Int.reduceToNat,Int.reduceEq,Int.reduceNeg,↓reduceIte,reduceCtorEq];rfl))
     ·(simp only [pb,Nat.reduceLT,Nat.reduceAdd,reduceIte];rfl))
   |(apply RunO.call rfl;· rfl
     ·(simp only [opsOf,valsOf,valOf,lkp,ofConst,ofCell,Array.toList,Option.toList,List.map_cons,List.map_nil,List.cons_append,List.nil_append,List.append_nil,Nat.reduceEqDiff,Nat.reducePow,Nat.reduceLT,Nat.reduceLeDiff,reduceIte,if_true,if_false,IntKind.min,IntKind.max,IntKind.bits,IntKind.signed,Int.reduceLE,Int.reduceNeg,Int.reducePow,Int.reduceSub,and_self,Bool.false_eq_true,Nat.reduceSub];rfl)
     ·(simp (disch:=omega) only [go_sem,i64_of,u32_of,u64_of,Nat.reduceLT,Nat.reduceLeDiff,Nat.reduceEqDiff,Nat.reduceAdd,Nat.reduceSub,Nat.reduceMul,Nat.reducePow,Nat.reduceBEq,Int.reduceLE,Int.reduceLT,Int.reduceToNat,Int.reduceEq,Int.reduceNeg,↓reduceIte,reduceCtorEq];rfl)
     ·rfl
     ·((repeat (first | exact hx.1 | replace hx:=hx.2));done)
     ·(simp (disch:=omega) only [go_sem,i64_of,u32_of,u64_of,Nat.reduceLT,Nat.reduceLeDiff,Nat.reduceEqDiff,Nat.reduceAdd,Nat.reduceSub,Nat.reduceMul,Nat.reducePow,Nat.reduceBEq,Int.reduceLE,Int.reduceLT,Int.reduceToNat,Int.reduceEq,Int.reduceNeg,↓reduceIte,reduceCtorEq];rfl)
     ·(simp only [pb,Nat.reduceLT,Nat.reduceAdd,reduceIte];rfl))
   |(apply RunO.skip;· rfl
     ·(simp only [pb,Nat.reduceLT,Nat.reduceAdd,reduceIte];rfl)))
   exact RunO.nil)
  (hk:Keep l fr0 fr:=by repeat (first | exact Keep.nil | (apply Keep.take;· rfl) | (apply Keep.drop;· rfl)))
  : Rg P N ops st ⟨fr,hp1,nx1⟩:=⟨po,fr0,l,hp,h x,hk⟩
theorem rgDCV {X:Prop} {P:Program} {N:Nat} {st:St} (l:List Nat) (x:X) (hmix:P.follows .mixedOrders=true:=by kernel_rfl) {ops:Array Oper} {po:List PO} {fr0 fr:List (Nat × V)} {hp1:List (Nat × Row)} {nx1:Nat} {Ts:List Tr} (hp:prep ops=po:=by simp only [pq];rfl)
  (h:X→RunD P N po st Ts ⟨fr0,hp1,nx1⟩:=by
   intro hx
   repeat (first
   |(apply RunD.op rfl;· rfl
     ·(simp only [opsOf,valsOf,valOf,lkp,ofConst,ofCell,Array.toList,Option.toList,List.map_cons,List.map_nil,List.cons_append,List.nil_append,List.append_nil,Nat.reduceEqDiff,Nat.reducePow,Nat.reduceLT,Nat.reduceLeDiff,reduceIte,if_true,if_false,IntKind.min,IntKind.max,IntKind.bits,IntKind.signed,Int.reduceLE,Int.reduceNeg,Int.reducePow,Int.reduceSub,and_self,Bool.false_eq_true,Nat.reduceSub];rfl)
     iterate 2 (· (simp (disch:=omega) only [go_sem,i64_of,u32_of,u64_of,Nat.reduceLT,Nat.reduceLeDiff,Nat.reduceEqDiff,Nat.reduceAdd,Nat.reduceSub,Nat.reduceMul,Nat.reducePow,Nat.reduceBEq,Int.reduceLE,Int.reduceLT,Int.reduceToNat,Int.reduceEq,Int.reduceNeg,↓reduceIte,reduceCtorEq];rfl))
     ·(simp only [pb,Nat.reduceLT,Nat.reduceAdd,reduceIte];rfl)
     ·rfl)
   |(apply RunD.call rfl;· rfl
     ·(simp only [opsOf,valsOf,valOf,lkp,ofConst,ofCell,Array.toList,Option.toList,List.map_cons,List.map_nil,List.cons_append,List.nil_append,List.append_nil,Nat.reduceEqDiff,Nat.reducePow,Nat.reduceLT,Nat.reduceLeDiff,reduceIte,if_true,if_false,IntKind.min,IntKind.max,IntKind.bits,IntKind.signed,Int.reduceLE,Int.reduceNeg,Int.reducePow,Int.reduceSub,and_self,Bool.false_eq_true,Nat.reduceSub];rfl)
     ·first | rfl | (simp only [List.cons_append,List.nil_append,V.hfL,V.hf,Bool.true_and];assumption)
     ·(first | (simp only [cnlL,cnl,List.append_nil,List.cons_append,List.nil_append];(repeat (first | exact hx.1 | replace hx:=hx.2));done) | ((repeat (first | exact hx.1 | replace hx:=hx.2));done))
     ·rfl
     ·(simp only [pb,Nat.reduceLT,Nat.reduceAdd,reduceIte];rfl)
     ·rfl)
   |(apply RunD.skip;· rfl
     ·(simp only [pb,Nat.reduceLT,Nat.reduceAdd,reduceIte];rfl)
     ·rfl))
   exact RunD.nil)
  (hk:Keep l fr0 fr:=by repeat (first | exact Keep.nil | (apply Keep.take;· rfl) | (apply Keep.drop;· rfl)))
  (hok:okDraw ops (Ts.map Tr.info) st.nx nx1=true:=by kernel_rfl)
  : RgD P N ops st ⟨fr,hp1,nx1⟩:=⟨po,fr0,l,Ts,hmix,hp,h x,hk,hok⟩
theorem rgWV {W X:Prop} {P:Program} {N:Nat} {st:St} (l:List Nat) (w:W) (x:X) {ops:Array Oper} {po:List PO} {fr0 fr:List (Nat × V)} {hp1:List (Nat × Row)} {nx1:Nat} (hp:prep ops=po:=by simp only [pq];rfl)
  (h:W→X→RunO P N po st ⟨fr0,hp1,nx1⟩:=by
   intro hw hx
   repeat (first
   |(apply RunO.op rfl;· rfl
     ·(simp only [opsOf,valsOf,valOf,lkp,ofConst,ofCell,Array.toList,Option.toList,List.map_cons,List.map_nil,List.cons_append,List.nil_append,List.append_nil,Nat.reduceEqDiff,Nat.reducePow,Nat.reduceLT,Nat.reduceLeDiff,reduceIte,if_true,if_false,IntKind.min,IntKind.max,IntKind.bits,IntKind.signed,Int.reduceLE,Int.reduceNeg,Int.reducePow,Int.reduceSub,and_self,Bool.false_eq_true,Nat.reduceSub];rfl)
     iterate 2 (· (simp (disch:=omega) only [go_sem,i64_of,u32_of,u64_of,Nat.reduceLT,Nat.reduceLeDiff,Nat.reduceEqDiff,Nat.reduceAdd,Nat.reduceSub,Nat.reduceMul,Nat.reducePow,Nat.reduceBEq,Int.reduceLE,Int.reduceLT,Int.reduceToNat,Int.reduceEq,Int.reduceNeg,↓reduceIte,reduceCtorEq,hw];rfl))
     ·(simp only [pb,Nat.reduceLT,Nat.reduceAdd,reduceIte];rfl))
   |(apply RunO.call rfl;· rfl
     ·(simp only [opsOf,valsOf,valOf,lkp,ofConst,ofCell,Array.toList,Option.toList,List.map_cons,List.map_nil,List.cons_append,List.nil_append,List.append_nil,Nat.reduceEqDiff,Nat.reducePow,Nat.reduceLT,Nat.reduceLeDiff,reduceIte,if_true,if_false,IntKind.min,IntKind.max,IntKind.bits,IntKind.signed,Int.reduceLE,Int.reduceNeg,Int.reducePow,Int.reduceSub,and_self,Bool.false_eq_true,Nat.reduceSub];rfl)
     ·(simp (disch:=omega) only [go_sem,i64_of,u32_of,u64_of,Nat.reduceLT,Nat.reduceLeDiff,Nat.reduceEqDiff,Nat.reduceAdd,Nat.reduceSub,Nat.reduceMul,Nat.reducePow,Nat.reduceBEq,Int.reduceLE,Int.reduceLT,Int.reduceToNat,Int.reduceEq,Int.reduceNeg,↓reduceIte,reduceCtorEq,hw];rfl)
     ·rfl
     ·((repeat (first | exact hx.1 | replace hx:=hx.2));done)
     ·(simp (disch:=omega) only [go_sem,i64_of,u32_of,u64_of,Nat.reduceLT,Nat.reduceLeDiff,Nat.reduceEqDiff,Nat.reduceAdd,Nat.reduceSub,Nat.reduceMul,Nat.reducePow,Nat.reduceBEq,Int.reduceLE,Int.reduceLT,Int.reduceToNat,Int.reduceEq,Int.reduceNeg,↓reduceIte,reduceCtorEq,hw];rfl)
     ·(simp only [pb,Nat.reduceLT,Nat.reduceAdd,reduceIte];rfl))
   |(apply RunO.skip;· rfl
     ·(simp only [pb,Nat.reduceLT,Nat.reduceAdd,reduceIte];rfl)))
   exact RunO.nil)
  (hk:Keep l fr0 fr:=by repeat (first | exact Keep.nil | (apply Keep.take;· rfl) | (apply Keep.drop;· rfl)))
  : Rg P N ops st ⟨fr,hp1,nx1⟩:=⟨po,fr0,l,hp,h w x,hk⟩
theorem rgDWV {W X:Prop} {P:Program} {N:Nat} {st:St} (l:List Nat) (w:W) (x:X) (hmix:P.follows .mixedOrders=true:=by kernel_rfl) {ops:Array Oper} {po:List PO} {fr0 fr:List (Nat × V)} {hp1:List (Nat × Row)} {nx1:Nat} {Ts:List Tr} (hp:prep ops=po:=by simp only [pq];rfl)
  (h:W→X→RunD P N po st Ts ⟨fr0,hp1,nx1⟩:=by
   intro hw hx
   repeat (first
   |(apply RunD.op rfl;· rfl
     ·(simp only [opsOf,valsOf,valOf,lkp,ofConst,ofCell,Array.toList,Option.toList,List.map_cons,List.map_nil,List.cons_append,List.nil_append,List.append_nil,Nat.reduceEqDiff,Nat.reducePow,Nat.reduceLT,Nat.reduceLeDiff,reduceIte,if_true,if_false,IntKind.min,IntKind.max,IntKind.bits,IntKind.signed,Int.reduceLE,Int.reduceNeg,Int.reducePow,Int.reduceSub,and_self,Bool.false_eq_true,Nat.reduceSub];rfl)
     iterate 2 (· (simp (disch:=omega) only [go_sem,i64_of,u32_of,u64_of,Nat.reduceLT,Nat.reduceLeDiff,Nat.reduceEqDiff,Nat.reduceAdd,Nat.reduceSub,Nat.reduceMul,Nat.reducePow,Nat.reduceBEq,Int.reduceLE,Int.reduceLT,Int.reduceToNat,Int.reduceEq,Int.reduceNeg,↓reduceIte,reduceCtorEq,hw];rfl))
     ·(simp only [pb,Nat.reduceLT,Nat.reduceAdd,reduceIte];rfl)
     ·rfl)
   |(apply RunD.call rfl;· rfl
     ·(simp only [opsOf,valsOf,valOf,lkp,ofConst,ofCell,Array.toList,Option.toList,List.map_cons,List.map_nil,List.cons_append,List.nil_append,List.append_nil,Nat.reduceEqDiff,Nat.reducePow,Nat.reduceLT,Nat.reduceLeDiff,reduceIte,if_true,if_false,IntKind.min,IntKind.max,IntKind.bits,IntKind.signed,Int.reduceLE,Int.reduceNeg,Int.reducePow,Int.reduceSub,and_self,Bool.false_eq_true,Nat.reduceSub];rfl)
     ·first | rfl | (simp only [List.cons_append,List.nil_append,V.hfL,V.hf,Bool.true_and];assumption)
     ·(first | (simp only [cnlL,cnl,List.append_nil,List.cons_append,List.nil_append];(repeat (first | exact hx.1 | replace hx:=hx.2));done) | ((repeat (first | exact hx.1 | replace hx:=hx.2));done))
     ·rfl
     ·(simp only [pb,Nat.reduceLT,Nat.reduceAdd,reduceIte];rfl)
     ·rfl)
   |(apply RunD.skip;· rfl
     ·(simp only [pb,Nat.reduceLT,Nat.reduceAdd,reduceIte];rfl)
     ·rfl))
   exact RunD.nil)
  (hk:Keep l fr0 fr:=by repeat (first | exact Keep.nil | (apply Keep.take;· rfl) | (apply Keep.drop;· rfl)))
  (hok:okDraw ops (Ts.map Tr.info) st.nx nx1=true:=by kernel_rfl)
  : RgD P N ops st ⟨fr,hp1,nx1⟩:=⟨po,fr0,l,Ts,hmix,hp,h w x,hk,hok⟩
theorem rgEV {W X E:Prop} {P:Program} {N:Nat} {st:St} (l:List Nat) (w:W) (x:X) (e:E) {ops:Array Oper} {po:List PO} {fr0 fr:List (Nat × V)} {hp1:List (Nat × Row)} {nx1:Nat} (hp:prep ops=po:=by simp only [pq];rfl)
  (h:W→X→E→RunO P N po st ⟨fr0,hp1,nx1⟩:=by
   intro hw hx he
   repeat (first
   |(apply RunO.op rfl;· rfl
     ·(simp only [opsOf,valsOf,valOf,lkp,ofConst,ofCell,Array.toList,Option.toList,List.map_cons,List.map_nil,List.cons_append,List.nil_append,List.append_nil,Nat.reduceEqDiff,Nat.reducePow,Nat.reduceLT,Nat.reduceLeDiff,reduceIte,if_true,if_false,IntKind.min,IntKind.max,IntKind.bits,IntKind.signed,Int.reduceLE,Int.reduceNeg,Int.reducePow,Int.reduceSub,and_self,Bool.false_eq_true,Nat.reduceSub];rfl)
     ·first | exact he.1 _ _ | exact he.2.1 _ _ | exact he.2.2.1 _ _ | exact he.2.2.2.1 _ _ | exact he.2.2.2.2.1 _ _ | exact he.2.2.2.2.2.1 _ _ | (simp (disch:=omega) only [go_sem,i64_of,u32_of,u64_of,Nat.reduceLT,Nat.reduceLeDiff,Nat.reduceEqDiff,Nat.reduceAdd,Nat.reduceSub,Nat.reduceMul,Nat.reducePow,Nat.reduceBEq,Int.reduceLE,Int.reduceLT,Int.reduceToNat,Int.reduceEq,Int.reduceNeg,↓reduceIte,reduceCtorEq,hw];rfl)
     ·(simp (disch:=omega) only [go_sem,i64_of,u32_of,u64_of,Nat.reduceLT,Nat.reduceLeDiff,Nat.reduceEqDiff,Nat.reduceAdd,Nat.reduceSub,Nat.reduceMul,Nat.reducePow,Nat.reduceBEq,Int.reduceLE,Int.reduceLT,Int.reduceToNat,Int.reduceEq,Int.reduceNeg,↓reduceIte,reduceCtorEq,hw];rfl)
     ·(simp only [pb,Nat.reduceLT,Nat.reduceAdd,reduceIte];rfl))
   |(apply RunO.call rfl;· rfl
     ·(simp only [opsOf,valsOf,valOf,lkp,ofConst,ofCell,Array.toList,Option.toList,List.map_cons,List.map_nil,List.cons_append,List.nil_append,List.append_nil,Nat.reduceEqDiff,Nat.reducePow,Nat.reduceLT,Nat.reduceLeDiff,reduceIte,if_true,if_false,IntKind.min,IntKind.max,IntKind.bits,IntKind.signed,Int.reduceLE,Int.reduceNeg,Int.reducePow,Int.reduceSub,and_self,Bool.false_eq_true,Nat.reduceSub];rfl)
     ·(simp (disch:=omega) only [go_sem,i64_of,u32_of,u64_of,Nat.reduceLT,Nat.reduceLeDiff,Nat.reduceEqDiff,Nat.reduceAdd,Nat.reduceSub,Nat.reduceMul,Nat.reducePow,Nat.reduceBEq,Int.reduceLE,Int.reduceLT,Int.reduceToNat,Int.reduceEq,Int.reduceNeg,↓reduceIte,reduceCtorEq,hw];rfl)
     ·rfl
     ·((repeat (first | exact hx.1 | replace hx:=hx.2));done)
     ·(simp (disch:=omega) only [go_sem,i64_of,u32_of,u64_of,Nat.reduceLT,Nat.reduceLeDiff,Nat.reduceEqDiff,Nat.reduceAdd,Nat.reduceSub,Nat.reduceMul,Nat.reducePow,Nat.reduceBEq,Int.reduceLE,Int.reduceLT,Int.reduceToNat,Int.reduceEq,Int.reduceNeg,↓reduceIte,reduceCtorEq,hw];rfl)
     ·(simp only [pb,Nat.reduceLT,Nat.reduceAdd,reduceIte];rfl))
   |(apply RunO.skip;· rfl
     ·(simp only [pb,Nat.reduceLT,Nat.reduceAdd,reduceIte];rfl)))
   exact RunO.nil)
  (hk:Keep l fr0 fr:=by repeat (first | exact Keep.nil | (apply Keep.take;· rfl) | (apply Keep.drop;· rfl)))
  : Rg P N ops st ⟨fr,hp1,nx1⟩:=⟨po,fr0,l,hp,h w x e,hk⟩
theorem rgDEV {W X E:Prop} {P:Program} {N:Nat} {st:St} (l:List Nat) (w:W) (x:X) (e:E) (hmix:P.follows .mixedOrders=true:=by kernel_rfl) {ops:Array Oper} {po:List PO} {fr0 fr:List (Nat × V)} {hp1:List (Nat × Row)} {nx1:Nat} {Ts:List Tr} (hp:prep ops=po:=by simp only [pq];rfl)
  (h:W→X→E→RunD P N po st Ts ⟨fr0,hp1,nx1⟩:=by
   intro hw hx he
   repeat (first
   |(apply RunD.op rfl;· rfl
     ·(simp only [opsOf,valsOf,valOf,lkp,ofConst,ofCell,Array.toList,Option.toList,List.map_cons,List.map_nil,List.cons_append,List.nil_append,List.append_nil,Nat.reduceEqDiff,Nat.reducePow,Nat.reduceLT,Nat.reduceLeDiff,reduceIte,if_true,if_false,IntKind.min,IntKind.max,IntKind.bits,IntKind.signed,Int.reduceLE,Int.reduceNeg,Int.reducePow,Int.reduceSub,and_self,Bool.false_eq_true,Nat.reduceSub];rfl)
     ·first | exact he.1 _ _ | exact he.2.1 _ _ | exact he.2.2.1 _ _ | exact he.2.2.2.1 _ _ | exact he.2.2.2.2.1 _ _ | exact he.2.2.2.2.2.1 _ _ | (simp (disch:=omega) only [go_sem,i64_of,u32_of,u64_of,Nat.reduceLT,Nat.reduceLeDiff,Nat.reduceEqDiff,Nat.reduceAdd,Nat.reduceSub,Nat.reduceMul,Nat.reducePow,Nat.reduceBEq,Int.reduceLE,Int.reduceLT,Int.reduceToNat,Int.reduceEq,Int.reduceNeg,↓reduceIte,reduceCtorEq,hw];rfl)
     ·(simp (disch:=omega) only [go_sem,i64_of,u32_of,u64_of,Nat.reduceLT,Nat.reduceLeDiff,Nat.reduceEqDiff,Nat.reduceAdd,Nat.reduceSub,Nat.reduceMul,Nat.reducePow,Nat.reduceBEq,Int.reduceLE,Int.reduceLT,Int.reduceToNat,Int.reduceEq,Int.reduceNeg,↓reduceIte,reduceCtorEq,hw];rfl)
     ·(simp only [pb,Nat.reduceLT,Nat.reduceAdd,reduceIte];rfl)
     ·rfl)
   |(apply RunD.call rfl;· rfl
     ·(simp only [opsOf,valsOf,valOf,lkp,ofConst,ofCell,Array.toList,Option.toList,List.map_cons,List.map_nil,List.cons_append,List.nil_append,List.append_nil,Nat.reduceEqDiff,Nat.reducePow,Nat.reduceLT,Nat.reduceLeDiff,reduceIte,if_true,if_false,IntKind.min,IntKind.max,IntKind.bits,IntKind.signed,Int.reduceLE,Int.reduceNeg,Int.reducePow,Int.reduceSub,and_self,Bool.false_eq_true,Nat.reduceSub];rfl)
     ·first | rfl | (simp only [List.cons_append,List.nil_append,V.hfL,V.hf,Bool.true_and];assumption)
     ·(first | (simp only [cnlL,cnl,List.append_nil,List.cons_append,List.nil_append];(repeat (first | exact hx.1 | replace hx:=hx.2));done) | ((repeat (first | exact hx.1 | replace hx:=hx.2));done))
     ·rfl
     ·(simp only [pb,Nat.reduceLT,Nat.reduceAdd,reduceIte];rfl)
     ·rfl)
   |(apply RunD.skip;· rfl
     ·(simp only [pb,Nat.reduceLT,Nat.reduceAdd,reduceIte];rfl)
     ·rfl))
   exact RunD.nil)
  (hk:Keep l fr0 fr:=by repeat (first | exact Keep.nil | (apply Keep.take;· rfl) | (apply Keep.drop;· rfl)))
  (hok:okDraw ops (Ts.map Tr.info) st.nx nx1=true:=by kernel_rfl)
  : RgD P N ops st ⟨fr,hp1,nx1⟩:=⟨po,fr0,l,Ts,hmix,hp,h w x e,hk,hok⟩
end Go.Proofs.YteidabibgjokkaaGreatDoor.Lift
