import Derived.Test.YteidabibgjokkaaGreatDoorGB
set_option linter.all false
namespace Go.Proofs.YteidabibgjokkaaGreatDoor.Lift
open Go
def Stab (Φ:World→Prop):Prop:=∀ w w',Φ w→Step (fun _=>False) w w'→Φ w'
def PCallT (Φ:World→Prop) (P:Program) (f:FuncId) (args:List V) (r:V):Prop:=
 (∀ xs w,(callFunc f xs).run P w=.ok (.enter f xs) w) ∧
 ∀ (O:Nat→Prop) (w:World) (xs:Array Value),Φ w→(∀ b,O b→b<w.heap.size)→xs.size=args.length→(∀ k,k<args.length→Rep O w (fun _=>none) (fun _=>False) (xs.getD k undef) (args.getD k .junk)) →
  Calls P f xs w (fun e w'=>∃ x,e=.returned x∧Came O w w' x r [])
theorem PCall.toT {Φ:World→Prop} {P:Program} {f:FuncId} {args:List V} {r:V} (h:PCall P f args r []):PCallT Φ P f args r:=⟨h.1,fun O w xs _=>h.2 O w xs⟩
theorem PCallT.of_ax {Φ:World→Prop} {P:Program} {f:FuncId} {fn:Func} {c:Code} {args:List V} {r:V} (hcf:∀ xs w,(callFunc f xs).run P w=.ok (.enter f xs) w) (hf:P.funcs[f]? = some fn) (hb:fn.body=some c) (hN:args.length≤fn.ntmps)
  (h:∀ (O:Nat→Prop) (w:World),Φ w→AX P ⟨fn.ntmps,O,fun _=>False,w,0,fun _=>none⟩ c ⟨argFr 0 args,[],0⟩ (fun e st=>(e=.ret∨e=.normal)∧Done P fn.results r [] st)):PCallT Φ P f args r:=by
 refine ⟨hcf,fun O w xs hΦ hO hsz hr=>?_⟩
 refine calls_of_wp hf hb ?_
 have hFd0:∀ b,Fd ⟨fn.ntmps,O,fun _=>False,w,0,fun _=>none⟩ (fun _=>none) (lkp []) b→O b:=by
  rintro b (ho | ⟨m,hm,_⟩)
  ·exact ho
  ·simp [lkp] at hm
 have hs0:SimS ⟨fn.ntmps,O,fun _=>False,w,0,fun _=>none⟩ (fun _=>none) ⟨argFr 0 args,[],0⟩ { tmps:=xs++Array.replicate (fn.ntmps-xs.size) undef,defers:=[] } w:={
  sz:=by simp;omega
  df:=rfl
  tm:=by
   intro t v ht
   obtain ⟨h1,h2,h3⟩:=argFr_look args 0 t v ht
   refine ⟨by show t<fn.ntmps;omega,?_⟩
   subst h3
   have e:(xs++Array.replicate (fn.ntmps-xs.size) undef).getD t undef=xs.getD t undef:=by
    rw [Array.getD_eq_getD_getElem?,Array.getElem?_append_left (by omega),Array.getD_eq_getD_getElem?]
   rw [e]
   exact ((hr t (by omega)).mono (fun b _ hF=>⟨fun h=>hF (hFd0 b h),rfl⟩) (fun _ c _ _ h=>⟨c,rfl,h⟩) (Nat.le_refl _) (fun _ hD=>hD.elim))
  row:=fun m q hq=>by simp [lkp] at hq
  old:=fun m b hm=>by simp [lkp] at hm
  inj:=fun m m' b hm=>by simp [lkp] at hm
  st:=Step.refl _ _
  ob:=fun b hb=>⟨hO b hb,fun f=>f⟩
  gv:=fun n hn=>absurd hn (Nat.not_lt_zero n) }
 refine wp_mono (h O w hΦ _ _ _ hs0) ?_
 rintro e a' w' ⟨st',env',⟨he,vs,hvs,keep,g,v,hp,hfz,rfl,hlt,hrows,hginj⟩,hs'⟩
 obtain ⟨x,hx,hxr⟩:=results_sound hs' hvs
 obtain ⟨s2,f2,r2⟩:=frz_sound keep (packV vs) st'.hp hfz hs'
 have hfin:a'.defers=[]∧∃ v,(results fn a'.tmps).run P w'=.ok v w'∧∃ x,Ending.returned v=.returned x∧Came O w w' x r []:=by
  refine ⟨hs'.df,x,hx,x,rfl,hs'.st,fun m=>env' (g m),?_⟩
  have hgl:∀ m,m<([]:List Row).length→(lkp hp (g m)).isSome=true:=by
   intro m hm
   obtain ⟨h1,_⟩:=hrows m _ (List.getElem?_eq_getElem hm)
   rw [h1];rfl
  have hF:∀ b,PFd O [] (fun m=>env' (g m)) b→Fd ⟨fn.ntmps,O,fun _=>False,w,0,fun _=>none⟩ env' (lkp hp) b:=by
   rintro b (ho | ⟨m,hm,he⟩)
   ·exact .inl ho
   ·exact .inr ⟨g m,hgl m hm,he⟩
  refine ⟨?_,?_,?_,?_⟩
  ·intro m q hq
   obtain ⟨h1,h2⟩:=hrows m q hq
   rcases (s2.row _ _ h1).2 with ⟨blk,c,he,hw,hl,hc⟩ | ⟨he,hv⟩ | ⟨blk,he,ht⟩
   ·simp only [Row.ren,renL_length] at hl hc
    refine .inl ⟨blk,c,he,hw,hl,fun k hk=>?_⟩
    have:=hc k hk
    rw [renL_getD] at this
    exact (this.unren rfl (ltL_getD h2 k)).sub hF
   ·refine .inr (.inl ⟨he,?_⟩)
    have:=congrArg List.length hv
    simp only [Row.ren,renL_length] at this
    exact List.eq_nil_of_length_eq_zero this
   ·obtain ⟨es,cl,ks,t1,t2,t3⟩:=ht
    refine .inr (.inr ⟨blk,he,es,cl,ks,t1,?_,t3⟩)
    simp only [Row.ren] at t2
    exact renL_tab t2
  ·intro m b hm he
   rcases (s2.old (g m) b (hgl m hm) he).2 with h3 | h3
   ·exact h3
   ·exact h3.elim
  ·intro m m' b hm hm' he he'
   exact hginj m m' hm hm' (s2.inj (g m) (g m') b (hgl m hm) (hgl m' hm') he he')
  ·exact ((r2 x hxr).unren rfl hlt).sub hF
 rcases he with rfl | rfl<;>exact hfin
theorem callT_sound {Φ:World→Prop} {P:Program} {C:Ctx} {env:Env} {st:St} {a:Act} {w:World} (hs:SimS C env st a w) {o:Oper} {c:Call} {g:Operand} (ho:o.op=.call c) (hcal:c.callee=.value g)
  {f:FuncId} {args:List V} (hv:valsOf st.fr o.op.operands.toList=some (.fn f [] :: args)) (hhf:V.hfL args=true) {r:V} (hc:PCallT Φ P f args r) (hΦ:Φ w) {K:Act→World→Prop} {Q:Exit→Act→World→Prop}
  (hk:∀ env' x w',Sim C env' (lkp st.fr) (lkp st.hp) (· < st.nx) a w'→Rep (Fd C env' (lkp st.hp)) w' env' (· < st.nx) x (r.ren (st.nx+·))→K (a.put o.dst x) w'):o.wp P a w K Q:=by
 obtain ⟨hl,hr⟩:=valsOf_sound hs hv
 rw [ho] at hl hr
 obtain ⟨hcf,hcalls⟩:=hc
 have hops:(Op.call c).operands.toList=g :: c.args.toList:=by simp [Op.operands,Call.operands,hcal]
 rw [hops] at hl hr
 have hg0:Rep _ w env _ (a.eval g) (.fn f []):=hr 0 (by simp)
 generalize hgv:a.eval g=gv at hg0
 cases hg0 with
 | fn hsz hcr=>
  rename_i xcaps
  have hrun:(execOp a.eval o).run P w=.ok (.enter f (c.args.map a.eval++xcaps)) w:=by
   unfold execOp
   rw [ho]
   simp only [Sem.run_bind]
   have h1:(resolve a.eval c o.type).run P w=.ok { target:=.fn (.func f) xcaps,args:=c.args.map a.eval } w:=by
    unfold resolve
    simp only [hcal,hgv,Deferred.ofValue,Array.empty_append]
    rfl
   rw [h1]
   simp only [Result.andThen_ok,invoke]
   exact hcf _ _
  unfold Oper.wp
  rw [hrun,Oper.upon_enter]
  have hlen:args.length=c.args.size:=by simpa using hl
  have hsz2:(c.args.map a.eval++xcaps).size=args.length:=by simp [hlen,hsz]
  have hrep:∀ k,k<args.length→Rep (Fd C env (lkp st.hp)) w env (· < st.nx) ((c.args.map a.eval++xcaps).getD k undef) (args.getD k .junk):=by
   intro k hk
   have h1:=hr (k+1) (by simp;omega)
   simp only [List.getD_cons_succ] at h1
   have e1:(c.args.map a.eval++xcaps).getD k undef=a.eval (c.args.toList.getD k (.const undef)):=by
    rw [Array.getD_eq_getD_getElem?,Array.getElem?_append_left (by simp;omega)]
    simp [List.getD_eq_getElem?_getD,show k<c.args.size by omega]
   rw [e1]
   exact h1
  refine (hcalls (Fd C env (lkp st.hp)) w (c.args.map a.eval++xcaps) hΦ (fun b hb=>hs.fd_lt hb) hsz2 (fun k hk=>(hrep k hk).hf (hfL_getD hhf k))).mono ?_
  rintro e w' ⟨x,rfl,hcame⟩
  show K (a.put o.dst x) w'
  obtain ⟨env',hs2,hr3⟩:=Sim.join hs hcame (n:=st.nx) (fun j hj=>by simp)
  have e1:(fun m=>if st.nx≤m∧m<st.nx+([]:List Row).length then (([]:List Row)[m-st.nx]?).map (Row.ren (st.nx+·)) else lkp st.hp m)=lkp st.hp:=by
   funext m
   rw [if_neg (by simp)]
  have e2:(fun m=>m<st.nx∨(st.nx≤m∧m<st.nx+([]:List Row).length))=(· < st.nx):=by
   funext m
   simp only [eq_iff_iff,List.length_nil]
   omega
  rw [e1,e2] at hs2 hr3
  exact hk env' x w' hs2 hr3
inductive RunS (P:Program) (C:Ctx):List PO→St→St→Prop
 | nil {st:St}:RunS P C [] st st
 | one {o:PO} {l:List PO} {st st1 st2:St}:RunO P C.N [o] st st1→RunS P C l st1 st2→RunS P C (o :: l) st st2
 | callT {Φ:World→Prop} {o:PO} {l:List PO} {st st1 st2:St} {f:FuncId} {args:List V} {r v:V}:isCall o.op=true→guardP st.fr o.g=some true→valsOf st.fr (opsOf o.op)=some (.fn f [] :: args)→V.hfL args=true→PCallT Φ P f args r→Φ C.w0→Stab Φ→(∀ b,¬ C.M b)→r.ren (st.nx+·)=v →
   putSt C.N o.dst v st.fr st.hp st.nx=some st1→RunS P C l st1 st2→RunS P C (o :: l) st st2
theorem RunS.op {P:Program} {C:Ctx} {o:PO} {l:List PO} {st st1 st2:St} {vs:List V} {e:Eff} {v:V} {hp:List (Nat × Row)} {u:Bool} (h1:isCall o.op=false) (h2:guardP st.fr o.g=some true) (h3:valsOf st.fr (opsOf o.op)=some vs) (h4:eff P o.op vs=some e) (h5:e.runL st.nx st.hp=some (v,hp,u))
  (h6:putSt C.N o.dst v st.fr hp (if u=true then st.nx+1 else st.nx)=some st1) (h:RunS P C l st1 st2):RunS P C (o :: l) st st2:=.one (.op h1 h2 h3 h4 h5 h6 .nil) h
theorem RunS.call {P:Program} {C:Ctx} {o:PO} {l:List PO} {st st1 st2:St} {f:FuncId} {caps args args':List V} {hp1:List (Nat × Row)} {r v:V} {rows:List Row} {hp:List (Nat × Row)} {nx:Nat} (h1:isCall o.op=true) (h2:guardP st.fr o.g=some true) (h3:valsOf st.fr (opsOf o.op)=some (.fn f caps :: args)) (h4:frzL [] (args++caps) st.hp=some (args',hp1)) (h5:V.hfL args'=true) (h6:PCall P f args' r rows)
  (h7:landS r rows st.hp hp1 st.nx=(v,hp,nx)) (h8:putSt C.N o.dst v st.fr hp nx=some st1) (h:RunS P C l st1 st2):RunS P C (o :: l) st st2:=.one (.call h1 h2 h3 h4 h5 h6 h7 h8 .nil) h
theorem RunS.skip {P:Program} {C:Ctx} {o:PO} {l:List PO} {st st1 st2:St} (h1:guardP st.fr o.g=some false)(h2:putSt C.N o.dst (.tup []) st.fr st.hp st.nx=some st1)(h:RunS P C l st1 st2):RunS P C (o :: l) st st2:=.one (.skip h1 h2 .nil) h
theorem RunS.spec {P:Program} {C:Ctx} {ops:Array Oper} {Q:Exit→Act→World→Prop}:∀ (l:List Oper) (i:Nat) (st st':St),ops.toList.drop i=l→RunS P C (prepL ops l) st st'→∀ (env:Env) (a:Act) (w:World),SimS C env st a w →
  (∀ env' a' w',SimS C env' st' a' w'→Q .normal a' w')→wpOps P ops Q (List.range' i l.length) a w:=by
 intro l
 induction l with
 | nil=>
  intro i st st' hd h env a w hs hk
  cases h
  exact hk env a w hs
 | cons o l ih=>
  intro i st st' hd h env a w hs hk
  have hi:ops[i]? = some o:=by
   have:(ops.toList.drop i)[0]? = some o:=by rw [hd];rfl
   simpa using this
  have hd':ops.toList.drop (i+1)=l:=by
   rw [← List.drop_drop,hd]
   rfl
  rw [List.length_cons,List.range'_succ,wpOps_cons]
  simp only [prepL] at h
  cases h with
  | one h1 h2=>exact RunO.one h1 hi rfl hs fun env' a' w' hs'=>ih (i+1) _ st' hd' h2 env' a' w' hs' hk
  | callT c0 c1 c2 c3 c4 hΦ hst hM c5 c6 h2=>
   subst c5
   have hΦ':=hst _ _ hΦ ⟨hs.st.size,hs.st.os,hs.st.tape,hs.st.output,fun b hb _=>hs.st.keep b hb (hM b),hs.st.shape⟩
   unfold wpOp
   simp only [hi]
   have hw:=guard_sound hs ((guardP_eq ops C.N _ o).trans c1)
   rw [if_pos hw]
   refine .inl ?_
   simp only [opsOf_eq] at c2
   cases hop:o.op with
   | call c=>
    rw [hop] at c0
    simp only [isCall] at c0
    split at c0
    ·rename_i g hcal
     exact callT_sound hs hop hcal c2 c3 c4 hΦ' fun env2 x w2 hs2 hr2=>ih (i+1) _ st' hd' h2 env2 _ w2 (putSt_sound c6 hs2 hr2) hk
    ·cases c0
   | _=>rw [hop] at c0;simp [isCall] at c0
theorem AX.regS {P:Program} {C:Ctx} {st:St} {Q:Exit→St→Prop} (l:List Nat) {id:Nat} {ops:Array Oper} {po:List PO} {fr0 fr:List (Nat × V)} {hp1:List (Nat × Row)} {nx1:Nat} (hp:prep ops=po) (h:RunS P C po st ⟨fr0,hp1,nx1⟩) (hk:Keep l fr0 fr) (hq:Q .normal ⟨fr,hp1,nx1⟩) :
  AX P C (.region id ops false) st Q:=by
 subst hp
 intro env a w hs
 refine wp_region ?_
 have:=RunS.spec (C:=C) (Q:=fun e a' w'=>∃ st' env',Q e st'∧SimS C env' st' a' w') ops.toList 0 st _ (by simp) h env a w hs (fun env' a' w' hs'=>⟨_,env',hq,simS_keep (st:=⟨fr0,hp1,nx1⟩) hk hs'⟩)
 rwa [Array.length_toList,← List.range_eq_range'] at this
theorem AX.sregS {P:Program} {C:Ctx} {st:St} {Q:Exit→St→Prop} (l:List Nat) {id:Nat} {ops:Array Oper} {po:List PO} {fr0 fr:List (Nat × V)} {hp1:List (Nat × Row)} {nx1:Nat} {y:Code} (hp:prep ops=po) (h:RunS P C po st ⟨fr0,hp1,nx1⟩) (hk:Keep l fr0 fr) (hq:AX P C y ⟨fr,hp1,nx1⟩ Q) :
  AX P C (.seq (.region id ops false) y) st Q:=AX.seq (AX.regS l hp h hk hq)
def TrOkC (P:Program) (C:Ctx) (ops:Array Oper) (i:Nat) (T:Tr) (fr0:Nat→Option V) (hp0:Nat→Option Row):Prop:=
 ∀ (env:Env) (fr:Nat→Option V) (hp:Nat→Option Row) (D:Nat→Prop) (a:Act) (w:World),Sim C env fr hp D a w→(∀ t ∈ T.rs,fr t=fr0 t)→(∀ h ∈ T.hr,hp h=hp0 h)→(∀ n ∈ T.nn,¬ D n)→(∃ m,¬ D m) →
  ∀ (K:Act→World→Prop) (Q:Exit→Act→World→Prop),(∀ env' a' w',Sim C env' (wrt fr T.fw) (wrt hp T.hw) (fun m=>D m∨m ∈ T.nn) a' w'→K a' w')→wpOp P ops Q i K a w
theorem TrOk.toC {P:Program} {C:Ctx} {ops:Array Oper} {i:Nat} {T:Tr} {fr0:Nat→Option V} {hp0:Nat→Option Row} (h:TrOk P ops C.N i T fr0 hp0):TrOkC P C ops i T fr0 hp0:=fun env fr hp D a w hs=>h C env fr hp D a w rfl hs
theorem TrOkC.call {Φ:World→Prop} {P:Program} {C:Ctx} {ops:Array Oper} {i:Nat} {o:Oper} (hi:ops[i]? = some o) {st st1:St} {f:FuncId} {caps args:List V} {v:V} (h0:isCall o.op=true) (h1:guardP st.fr (match o.guard with
  | none=>none
  | some (j,w)=>some (gslot ops j,w))=some true) (h2:valsOf st.fr (opsOf o.op)=some (.fn f caps :: args)) (h3:V.hfL (args++caps)=true) (h4:PCallT Φ P f (cnlL (args++caps)) v) (hΦ:Φ C.w0) (hst:Stab Φ) (hM:∀ b,¬ C.M b) (hv:V.hf v=true) (h5:putSt C.N o.dst v st.fr st.hp st.nx=some st1) :
  TrOkC P C ops i ⟨o.dst,slotsOf (opsOf o.op)++gSlot (match o.guard with
  | none=>none
  | some (j,w)=>some (gslot ops j,w)),v,[],[],[]⟩ (lkp st.fr) (lkp st.hp):=by
 intro env fr hpf D a w hs hfr hhp hnn hex K Q hk
 have hΦ':Φ w:=hst _ _ hΦ ⟨hs.st.size,hs.st.os,hs.st.tape,hs.st.output,fun b hb _=>hs.st.keep b hb (hM b),hs.st.shape⟩
 unfold wpOp
 simp only [hi]
 rw [if_pos (guard_sim hs h1 (fun t ht=>hfr t (List.mem_append_right _ ht)))]
 refine .inl ?_
 obtain ⟨hl,hr⟩:=valsOf_sim hs h2 (fun t ht=>hfr t (List.mem_append_left _ ht))
 rw [opsOf_eq] at hl hr
 have hdst:=(putSt_dst h5).1
 obtain ⟨hcf,hcalls⟩:=h4
 cases hop:o.op with
 | call c=>
  rw [hop] at h0 hl hr
  simp only [isCall] at h0
  split at h0
  ·rename_i g hcal
   have hops:(Op.call c).operands.toList=g :: c.args.toList:=by simp [Op.operands,Call.operands,hcal]
   rw [hops] at hl hr
   have hg0:Rep _ w env _ (a.eval g) (.fn f caps):=hr 0 (by simp)
   generalize hgv:a.eval g=gv at hg0
   cases hg0 with
   | fn hsz hcr=>
    rename_i xcaps
    have hrun:(execOp a.eval o).run P w=.ok (.enter f (c.args.map a.eval++xcaps)) w:=by
     unfold execOp
     rw [hop]
     simp only [Sem.run_bind]
     have h1:(resolve a.eval c o.type).run P w=.ok { target:=.fn (.func f) xcaps,args:=c.args.map a.eval } w:=by
      unfold resolve
      simp only [hcal,hgv,Deferred.ofValue,Array.empty_append]
      rfl
     rw [h1]
     simp only [Result.andThen_ok,invoke]
     exact hcf _ _
    unfold Oper.wp
    rw [hrun,Oper.upon_enter]
    have hlen:args.length=c.args.size:=by simpa using hl
    have hrep0:∀ k,k<(args++caps).length→Rep (Fd C env hpf) w env D ((c.args.map a.eval++xcaps).getD k undef) ((args++caps).getD k .junk):=by
     intro k hk
     by_cases hka:k<args.length
     ·have h1:=hr (k+1) (by simp;omega)
      simp only [List.getD_cons_succ] at h1
      have e1:(c.args.map a.eval++xcaps).getD k undef=a.eval (c.args.toList.getD k (.const undef)):=by
       rw [Array.getD_eq_getD_getElem?,Array.getElem?_append_left (by simp;omega)]
       simp [List.getD_eq_getElem?_getD,show k<c.args.size by omega]
      have e2:(args++caps).getD k .junk=args.getD k .junk:=by
       rw [List.getD_eq_getElem?_getD,List.getElem?_append_left hka,← List.getD_eq_getElem?_getD]
      rw [e1,e2]
      exact h1
     ·have e1:(c.args.map a.eval++xcaps).getD k undef=xcaps.getD (k-args.length) undef:=by
       rw [Array.getD_eq_getD_getElem?,Array.getElem?_append_right (by simp;omega),Array.getD_eq_getD_getElem?]
       simp [hlen]
      have e2:(args++caps).getD k .junk=caps.getD (k-args.length) .junk:=by
       rw [List.getD_eq_getElem?_getD,List.getElem?_append_right (by omega),← List.getD_eq_getElem?_getD]
      rw [e1,e2]
      exact hcr _ (by simp at hk;omega)
    refine (hcalls (Fd C env hpf) w (c.args.map a.eval++xcaps) hΦ' (fun b hb=>hs.fd_lt hb) (by rw [cnlL_length,List.length_append,Array.size_append,Array.size_map,hlen,hsz]) (fun k hk=>?_)).mono ?_
    ·rw [cnlL_length] at hk
     rw [cnlL_getD]
     exact ((hrep0 k hk).hf (hfL_getD h3 k)).cnl
    ·rintro e w' ⟨x,rfl,hstep,e1,_,_,_,hrep⟩
     show K (a.put o.dst x) w'
     have e2:(fun m=>D m∨m ∈ ([]:List Nat))=D:=by funext m;simp
     rw [e2] at hk
     refine hk env _ w' (put_sim (T:=⟨o.dst,slotsOf (opsOf o.op)++gSlot (match o.guard with
      | none=>none
      | some (j,w)=>some (gslot ops j,w)),v,[],[],[]⟩) (hs.world hstep) hdst ?_)
     have hrep':Rep (PFd (Fd C env hpf) [] e1) w' env D x v:=hrep.hf hv
     exact hrep'.sub (fun b hb=>.inl hb)
  ·cases h0
 | _=>rw [hop] at h0;simp [isCall] at h0
inductive RunC (P:Program) (C:Ctx):List PO→St→List Tr→St→Prop
 | nil {st:St}:RunC P C [] st [] st
 | tr {o:PO} {l:List PO} {Ts:List Tr} {st st1 st2:St} {T:Tr}:(∀ (ops:Array Oper) (i:Nat) (o':Oper),ops[i]? = some o'→(⟨o'.dst,o'.op,match o'.guard with
  | none=>none
  | some (j,w)=>some (gslot ops j,w)⟩:PO)=o→TrOkC P C ops i T (lkp st.fr) (lkp st.hp))→lkp st1.fr=wrt (lkp st.fr) T.fw→lkp st1.hp=wrt (lkp st.hp) T.hw→RunC P C l st1 Ts st2→RunC P C (o :: l) st (T :: Ts) st2
theorem RunC.op {P:Program} {C:Ctx} {o:PO} {l:List PO} {Ts:List Tr} {st st1 st2:St} {vs:List V} {e:Eff} {v:V} {hp:List (Nat × Row)} {u:Bool} {T:Tr} (h1:isCall o.op=false) (h2:guardP st.fr o.g=some true) (h3:valsOf st.fr (opsOf o.op)=some vs) (h4:eff P o.op vs=some e) (h5:e.runL st.nx st.hp=some (v,hp,u))
  (h6:putSt C.N o.dst v st.fr hp (if u=true then st.nx+1 else st.nx)=some st1) (h7:T=⟨o.dst,slotsOf (opsOf o.op)++gSlot o.g,v,e.rds,e.wws st.nx hp,if u=true then [st.nx] else []⟩) (h8:RunC P C l st1 Ts st2):RunC P C (o :: l) st (T :: Ts) st2:=by
 subst h7
 obtain ⟨_,e1,e2,_⟩:=putSt_dst h6
 refine .tr (fun ops i o' hi ho=>?_) e1 ?_ h8
 ·subst ho
  exact (TrOk.op hi h2 h3 h4 h5 h6).toC
 ·rw [e2]
  exact wws_hp h5
theorem RunC.skip {P:Program} {C:Ctx} {o:PO} {l:List PO} {Ts:List Tr} {st st1 st2:St} {T:Tr} (h1:guardP st.fr o.g=some false)(h2:putSt C.N o.dst (.tup []) st.fr st.hp st.nx=some st1)(h3:T=⟨o.dst,gSlot o.g,.tup [],[],[],[]⟩)(h4:RunC P C l st1 Ts st2):RunC P C (o :: l) st (T :: Ts) st2:=by
 subst h3
 obtain ⟨_,e1,e2,_⟩:=putSt_dst h2
 refine .tr (fun ops i o' hi ho=>?_) e1 (by rw [e2];rfl) h4
 subst ho
 exact (TrOk.skip hi h1 h2).toC
theorem RunC.call {P:Program} {C:Ctx} {o:PO} {l:List PO} {Ts:List Tr} {st st1 st2:St} {f:FuncId} {caps args:List V} {v:V} {T:Tr} (h1:isCall o.op=true) (h2:guardP st.fr o.g=some true) (h3:valsOf st.fr (opsOf o.op)=some (.fn f caps :: args)) (h4:V.hfL (args++caps)=true) (h5:PCall P f (cnlL (args++caps)) v []) (h6:V.hf v=true)
  (h7:putSt C.N o.dst v st.fr st.hp st.nx=some st1) (h8:T=⟨o.dst,slotsOf (opsOf o.op)++gSlot o.g,v,[],[],[]⟩) (h9:RunC P C l st1 Ts st2):RunC P C (o :: l) st (T :: Ts) st2:=by
 subst h8
 obtain ⟨_,e1,e2,_⟩:=putSt_dst h7
 refine .tr (fun ops i o' hi ho=>?_) e1 (by rw [e2];rfl) h9
 subst ho
 exact (TrOk.call hi h1 h2 h3 h4 h5 h6 h7).toC
theorem RunC.callT {Φ:World→Prop} {P:Program} {C:Ctx} {o:PO} {l:List PO} {Ts:List Tr} {st st1 st2:St} {f:FuncId} {caps args:List V} {v:V} {T:Tr} (h1:isCall o.op=true) (h2:guardP st.fr o.g=some true) (h3:valsOf st.fr (opsOf o.op)=some (.fn f caps :: args)) (h4:V.hfL (args++caps)=true) (h5:PCallT Φ P f (cnlL (args++caps)) v) (hΦ:Φ C.w0) (hst:Stab Φ) (hM:∀ b,¬ C.M b) (h6:V.hf v=true)
  (h7:putSt C.N o.dst v st.fr st.hp st.nx=some st1) (h8:T=⟨o.dst,slotsOf (opsOf o.op)++gSlot o.g,v,[],[],[]⟩) (h9:RunC P C l st1 Ts st2):RunC P C (o :: l) st (T :: Ts) st2:=by
 subst h8
 obtain ⟨_,e1,e2,_⟩:=putSt_dst h7
 refine .tr (fun ops i o' hi ho=>?_) e1 (by rw [e2];rfl) h9
 subst ho
 exact TrOkC.call hi h1 h2 h3 h4 h5 hΦ hst hM h6 h7
theorem RunC.spec {P:Program} {C:Ctx} {ops:Array Oper}:∀ {l:List Oper} {i:Nat} {st st':St} {Ts:List Tr},ops.toList.drop i=l→RunC P C (prepL ops l) st Ts st' →
  Ts.length=l.length∧(∀ j T,Ts[j]? = some T→TrOkC P C ops (i+j) T (run (fun m=>decide (m<j)) (Ts.map Tr.fw) 0 (lkp st.fr)) (run (fun m=>decide (m<j)) (Ts.map Tr.hw) 0 (lkp st.hp))) ∧
  lkp st'.fr=run (fun _=>true) (Ts.map Tr.fw) 0 (lkp st.fr)∧lkp st'.hp=run (fun _=>true) (Ts.map Tr.hw) 0 (lkp st.hp):=by
 intro l
 induction l with
 | nil=>
  intro i st st' Ts hd h
  cases h
  exact ⟨rfl,fun j T hT=>by simp at hT,rfl,rfl⟩
 | cons o l ih=>
  intro i st st' Ts hd h
  have hi:ops[i]? = some o:=by
   have:(ops.toList.drop i)[0]? = some o:=by rw [hd];rfl
   simpa using this
  have hd':ops.toList.drop (i+1)=l:=by
   rw [← List.drop_drop,hd]
   rfl
  have fin:∀ {st1:St} {T:Tr} {Ts:List Tr},TrOkC P C ops i T (lkp st.fr) (lkp st.hp)→lkp st1.fr=wrt (lkp st.fr) T.fw→lkp st1.hp=wrt (lkp st.hp) T.hw→RunC P C (prepL ops l) st1 Ts st' →
    (T :: Ts).length=(o :: l).length∧(∀ j T',(T :: Ts)[j]? = some T'→TrOkC P C ops (i+j) T' (run (fun m=>decide (m<j)) ((T :: Ts).map Tr.fw) 0 (lkp st.fr)) (run (fun m=>decide (m<j)) ((T :: Ts).map Tr.hw) 0 (lkp st.hp))) ∧
    lkp st'.fr=run (fun _=>true) ((T :: Ts).map Tr.fw) 0 (lkp st.fr)∧lkp st'.hp=run (fun _=>true) ((T :: Ts).map Tr.hw) 0 (lkp st.hp):=by
   intro st1 T Ts h1 h2 h3 h4
   obtain ⟨g1,g2,g3,g4⟩:=ih hd' h4
   refine ⟨by simp [g1],?_,?_,?_⟩
   ·intro j T' hT'
    cases j with
    | zero=>
     have:T=T':=by simpa using hT'
     subst this
     have e0:(fun m:Nat=>decide (m<0))=fun _=>false:=by funext m;simp
     rw [e0,run_false,run_false]
     exact h1
    | succ j=>
     have hT2:Ts[j]? = some T':=by simpa using hT'
     have:=g2 j T' hT2
     rw [show i+1+j=i+(j+1) by omega] at this
     have e1:∀ {X:Type} (W:List (Nat × X)) (Ws:List (List (Nat × X))) (s:Nat→X),run (fun m=>decide (m<j+1)) (W :: Ws) 0 s=run (fun m=>decide (m<j)) Ws 0 (wrt s W):=by
      intro X W Ws s
      show run (fun m=>decide (m<j+1)) Ws (0+1) (if decide (0<j+1)=true then wrt s W else s)=_
      rw [if_pos (by simp),run_shift]
      congr 1
      funext m
      simp
     rw [List.map_cons,List.map_cons,e1,e1,← h2,← h3]
     exact this
   ·rw [g3,List.map_cons]
    show _=run (fun _=>true) (Ts.map Tr.fw) (0+1) (if true=true then wrt (lkp st.fr) T.fw else lkp st.fr)
    rw [if_pos rfl,run_shift,h2]
   ·rw [g4,List.map_cons]
    show _=run (fun _=>true) (Ts.map Tr.hw) (0+1) (if true=true then wrt (lkp st.hp) T.hw else lkp st.hp)
    rw [if_pos rfl,run_shift,h3]
  simp only [prepL] at h
  cases h with
  | tr h1 h2 h3 h4=>exact fin (h1 ops i o hi rfl) h2 h3 h4
theorem AX.drawnC {P:Program} {C:Ctx} {st st1:St} {Q:Exit→St→Prop} (hmix:P.follows .mixedOrders=true) {id:Nat} {ops:Array Oper} {po:List PO} (hp:prep ops=po) {Ts:List Tr} (h:RunC P C po st Ts st1) {infos:List Info} (hinf:Ts.map Tr.info=infos)
  (hok:okDraw ops infos st.nx st1.nx=true) (hq:Q .normal st1):AX P C (.region id ops true) st Q:=by
 subst hp hinf
 obtain ⟨hlen,htr,hfr,hhp⟩:=RunC.spec (ops:=ops) (i:=0) (by simp) h
 simp only [okDraw,Bool.and_eq_true] at hok
 obtain ⟨⟨hm,hcl⟩,hnm⟩:=hok
 simp only [okNames,Bool.and_eq_true,decide_eq_true_eq] at hnm
 obtain ⟨⟨hnx,hn1⟩,hn2⟩:=hnm
 have hsize:Ts.length=ops.size:=by simpa using hlen
 have hinfo:∀ {j:Nat} {T:Tr},Ts[j]? = some T→(Ts.map Tr.info)[j]? = some T.info:=fun hT=>by simp [hT]
 have hn1':∀ {j:Nat} {T:Tr} {m:Nat},Ts[j]? = some T→m ∈ T.nn→st.nx≤m∧m<st1.nx:=by
  intro j T m hT hm
  rw [List.all_eq_true] at hn1
  have h1:=hn1 T.info (List.mem_of_getElem? (hinfo hT))
  rw [List.all_eq_true] at h1
  have h2:=h1 m hm
  simpa using h2
 have hn2':∀ {i j:Nat} {T U:Tr} {m:Nat},i≠j→Ts[i]? = some T→Ts[j]? = some U→m ∈ T.nn→m ∈ U.nn→False:=by
  have key:∀ {i j:Nat} {T U:Tr} {m:Nat},i<j→Ts[i]? = some T→Ts[j]? = some U→m ∈ T.nn→m ∈ U.nn→False:=by
   intro i j T U m hij hT hU h1 h2
   rw [List.all_eq_true] at hn2
   have hj:j<(Ts.map Tr.info).length:=(List.getElem?_eq_some_iff.1 (hinfo hU)).1
   have g1:=hn2 j (by simpa using hj)
   rw [List.all_eq_true] at g1
   have g2:=g1 i (by simp [hij])
   simp only [hinfo hT,hinfo hU] at g2
   have g3:meet T.info.nn U.info.nn=true:=meet_of h1 h2
   rw [g3] at g2
   simp at g2
  intro i j T U m hij hT hU h1 h2
  rcases Nat.lt_or_gt_of_ne hij with h3 | h3
  ·exact key h3 hT hU h1 h2
  ·exact key h3 hU hT h2 h1
 intro env a w hs
 refine wp_region_any hmix ?_
 have hs0:SimS C env st a { w with drawn:=w.drawn+1 }:=hs.world (step_drawn w _)
 let DL:(Nat→Bool)→Nat→Prop:=fun L m=>m<st.nx∨∃ (i:Nat) (T:Tr),L i=true∧Ts[i]? = some T∧m ∈ T.nn
 -- the invariant
 have main:∀ (fuel:Nat) (listed:Array Bool) (env:Env) (a:Act) (w:World),listed.size=ops.size→Closed ops (fun i=>listed.getD i false) →
   ((List.range ops.size).filter fun i=>!(listed.getD i false)).length=fuel →
   Sim C env (run (fun i=>listed.getD i false) (Ts.map Tr.fw) 0 (lkp st.fr)) (run (fun i=>listed.getD i false) (Ts.map Tr.hw) 0 (lkp st.hp)) (DL fun i=>listed.getD i false) a w →
   wpAny P .any ops (fun e a' w'=>∃ st' env',Q e st'∧SimS C env' st' a' w') fuel listed a w:=by
  intro fuel
  induction fuel with
  | zero=>
   intro listed env a w hsz hclosed hcount hsim
   have hall:∀ i,i<ops.size→listed.getD i false=true:=by
    intro i hi
    have h1:=List.eq_nil_of_length_eq_zero hcount
    rw [List.filter_eq_nil_iff] at h1
    have h2:=h1 i (by simp [hi])
    simpa using h2
   refine ⟨?_,st1,env,hq,?_⟩
   ·rw [List.eq_nil_iff_forall_not_mem]
    intro i hi
    obtain ⟨h1,o,ho,_⟩:=mem_ready.1 hi
    have hlt:i<ops.size:=(Array.getElem?_eq_some_iff.1 ho).1
    have h2:=hall i hlt
    have h3:listed.getD i true=listed.getD i false:=by
     simp [Array.getD_eq_getD_getElem?,show i<listed.size by omega]
    rw [h3,h2] at h1
    cases h1
   ·have e1:run (fun i=>listed.getD i false) (Ts.map Tr.fw) 0 (lkp st.fr)=lkp st1.fr:=by
     rw [hfr]
     funext l
     refine run_agree _ _ _ _ (fun j W hW hne=>?_) rfl
     exfalso
     apply hne
     have:j<ops.size:=by
      have:=(List.getElem?_eq_some_iff.1 hW).1
      simpa [hsize] using this
     simp [hall j this]
    have e2:run (fun i=>listed.getD i false) (Ts.map Tr.hw) 0 (lkp st.hp)=lkp st1.hp:=by
     rw [hhp]
     funext l
     refine run_agree _ _ _ _ (fun j W hW hne=>?_) rfl
     exfalso
     apply hne
     have:j<ops.size:=by
      have:=(List.getElem?_eq_some_iff.1 hW).1
      simpa [hsize] using this
     simp [hall j this]
    rw [e1,e2] at hsim
    refine hsim.dom fun m hm=>?_
    rcases hm with hm | ⟨i,T,_,hT,hmT⟩
    ·exact Nat.lt_of_lt_of_le hm hnx
    ·exact (hn1' hT hmT).2
  | succ fuel ih=>
   intro listed env a w hsz hclosed hcount hsim
   constructor
   ·intro hnil
    exfalso
    -- the first that is not listed is ready
    have hne:((List.range ops.size).filter fun i=>!(listed.getD i false))≠[]:=by
     intro e
     rw [e] at hcount
     simp at hcount
    have hex:∃ i,i<ops.size∧listed.getD i false=false:=by
     obtain ⟨i,hi⟩:=List.exists_mem_of_ne_nil _ hne
     rw [List.mem_filter] at hi
     exact ⟨i,by simpa using hi.1,by simpa using hi.2⟩
    obtain ⟨i,⟨hi,hli⟩,hmin⟩:=exists_least hex
    have ho:ops[i]? = some ops[i]:=Array.getElem?_eq_getElem hi
    obtain ⟨_,h2⟩:=okMasks_at (j:=i) hm (by rw [Array.getElem?_toList];exact ho)
    rw [Nat.zero_add] at h2
    have:i ∈ Region.ready .any ops listed:=by
     refine mem_ready.2 ⟨?_,_,ho,fun e he hb=>?_⟩
     ·have h3:listed.getD i true=listed.getD i false:=by
       simp [Array.getD_eq_getD_getElem?,show i<listed.size by omega]
      rw [h3,hli]
     ·have hlt:=h2 e (by simpa using he) hb
      cases hle:listed.getD e.on false with
      | true=>rfl
      | false=>exact absurd (hmin e.on ⟨Nat.lt_trans hlt hi,hle⟩) (Nat.not_le.2 hlt)
    rw [hnil] at this
    simp at this
   ·intro i hi
    obtain ⟨hnl,o,ho,hedges⟩:=mem_ready.1 hi
    have hlt:i<ops.size:=(Array.getElem?_eq_some_iff.1 ho).1
    have hLi:listed.getD i false=false:=by
     have h3:listed.getD i true=listed.getD i false:=by
      simp [Array.getD_eq_getD_getElem?,show i<listed.size by omega]
     rw [← h3];exact hnl
    obtain ⟨T,hT⟩:∃ T,Ts[i]? = some T:=⟨Ts[i]'(by omega),List.getElem?_eq_getElem (by omega)⟩
    have hok:=htr i T hT
    rw [Nat.zero_add] at hok
    have hedges':∀ e ∈ o.after.toList,Region.binds .any e=true→listed.getD e.on false=true:=fun e he hb=>hedges e (by simpa using he) hb
    -- what must have come before has come;what must come behind has not
    have before:∀ {j:Nat} {U:Tr},j<i→Ts[j]? = some U→clash U.info T.info=true→listed.getD j false=true:=by
     intro j U hj hU hc
     have hb:=okClash_at hcl hj (hinfo hU) (hinfo hT) hc
     exact closed_bit hm hclosed i j hlt hb (.inr ⟨o,ho,hedges'⟩)
    have behind:∀ {j:Nat} {U:Tr},i<j→Ts[j]? = some U→clash T.info U.info=true→listed.getD j false=false:=by
     intro j U hj hU hc
     have hb:=okClash_at hcl hj (hinfo hT) (hinfo hU) hc
     cases hLj:listed.getD j false with
     | false=>rfl
     | true=>
      have hjs:j<ops.size:=by
       have:=(List.getElem?_eq_some_iff.1 hU).1
       omega
      have:=closed_bit hm hclosed j i hjs hb (.inl hLj)
      simp only [hLi] at this
      cases this
    have fwT:∀ {j:Nat} {W:List (Nat × Option V)},(Ts.map Tr.fw)[j]? = some W→∃ U,Ts[j]? = some U∧W=U.fw:=by
     intro j W hW
     rw [List.getElem?_map] at hW
     cases hU:Ts[j]? with
     | none=>simp [hU] at hW
     | some U=>simp [hU] at hW;exact ⟨U,rfl,hW.symm⟩
    have hwT:∀ {j:Nat} {W:List (Nat × Option Row)},(Ts.map Tr.hw)[j]? = some W→∃ U,Ts[j]? = some U∧W=U.hw:=by
     intro j W hW
     rw [List.getElem?_map] at hW
     cases hU:Ts[j]? with
     | none=>simp [hU] at hW
     | some U=>simp [hU] at hW;exact ⟨U,rfl,hW.symm⟩
    have tfw:∀ {U:Tr} {l:Nat},touch U.fw l→U.dst=some l:=by
     intro U l ht
     obtain ⟨p,hp,rfl⟩:=ht
     unfold Tr.fw at hp
     split at hp
     ·rename_i d hd
      rw [hd]
      simp at hp
      subst hp
      rfl
     ·simp at hp
    have thw:∀ {U:Tr} {l:Nat},touch U.hw l→l ∈ U.info.hw:=by
     intro U l ht
     obtain ⟨p,hp,rfl⟩:=ht
     exact List.mem_map.2 ⟨p,hp,rfl⟩
    refine hok env _ _ _ a w hsim ?_ ?_ ?_ ?_ _ _ ?_
    ·intro t ht
     refine run_agree _ _ _ _ (fun j W hW hne hto=>?_) rfl
     rw [Nat.zero_add] at hne
     obtain ⟨U,hU,rfl⟩:=fwT hW
     have hd:=tfw hto
     rcases Nat.lt_or_ge j i with hj | hj
     ·have:=before hj hU (by simp only [clash,Bool.or_eq_true];exact .inl (.inl (.inl (meet_of (x:=t) (by simp [Tr.info,hd]) (by simp [Tr.info,ht])))))
      simp [hj,this] at hne
     ·rcases Nat.eq_or_lt_of_le hj with rfl | hj
      ·simp [hLi] at hne
      ·have:=behind hj hU (by simp only [clash,Bool.or_eq_true];exact .inl (.inl (.inr (meet_of (x:=t) (by simp [Tr.info,hd]) (by simp [Tr.info,ht])))))
       simp [this,Nat.not_lt.2 (Nat.le_of_lt hj)] at hne
    ·intro n hn
     refine run_agree _ _ _ _ (fun j W hW hne hto=>?_) rfl
     rw [Nat.zero_add] at hne
     obtain ⟨U,hU,rfl⟩:=hwT hW
     have hd:=thw hto
     rcases Nat.lt_or_ge j i with hj | hj
     ·have:=before hj hU (by simp only [clash,Bool.or_eq_true];exact .inl (.inr (meet_of (x:=n) hd (by simp [Tr.info,hn]))))
      simp [hj,this] at hne
     ·rcases Nat.eq_or_lt_of_le hj with rfl | hj
      ·simp [hLi] at hne
      ·have:=behind hj hU (by simp only [clash,Bool.or_eq_true];exact .inr (meet_of (x:=n) hd (by simp [Tr.info,hn])))
       simp [this,Nat.not_lt.2 (Nat.le_of_lt hj)] at hne
    ·rintro n hn (h1 | ⟨j,U,hLj,hU,hnU⟩)
     ·exact absurd (hn1' hT hn).1 (Nat.not_le.2 h1)
     ·have:i≠j:=by
       rintro rfl
       simp only [hLi] at hLj
       cases hLj
      exact hn2' this hT hU hn hnU
    ·refine ⟨st1.nx,?_⟩
     rintro (h1 | ⟨j,U,hLj,hU,hnU⟩)
     ·exact absurd hnx (Nat.not_le.2 h1)
     ·exact absurd (hn1' hU hnU).2 (Nat.lt_irrefl _)
    ·intro env' a' w' hs'
     have hL':∀ j,(listed.setIfInBounds i true).getD j false=if j=i then true else listed.getD j false:=by
      intro j
      by_cases e:j=i
      ·subst e
       simp [Array.getD_eq_getD_getElem?,show j<listed.size by omega]
      ·rw [if_neg e,Array.getD_eq_getD_getElem?,Array.getElem?_setIfInBounds_ne (Ne.symm e),← Array.getD_eq_getD_getElem?]
     refine ih (listed.setIfInBounds i true) env' a' w' (by simpa using hsz) ?_ ?_ ?_
     ·intro j oj hoj hLj e he hb
      simp only [hL'] at hLj ⊢
      by_cases ej:j=i
      ·subst ej
       rw [ho] at hoj
       cases hoj
       have:=hedges' e he hb
       by_cases e2:e.on=j
       ·simp [e2]
       ·rw [if_neg e2];exact this
      ·rw [if_neg ej] at hLj
       have:=hclosed j oj hoj hLj e he hb
       by_cases e2:e.on=i
       ·simp [e2]
       ·rw [if_neg e2];exact this
     ·have:=filter_drop (List.nodup_range (n:=ops.size)) (i:=i) (by simp [hlt]) (p:=fun j=>!(listed.getD j false)) (q:=fun j=>!((listed.setIfInBounds i true).getD j false)) (by simp [hLi]) (by simp [hL']) (fun j hj=>by simp [hL',hj])
      omega
     ·have e1:run (fun j=>(listed.setIfInBounds i true).getD j false) (Ts.map Tr.fw) 0 (lkp st.fr)=wrt (run (fun j=>listed.getD j false) (Ts.map Tr.fw) 0 (lkp st.fr)) T.fw:=by
       funext l
       by_cases ht:touch T.fw l
       ·refine run_touch (i:=i) _ 0 _ _ T.fw (Nat.zero_le _) (by simp [hT]) (by simp [hL']) ht (fun j W hj _ hW hLj hto=>?_)
        rw [Nat.sub_zero] at hW
        obtain ⟨U,hU,rfl⟩:=fwT hW
        have h1:=tfw ht
        have h2:=tfw hto
        have:=behind hj hU (by simp only [clash,Bool.or_eq_true];exact .inl (.inl (.inl (meet_of (x:=l) (by simp [Tr.info,h1]) (by simp [Tr.info,h2])))))
        simp only [hL',if_neg (show j≠i by omega),this] at hLj
        cases hLj
       ·rw [wrt_untouch _ _ _ ht]
        refine run_agree _ _ _ _ (fun j W hW hne hto=>?_) rfl
        rw [Nat.zero_add] at hne
        by_cases ej:j=i
        ·subst ej
         obtain ⟨U,hU,rfl⟩:=fwT hW
         rw [hT] at hU
         cases hU
         exact ht hto
        ·simp [hL',ej] at hne
      have e2:run (fun j=>(listed.setIfInBounds i true).getD j false) (Ts.map Tr.hw) 0 (lkp st.hp)=wrt (run (fun j=>listed.getD j false) (Ts.map Tr.hw) 0 (lkp st.hp)) T.hw:=by
       funext l
       by_cases ht:touch T.hw l
       ·refine run_touch (i:=i) _ 0 _ _ T.hw (Nat.zero_le _) (by simp [hT]) (by simp [hL']) ht (fun j W hj _ hW hLj hto=>?_)
        rw [Nat.sub_zero] at hW
        obtain ⟨U,hU,rfl⟩:=hwT hW
        have h1:=thw ht
        have h2:=thw hto
        have:=behind hj hU (by simp only [clash,Bool.or_eq_true];exact .inl (.inr (meet_of (x:=l) h1 (by simp [h2]))))
        simp only [hL',if_neg (show j≠i by omega),this] at hLj
        cases hLj
       ·rw [wrt_untouch _ _ _ ht]
        refine run_agree _ _ _ _ (fun j W hW hne hto=>?_) rfl
        rw [Nat.zero_add] at hne
        by_cases ej:j=i
        ·subst ej
         obtain ⟨U,hU,rfl⟩:=hwT hW
         rw [hT] at hU
         cases hU
         exact ht hto
        ·simp [hL',ej] at hne
      rw [e1,e2]
      refine hs'.dom fun m hm=>?_
      rcases hm with (h1 | ⟨j,U,hLj,hU,hmU⟩) | h1
      ·exact .inl h1
      ·refine .inr ⟨j,U,?_,hU,hmU⟩
       simp only [hL']
       split
       ·rfl
       ·exact hLj
      ·exact .inr ⟨i,T,by simp [hL'],hT,h1⟩
 have hL0:(fun i=>(Array.replicate ops.size false).getD i false)=fun _=>false:=by
  funext i
  rw [Array.getD_eq_getD_getElem?]
  cases h:(Array.replicate ops.size false)[i]? with
  | none=>rfl
  | some b=>
   have:=Array.getElem?_eq_some_iff.1 h
   obtain ⟨_,h2⟩:=this
   simp at h2
   subst h2
   rfl
 refine main ops.size (Array.replicate ops.size false) env a _ (by simp) ?_ ?_ ?_
 ·intro j o ho hL
  have h0:(Array.replicate ops.size false).getD j false=false:=congrFun hL0 j
  have h1:(Array.replicate ops.size false).getD j false=true:=hL
  rw [h0] at h1
  cases h1
 ·have:((List.range ops.size).filter fun i=>!((Array.replicate ops.size false).getD i false))=List.range ops.size:=by
   rw [List.filter_eq_self]
   intro i hi
   have h0:(Array.replicate ops.size false).getD i false=false:=congrFun hL0 i
   rw [h0]
   rfl
  rw [this]
  simp
 ·rw [hL0,run_false,run_false]
  exact hs0.dom fun m hm=>.inl hm
theorem AX.dregC {P:Program} {C:Ctx} {st:St} {Q:Exit→St→Prop} (l:List Nat) (hmix:P.follows .mixedOrders=true) {id:Nat} {ops:Array Oper} {po:List PO} {fr0 fr:List (Nat × V)} {hp1:List (Nat × Row)} {nx1:Nat} (hp:prep ops=po) {Ts:List Tr} (h:RunC P C po st Ts ⟨fr0,hp1,nx1⟩) (hk:Keep l fr0 fr)
  (hok:okDraw ops (Ts.map Tr.info) st.nx nx1=true) (hq:Q .normal ⟨fr,hp1,nx1⟩):AX P C (.region id ops true) st Q:=by
 have h1:AX P C (.region id ops true) st (fun e s=>e=.normal∧s=⟨fr0,hp1,nx1⟩):=AX.drawnC hmix hp h rfl hok ⟨rfl,rfl⟩
 intro env a w hs
 refine wp_mono (h1 env a w hs) ?_
 rintro e a' w' ⟨s,env',⟨rfl,rfl⟩,hs'⟩
 exact ⟨_,env',hq,simS_keep (st:=⟨fr0,hp1,nx1⟩) hk hs'⟩
theorem AX.sdregC {P:Program} {C:Ctx} {st:St} {Q:Exit→St→Prop} (l:List Nat) (hmix:P.follows .mixedOrders=true) {id:Nat} {ops:Array Oper} {po:List PO} {fr0 fr:List (Nat × V)} {hp1:List (Nat × Row)} {nx1:Nat} {y:Code} (hp:prep ops=po) {Ts:List Tr} (h:RunC P C po st Ts ⟨fr0,hp1,nx1⟩) (hk:Keep l fr0 fr)
  (hok:okDraw ops (Ts.map Tr.info) st.nx nx1=true) (hq:AX P C y ⟨fr,hp1,nx1⟩ Q):AX P C (.seq (.region id ops true) y) st Q:=AX.seq (AX.dregC l hmix hp h hk hok hq)
end Go.Proofs.YteidabibgjokkaaGreatDoor.Lift
