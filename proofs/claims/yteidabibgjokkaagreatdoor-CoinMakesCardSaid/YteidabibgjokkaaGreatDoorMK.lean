import Derived.Test.YteidabibgjokkaaGreatDoorGB
import Derived.Test.YteidabibgjokkaaGreatDoorMC
import Derived.Shelf.Strconv.Itoa3
import Derived.Lib.ItoaNum
set_option maxRecDepth 20000
set_option linter.all false
namespace Go.Proofs.YteidabibgjokkaaGreatDoor.Lift
open Go
def Stab (Φ:World→Prop):Prop:=∀ w w',Φ w→Step (fun _=>False) w w'→Φ w'
def PCallT (Φ:World→Prop) (P:Program) (f:FuncId) (args:List V) (r:V):Prop:=
 (∀ xs w,(callFunc f xs).run P w=.ok (.enter f xs) w) ∧
 ∀ (O:Nat→Prop) (w:World) (xs:Array Value),Φ w→(∀ b,O b→b<w.heap.size)→xs.size=args.length→(∀ k,k<args.length→Rep O w (fun _=>none) (fun _=>False) (xs.getD k undef) (args.getD k .junk)) →
  Calls P f xs w (fun e w'=>∃ x,e=.returned x∧Came O w w' x r [])
theorem PCall.toT {Φ:World→Prop} {P:Program} {f:FuncId} {args:List V} {r:V} (h:PCall P f args r []):PCallT Φ P f args r:=⟨h.1,fun O w xs _=>h.2 O w xs⟩
theorem PCallT.of_ax {Φ:World→Prop} {P:Program} {f:FuncId} {fn:Func} {c:Code} {args:List V} {r:V} (hcf:∀ xs w,(callFunc f xs).run P w=.ok (.enter f xs) w) (hf:P.funcs[f]? = some fn) (hb:fn.body=some c) (hN:args.length≤fn.ntmps)
  (h:∀ (O:Nat→Prop) (w:World),Φ w→AX P ⟨fn.ntmps,O,fun _=>False,w,0,fun _=>none⟩ c ⟨argFr 0 args,[],0⟩ (fun e st=>(e=.ret∨e=.normal)∧Done P fn.results r [] st)):PCallT Φ P f args r:=by
 refine ⟨hcf,fun O w xs hΦ hO hsz hr=>?_⟩
 refine calls_of_wp hf hb ?_
 have hFd0:∀ b,Fd ⟨fn.ntmps,O,fun _=>False,w,0,fun _=>none⟩ (fun _=>none) (lkp []) b→O b:=by
  rintro b (ho | ⟨m,hm,_⟩)
  ·exact ho
  ·simp [lkp] at hm
 have hs0:SimS ⟨fn.ntmps,O,fun _=>False,w,0,fun _=>none⟩ (fun _=>none) ⟨argFr 0 args,[],0⟩ { tmps:=xs++Array.replicate (fn.ntmps-xs.size) undef,defers:=[] } w:={
  sz:=by simp;omega
  df:=rfl
  tm:=by
   intro t v ht
   obtain ⟨h1,h2,h3⟩:=argFr_look args 0 t v ht
   refine ⟨by show t<fn.ntmps;omega,?_⟩
   subst h3
   have e:(xs++Array.replicate (fn.ntmps-xs.size) undef).getD t undef=xs.getD t undef:=by
    rw [Array.getD_eq_getD_getElem?,Array.getElem?_append_left (by omega),Array.getD_eq_getD_getElem?]
   rw [e]
   exact ((hr t (by omega)).mono (fun b _ hF=>⟨fun h=>hF (hFd0 b h),rfl⟩) (fun _ c _ _ h=>⟨c,rfl,h⟩) (Nat.le_refl _) (fun _ hD=>hD.elim))
  row:=fun m q hq=>by simp [lkp] at hq
  old:=fun m b hm=>by simp [lkp] at hm
  inj:=fun m m' b hm=>by simp [lkp] at hm
  st:=Step.refl _ _
  ob:=fun b hb=>⟨hO b hb,fun f=>f⟩
  gv:=fun n hn=>absurd hn (Nat.not_lt_zero n) }
 refine wp_mono (h O w hΦ _ _ _ hs0) ?_
 rintro e a' w' ⟨st',env',⟨he,vs,hvs,keep,g,v,hp,hfz,rfl,hlt,hrows,hginj⟩,hs'⟩
 obtain ⟨x,hx,hxr⟩:=results_sound hs' hvs
 obtain ⟨s2,f2,r2⟩:=frz_sound keep (packV vs) st'.hp hfz hs'
 have hfin:a'.defers=[]∧∃ v,(results fn a'.tmps).run P w'=.ok v w'∧∃ x,Ending.returned v=.returned x∧Came O w w' x r []:=by
  refine ⟨hs'.df,x,hx,x,rfl,hs'.st,fun m=>env' (g m),?_⟩
  have hgl:∀ m,m<([]:List Row).length→(lkp hp (g m)).isSome=true:=by
   intro m hm
   obtain ⟨h1,_⟩:=hrows m _ (List.getElem?_eq_getElem hm)
   rw [h1];rfl
  have hF:∀ b,PFd O [] (fun m=>env' (g m)) b→Fd ⟨fn.ntmps,O,fun _=>False,w,0,fun _=>none⟩ env' (lkp hp) b:=by
   rintro b (ho | ⟨m,hm,he⟩)
   ·exact .inl ho
   ·exact .inr ⟨g m,hgl m hm,he⟩
  refine ⟨?_,?_,?_,?_⟩
  ·intro m q hq
   obtain ⟨h1,h2⟩:=hrows m q hq
   rcases (s2.row _ _ h1).2 with ⟨blk,c,he,hw,hl,hc⟩ | ⟨he,hv⟩ | ⟨blk,he,ht⟩
   ·simp only [Row.ren,renL_length] at hl hc
    refine .inl ⟨blk,c,he,hw,hl,fun k hk=>?_⟩
    have:=hc k hk
    rw [renL_getD] at this
    exact (this.unren rfl (ltL_getD h2 k)).sub hF
   ·refine .inr (.inl ⟨he,?_⟩)
    have:=congrArg List.length hv
    simp only [Row.ren,renL_length] at this
    exact List.eq_nil_of_length_eq_zero this
   ·obtain ⟨es,cl,ks,t1,t2,t3⟩:=ht
    refine .inr (.inr ⟨blk,he,es,cl,ks,t1,?_,t3⟩)
    simp only [Row.ren] at t2
    exact renL_tab t2
  ·intro m b hm he
   rcases (s2.old (g m) b (hgl m hm) he).2 with h3 | h3
   ·exact h3
   ·exact h3.elim
  ·intro m m' b hm hm' he he'
   exact hginj m m' hm hm' (s2.inj (g m) (g m') b (hgl m hm) (hgl m' hm') he he')
  ·exact ((r2 x hxr).unren rfl hlt).sub hF
 rcases he with rfl | rfl<;>exact hfin
theorem callT_sound {Φ:World→Prop} {P:Program} {C:Ctx} {env:Env} {st:St} {a:Act} {w:World} (hs:SimS C env st a w) {o:Oper} {c:Call} {g:Operand} (ho:o.op=.call c) (hcal:c.callee=.value g)
  {f:FuncId} {args:List V} (hv:valsOf st.fr o.op.operands.toList=some (.fn f [] :: args)) (hhf:V.hfL args=true) {r:V} (hc:PCallT Φ P f args r) (hΦ:Φ w) {K:Act→World→Prop} {Q:Exit→Act→World→Prop}
  (hk:∀ env' x w',Sim C env' (lkp st.fr) (lkp st.hp) (· < st.nx) a w'→Rep (Fd C env' (lkp st.hp)) w' env' (· < st.nx) x (r.ren (st.nx+·))→K (a.put o.dst x) w'):o.wp P a w K Q:=by
 obtain ⟨hl,hr⟩:=valsOf_sound hs hv
 rw [ho] at hl hr
 obtain ⟨hcf,hcalls⟩:=hc
 have hops:(Op.call c).operands.toList=g :: c.args.toList:=by simp [Op.operands,Call.operands,hcal]
 rw [hops] at hl hr
 have hg0:Rep _ w env _ (a.eval g) (.fn f []):=hr 0 (by simp)
 generalize hgv:a.eval g=gv at hg0
 cases hg0 with
 | fn hsz hcr=>
  rename_i xcaps
  have hrun:(execOp a.eval o).run P w=.ok (.enter f (c.args.map a.eval++xcaps)) w:=by
   unfold execOp
   rw [ho]
   simp only [Sem.run_bind]
   have h1:(resolve a.eval c o.type).run P w=.ok { target:=.fn (.func f) xcaps,args:=c.args.map a.eval } w:=by
    unfold resolve
    simp only [hcal,hgv,Deferred.ofValue,Array.empty_append]
    rfl
   rw [h1]
   simp only [Result.andThen_ok,invoke]
   exact hcf _ _
  unfold Oper.wp
  rw [hrun,Oper.upon_enter]
  have hlen:args.length=c.args.size:=by simpa using hl
  have hsz2:(c.args.map a.eval++xcaps).size=args.length:=by simp [hlen,hsz]
  have hrep:∀ k,k<args.length→Rep (Fd C env (lkp st.hp)) w env (· < st.nx) ((c.args.map a.eval++xcaps).getD k undef) (args.getD k .junk):=by
   intro k hk
   have h1:=hr (k+1) (by simp;omega)
   simp only [List.getD_cons_succ] at h1
   have e1:(c.args.map a.eval++xcaps).getD k undef=a.eval (c.args.toList.getD k (.const undef)):=by
    rw [Array.getD_eq_getD_getElem?,Array.getElem?_append_left (by simp;omega)]
    simp [List.getD_eq_getElem?_getD,show k<c.args.size by omega]
   rw [e1]
   exact h1
  refine (hcalls (Fd C env (lkp st.hp)) w (c.args.map a.eval++xcaps) hΦ (fun b hb=>hs.fd_lt hb) hsz2 (fun k hk=>(hrep k hk).hf (hfL_getD hhf k))).mono ?_
  rintro e w' ⟨x,rfl,hcame⟩
  show K (a.put o.dst x) w'
  obtain ⟨env',hs2,hr3⟩:=Sim.join hs hcame (n:=st.nx) (fun j hj=>by simp)
  have e1:(fun m=>if st.nx≤m∧m<st.nx+([]:List Row).length then (([]:List Row)[m-st.nx]?).map (Row.ren (st.nx+·)) else lkp st.hp m)=lkp st.hp:=by
   funext m
   rw [if_neg (by simp)]
  have e2:(fun m=>m<st.nx∨(st.nx≤m∧m<st.nx+([]:List Row).length))=(· < st.nx):=by
   funext m
   simp only [eq_iff_iff,List.length_nil]
   omega
  rw [e1,e2] at hs2 hr3
  exact hk env' x w' hs2 hr3
inductive RunS (P:Program) (C:Ctx):List PO→St→St→Prop
 | nil {st:St}:RunS P C [] st st
 | one {o:PO} {l:List PO} {st st1 st2:St}:RunO P C.N [o] st st1→RunS P C l st1 st2→RunS P C (o :: l) st st2
 | callT {Φ:World→Prop} {o:PO} {l:List PO} {st st1 st2:St} {f:FuncId} {args:List V} {r v:V}:isCall o.op=true→guardP st.fr o.g=some true→valsOf st.fr (opsOf o.op)=some (.fn f [] :: args)→V.hfL args=true→PCallT Φ P f args r→Φ C.w0→Stab Φ→(∀ b,¬ C.M b)→r.ren (st.nx+·)=v →
   putSt C.N o.dst v st.fr st.hp st.nx=some st1→RunS P C l st1 st2→RunS P C (o :: l) st st2
theorem RunS.op {P:Program} {C:Ctx} {o:PO} {l:List PO} {st st1 st2:St} {vs:List V} {e:Eff} {v:V} {hp:List (Nat × Row)} {u:Bool} (h1:isCall o.op=false) (h2:guardP st.fr o.g=some true) (h3:valsOf st.fr (opsOf o.op)=some vs) (h4:eff P o.op vs=some e) (h5:e.runL st.nx st.hp=some (v,hp,u))
  (h6:putSt C.N o.dst v st.fr hp (if u=true then st.nx+1 else st.nx)=some st1) (h:RunS P C l st1 st2):RunS P C (o :: l) st st2:=.one (.op h1 h2 h3 h4 h5 h6 .nil) h
theorem RunS.call {P:Program} {C:Ctx} {o:PO} {l:List PO} {st st1 st2:St} {f:FuncId} {caps args args':List V} {hp1:List (Nat × Row)} {r v:V} {rows:List Row} {hp:List (Nat × Row)} {nx:Nat} (h1:isCall o.op=true) (h2:guardP st.fr o.g=some true) (h3:valsOf st.fr (opsOf o.op)=some (.fn f caps :: args)) (h4:frzL [] (args++caps) st.hp=some (args',hp1)) (h5:V.hfL args'=true) (h6:PCall P f args' r rows)
  (h7:landS r rows st.hp hp1 st.nx=(v,hp,nx)) (h8:putSt C.N o.dst v st.fr hp nx=some st1) (h:RunS P C l st1 st2):RunS P C (o :: l) st st2:=.one (.call h1 h2 h3 h4 h5 h6 h7 h8 .nil) h
theorem RunS.skip {P:Program} {C:Ctx} {o:PO} {l:List PO} {st st1 st2:St} (h1:guardP st.fr o.g=some false)(h2:putSt C.N o.dst (.tup []) st.fr st.hp st.nx=some st1)(h:RunS P C l st1 st2):RunS P C (o :: l) st st2:=.one (.skip h1 h2 .nil) h
theorem RunS.spec {P:Program} {C:Ctx} {ops:Array Oper} {Q:Exit→Act→World→Prop}:∀ (l:List Oper) (i:Nat) (st st':St),ops.toList.drop i=l→RunS P C (prepL ops l) st st'→∀ (env:Env) (a:Act) (w:World),SimS C env st a w →
  (∀ env' a' w',SimS C env' st' a' w'→Q .normal a' w')→wpOps P ops Q (List.range' i l.length) a w:=by
 intro l
 induction l with
 | nil=>
  intro i st st' hd h env a w hs hk
  cases h
  exact hk env a w hs
 | cons o l ih=>
  intro i st st' hd h env a w hs hk
  have hi:ops[i]? = some o:=by
   have:(ops.toList.drop i)[0]? = some o:=by rw [hd];rfl
   simpa using this
  have hd':ops.toList.drop (i+1)=l:=by
   rw [← List.drop_drop,hd]
   rfl
  rw [List.length_cons,List.range'_succ,wpOps_cons]
  simp only [prepL] at h
  cases h with
  | one h1 h2=>exact RunO.one h1 hi rfl hs fun env' a' w' hs'=>ih (i+1) _ st' hd' h2 env' a' w' hs' hk
  | callT c0 c1 c2 c3 c4 hΦ hst hM c5 c6 h2=>
   subst c5
   have hΦ':=hst _ _ hΦ ⟨hs.st.size,hs.st.os,hs.st.tape,hs.st.output,fun b hb _=>hs.st.keep b hb (hM b),hs.st.shape⟩
   unfold wpOp
   simp only [hi]
   have hw:=guard_sound hs ((guardP_eq ops C.N _ o).trans c1)
   rw [if_pos hw]
   refine .inl ?_
   simp only [opsOf_eq] at c2
   cases hop:o.op with
   | call c=>
    rw [hop] at c0
    simp only [isCall] at c0
    split at c0
    ·rename_i g hcal
     exact callT_sound hs hop hcal c2 c3 c4 hΦ' fun env2 x w2 hs2 hr2=>ih (i+1) _ st' hd' h2 env2 _ w2 (putSt_sound c6 hs2 hr2) hk
    ·cases c0
   | _=>rw [hop] at c0;simp [isCall] at c0
theorem AX.regS {P:Program} {C:Ctx} {st:St} {Q:Exit→St→Prop} (l:List Nat) {id:Nat} {ops:Array Oper} {po:List PO} {fr0 fr:List (Nat × V)} {hp1:List (Nat × Row)} {nx1:Nat} (hp:prep ops=po) (h:RunS P C po st ⟨fr0,hp1,nx1⟩) (hk:Keep l fr0 fr) (hq:Q .normal ⟨fr,hp1,nx1⟩) :
  AX P C (.region id ops false) st Q:=by
 subst hp
 intro env a w hs
 refine wp_region ?_
 have:=RunS.spec (C:=C) (Q:=fun e a' w'=>∃ st' env',Q e st'∧SimS C env' st' a' w') ops.toList 0 st _ (by simp) h env a w hs (fun env' a' w' hs'=>⟨_,env',hq,simS_keep (st:=⟨fr0,hp1,nx1⟩) hk hs'⟩)
 rwa [Array.length_toList,← List.range_eq_range'] at this
theorem AX.sregS {P:Program} {C:Ctx} {st:St} {Q:Exit→St→Prop} (l:List Nat) {id:Nat} {ops:Array Oper} {po:List PO} {fr0 fr:List (Nat × V)} {hp1:List (Nat × Row)} {nx1:Nat} {y:Code} (hp:prep ops=po) (h:RunS P C po st ⟨fr0,hp1,nx1⟩) (hk:Keep l fr0 fr) (hq:AX P C y ⟨fr,hp1,nx1⟩ Q) :
  AX P C (.seq (.region id ops false) y) st Q:=AX.seq (AX.regS l hp h hk hq)
def TrOkC (P:Program) (C:Ctx) (ops:Array Oper) (i:Nat) (T:Tr) (fr0:Nat→Option V) (hp0:Nat→Option Row):Prop:=
 ∀ (env:Env) (fr:Nat→Option V) (hp:Nat→Option Row) (D:Nat→Prop) (a:Act) (w:World),Sim C env fr hp D a w→(∀ t ∈ T.rs,fr t=fr0 t)→(∀ h ∈ T.hr,hp h=hp0 h)→(∀ n ∈ T.nn,¬ D n)→(∃ m,¬ D m) →
  ∀ (K:Act→World→Prop) (Q:Exit→Act→World→Prop),(∀ env' a' w',Sim C env' (wrt fr T.fw) (wrt hp T.hw) (fun m=>D m∨m ∈ T.nn) a' w'→K a' w')→wpOp P ops Q i K a w
theorem TrOk.toC {P:Program} {C:Ctx} {ops:Array Oper} {i:Nat} {T:Tr} {fr0:Nat→Option V} {hp0:Nat→Option Row} (h:TrOk P ops C.N i T fr0 hp0):TrOkC P C ops i T fr0 hp0:=fun env fr hp D a w hs=>h C env fr hp D a w rfl hs
theorem TrOkC.call {Φ:World→Prop} {P:Program} {C:Ctx} {ops:Array Oper} {i:Nat} {o:Oper} (hi:ops[i]? = some o) {st st1:St} {f:FuncId} {caps args:List V} {v:V} (h0:isCall o.op=true) (h1:guardP st.fr (match o.guard with
  | none=>none
  | some (j,w)=>some (gslot ops j,w))=some true) (h2:valsOf st.fr (opsOf o.op)=some (.fn f caps :: args)) (h3:V.hfL (args++caps)=true) (h4:PCallT Φ P f (cnlL (args++caps)) v) (hΦ:Φ C.w0) (hst:Stab Φ) (hM:∀ b,¬ C.M b) (hv:V.hf v=true) (h5:putSt C.N o.dst v st.fr st.hp st.nx=some st1) :
  TrOkC P C ops i ⟨o.dst,slotsOf (opsOf o.op)++gSlot (match o.guard with
  | none=>none
  | some (j,w)=>some (gslot ops j,w)),v,[],[],[]⟩ (lkp st.fr) (lkp st.hp):=by
 intro env fr hpf D a w hs hfr hhp hnn hex K Q hk
 have hΦ':Φ w:=hst _ _ hΦ ⟨hs.st.size,hs.st.os,hs.st.tape,hs.st.output,fun b hb _=>hs.st.keep b hb (hM b),hs.st.shape⟩
 unfold wpOp
 simp only [hi]
 rw [if_pos (guard_sim hs h1 (fun t ht=>hfr t (List.mem_append_right _ ht)))]
 refine .inl ?_
 obtain ⟨hl,hr⟩:=valsOf_sim hs h2 (fun t ht=>hfr t (List.mem_append_left _ ht))
 rw [opsOf_eq] at hl hr
 have hdst:=(putSt_dst h5).1
 obtain ⟨hcf,hcalls⟩:=h4
 cases hop:o.op with
 | call c=>
  rw [hop] at h0 hl hr
  simp only [isCall] at h0
  split at h0
  ·rename_i g hcal
   have hops:(Op.call c).operands.toList=g :: c.args.toList:=by simp [Op.operands,Call.operands,hcal]
   rw [hops] at hl hr
   have hg0:Rep _ w env _ (a.eval g) (.fn f caps):=hr 0 (by simp)
   generalize hgv:a.eval g=gv at hg0
   cases hg0 with
   | fn hsz hcr=>
    rename_i xcaps
    have hrun:(execOp a.eval o).run P w=.ok (.enter f (c.args.map a.eval++xcaps)) w:=by
     unfold execOp
     rw [hop]
     simp only [Sem.run_bind]
     have h1:(resolve a.eval c o.type).run P w=.ok { target:=.fn (.func f) xcaps,args:=c.args.map a.eval } w:=by
      unfold resolve
      simp only [hcal,hgv,Deferred.ofValue,Array.empty_append]
      rfl
     rw [h1]
     simp only [Result.andThen_ok,invoke]
     exact hcf _ _
    unfold Oper.wp
    rw [hrun,Oper.upon_enter]
    have hlen:args.length=c.args.size:=by simpa using hl
    have hrep0:∀ k,k<(args++caps).length→Rep (Fd C env hpf) w env D ((c.args.map a.eval++xcaps).getD k undef) ((args++caps).getD k .junk):=by
     intro k hk
     by_cases hka:k<args.length
     ·have h1:=hr (k+1) (by simp;omega)
      simp only [List.getD_cons_succ] at h1
      have e1:(c.args.map a.eval++xcaps).getD k undef=a.eval (c.args.toList.getD k (.const undef)):=by
       rw [Array.getD_eq_getD_getElem?,Array.getElem?_append_left (by simp;omega)]
       simp [List.getD_eq_getElem?_getD,show k<c.args.size by omega]
      have e2:(args++caps).getD k .junk=args.getD k .junk:=by
       rw [List.getD_eq_getElem?_getD,List.getElem?_append_left hka,← List.getD_eq_getElem?_getD]
      rw [e1,e2]
      exact h1
     ·have e1:(c.args.map a.eval++xcaps).getD k undef=xcaps.getD (k-args.length) undef:=by
       rw [Array.getD_eq_getD_getElem?,Array.getElem?_append_right (by simp;omega),Array.getD_eq_getD_getElem?]
       simp [hlen]
      have e2:(args++caps).getD k .junk=caps.getD (k-args.length) .junk:=by
       rw [List.getD_eq_getElem?_getD,List.getElem?_append_right (by omega),← List.getD_eq_getElem?_getD]
      rw [e1,e2]
      exact hcr _ (by simp at hk;omega)
    refine (hcalls (Fd C env hpf) w (c.args.map a.eval++xcaps) hΦ' (fun b hb=>hs.fd_lt hb) (by rw [cnlL_length,List.length_append,Array.size_append,Array.size_map,hlen,hsz]) (fun k hk=>?_)).mono ?_
    ·rw [cnlL_length] at hk
     rw [cnlL_getD]
     exact ((hrep0 k hk).hf (hfL_getD h3 k)).cnl
    ·rintro e w' ⟨x,rfl,hstep,e1,_,_,_,hrep⟩
     show K (a.put o.dst x) w'
     have e2:(fun m=>D m∨m ∈ ([]:List Nat))=D:=by funext m;simp
     rw [e2] at hk
     refine hk env _ w' (put_sim (T:=⟨o.dst,slotsOf (opsOf o.op)++gSlot (match o.guard with
      | none=>none
      | some (j,w)=>some (gslot ops j,w)),v,[],[],[]⟩) (hs.world hstep) hdst ?_)
     have hrep':Rep (PFd (Fd C env hpf) [] e1) w' env D x v:=hrep.hf hv
     exact hrep'.sub (fun b hb=>.inl hb)
  ·cases h0
 | _=>rw [hop] at h0;simp [isCall] at h0
inductive RunC (P:Program) (C:Ctx):List PO→St→List Tr→St→Prop
 | nil {st:St}:RunC P C [] st [] st
 | tr {o:PO} {l:List PO} {Ts:List Tr} {st st1 st2:St} {T:Tr}:(∀ (ops:Array Oper) (i:Nat) (o':Oper),ops[i]? = some o'→(⟨o'.dst,o'.op,match o'.guard with
  | none=>none
  | some (j,w)=>some (gslot ops j,w)⟩:PO)=o→TrOkC P C ops i T (lkp st.fr) (lkp st.hp))→lkp st1.fr=wrt (lkp st.fr) T.fw→lkp st1.hp=wrt (lkp st.hp) T.hw→RunC P C l st1 Ts st2→RunC P C (o :: l) st (T :: Ts) st2
theorem RunC.op {P:Program} {C:Ctx} {o:PO} {l:List PO} {Ts:List Tr} {st st1 st2:St} {vs:List V} {e:Eff} {v:V} {hp:List (Nat × Row)} {u:Bool} {T:Tr} (h1:isCall o.op=false) (h2:guardP st.fr o.g=some true) (h3:valsOf st.fr (opsOf o.op)=some vs) (h4:eff P o.op vs=some e) (h5:e.runL st.nx st.hp=some (v,hp,u))
  (h6:putSt C.N o.dst v st.fr hp (if u=true then st.nx+1 else st.nx)=some st1) (h7:T=⟨o.dst,slotsOf (opsOf o.op)++gSlot o.g,v,e.rds,e.wws st.nx hp,if u=true then [st.nx] else []⟩) (h8:RunC P C l st1 Ts st2):RunC P C (o :: l) st (T :: Ts) st2:=by
 subst h7
 obtain ⟨_,e1,e2,_⟩:=putSt_dst h6
 refine .tr (fun ops i o' hi ho=>?_) e1 ?_ h8
 ·subst ho
  exact (TrOk.op hi h2 h3 h4 h5 h6).toC
 ·rw [e2]
  exact wws_hp h5
theorem RunC.skip {P:Program} {C:Ctx} {o:PO} {l:List PO} {Ts:List Tr} {st st1 st2:St} {T:Tr} (h1:guardP st.fr o.g=some false)(h2:putSt C.N o.dst (.tup []) st.fr st.hp st.nx=some st1)(h3:T=⟨o.dst,gSlot o.g,.tup [],[],[],[]⟩)(h4:RunC P C l st1 Ts st2):RunC P C (o :: l) st (T :: Ts) st2:=by
 subst h3
 obtain ⟨_,e1,e2,_⟩:=putSt_dst h2
 refine .tr (fun ops i o' hi ho=>?_) e1 (by rw [e2];rfl) h4
 subst ho
 exact (TrOk.skip hi h1 h2).toC
theorem RunC.call {P:Program} {C:Ctx} {o:PO} {l:List PO} {Ts:List Tr} {st st1 st2:St} {f:FuncId} {caps args:List V} {v:V} {T:Tr} (h1:isCall o.op=true) (h2:guardP st.fr o.g=some true) (h3:valsOf st.fr (opsOf o.op)=some (.fn f caps :: args)) (h4:V.hfL (args++caps)=true) (h5:PCall P f (cnlL (args++caps)) v []) (h6:V.hf v=true)
  (h7:putSt C.N o.dst v st.fr st.hp st.nx=some st1) (h8:T=⟨o.dst,slotsOf (opsOf o.op)++gSlot o.g,v,[],[],[]⟩) (h9:RunC P C l st1 Ts st2):RunC P C (o :: l) st (T :: Ts) st2:=by
 subst h8
 obtain ⟨_,e1,e2,_⟩:=putSt_dst h7
 refine .tr (fun ops i o' hi ho=>?_) e1 (by rw [e2];rfl) h9
 subst ho
 exact (TrOk.call hi h1 h2 h3 h4 h5 h6 h7).toC
theorem RunC.callT {Φ:World→Prop} {P:Program} {C:Ctx} {o:PO} {l:List PO} {Ts:List Tr} {st st1 st2:St} {f:FuncId} {caps args:List V} {v:V} {T:Tr} (h1:isCall o.op=true) (h2:guardP st.fr o.g=some true) (h3:valsOf st.fr (opsOf o.op)=some (.fn f caps :: args)) (h4:V.hfL (args++caps)=true) (h5:PCallT Φ P f (cnlL (args++caps)) v) (hΦ:Φ C.w0) (hst:Stab Φ) (hM:∀ b,¬ C.M b) (h6:V.hf v=true)
  (h7:putSt C.N o.dst v st.fr st.hp st.nx=some st1) (h8:T=⟨o.dst,slotsOf (opsOf o.op)++gSlot o.g,v,[],[],[]⟩) (h9:RunC P C l st1 Ts st2):RunC P C (o :: l) st (T :: Ts) st2:=by
 subst h8
 obtain ⟨_,e1,e2,_⟩:=putSt_dst h7
 refine .tr (fun ops i o' hi ho=>?_) e1 (by rw [e2];rfl) h9
 subst ho
 exact TrOkC.call hi h1 h2 h3 h4 h5 hΦ hst hM h6 h7
theorem RunC.spec {P:Program} {C:Ctx} {ops:Array Oper}:∀ {l:List Oper} {i:Nat} {st st':St} {Ts:List Tr},ops.toList.drop i=l→RunC P C (prepL ops l) st Ts st' →
  Ts.length=l.length∧(∀ j T,Ts[j]? = some T→TrOkC P C ops (i+j) T (run (fun m=>decide (m<j)) (Ts.map Tr.fw) 0 (lkp st.fr)) (run (fun m=>decide (m<j)) (Ts.map Tr.hw) 0 (lkp st.hp))) ∧
  lkp st'.fr=run (fun _=>true) (Ts.map Tr.fw) 0 (lkp st.fr)∧lkp st'.hp=run (fun _=>true) (Ts.map Tr.hw) 0 (lkp st.hp):=by
 intro l
 induction l with
 | nil=>
  intro i st st' Ts hd h
  cases h
  exact ⟨rfl,fun j T hT=>by simp at hT,rfl,rfl⟩
 | cons o l ih=>
  intro i st st' Ts hd h
  have hi:ops[i]? = some o:=by
   have:(ops.toList.drop i)[0]? = some o:=by rw [hd];rfl
   simpa using this
  have hd':ops.toList.drop (i+1)=l:=by
   rw [← List.drop_drop,hd]
   rfl
  have fin:∀ {st1:St} {T:Tr} {Ts:List Tr},TrOkC P C ops i T (lkp st.fr) (lkp st.hp)→lkp st1.fr=wrt (lkp st.fr) T.fw→lkp st1.hp=wrt (lkp st.hp) T.hw→RunC P C (prepL ops l) st1 Ts st' →
    (T :: Ts).length=(o :: l).length∧(∀ j T',(T :: Ts)[j]? = some T'→TrOkC P C ops (i+j) T' (run (fun m=>decide (m<j)) ((T :: Ts).map Tr.fw) 0 (lkp st.fr)) (run (fun m=>decide (m<j)) ((T :: Ts).map Tr.hw) 0 (lkp st.hp))) ∧
    lkp st'.fr=run (fun _=>true) ((T :: Ts).map Tr.fw) 0 (lkp st.fr)∧lkp st'.hp=run (fun _=>true) ((T :: Ts).map Tr.hw) 0 (lkp st.hp):=by
   intro st1 T Ts h1 h2 h3 h4
   obtain ⟨g1,g2,g3,g4⟩:=ih hd' h4
   refine ⟨by simp [g1],?_,?_,?_⟩
   ·intro j T' hT'
    cases j with
    | zero=>
     have:T=T':=by simpa using hT'
     subst this
     have e0:(fun m:Nat=>decide (m<0))=fun _=>false:=by funext m;simp
     rw [e0,run_false,run_false]
     exact h1
    | succ j=>
     have hT2:Ts[j]? = some T':=by simpa using hT'
     have:=g2 j T' hT2
     rw [show i+1+j=i+(j+1) by omega] at this
     have e1:∀ {X:Type} (W:List (Nat × X)) (Ws:List (List (Nat × X))) (s:Nat→X),run (fun m=>decide (m<j+1)) (W :: Ws) 0 s=run (fun m=>decide (m<j)) Ws 0 (wrt s W):=by
      intro X W Ws s
      show run (fun m=>decide (m<j+1)) Ws (0+1) (if decide (0<j+1)=true then wrt s W else s)=_
      rw [if_pos (by simp),run_shift]
      congr 1
      funext m
      simp
     rw [List.map_cons,List.map_cons,e1,e1,← h2,← h3]
     exact this
   ·rw [g3,List.map_cons]
    show _=run (fun _=>true) (Ts.map Tr.fw) (0+1) (if true=true then wrt (lkp st.fr) T.fw else lkp st.fr)
    rw [if_pos rfl,run_shift,h2]
   ·rw [g4,List.map_cons]
    show _=run (fun _=>true) (Ts.map Tr.hw) (0+1) (if true=true then wrt (lkp st.hp) T.hw else lkp st.hp)
    rw [if_pos rfl,run_shift,h3]
  simp only [prepL] at h
  cases h with
  | tr h1 h2 h3 h4=>exact fin (h1 ops i o hi rfl) h2 h3 h4
theorem AX.drawnC {P:Program} {C:Ctx} {st st1:St} {Q:Exit→St→Prop} (hmix:P.follows .mixedOrders=true) {id:Nat} {ops:Array Oper} {po:List PO} (hp:prep ops=po) {Ts:List Tr} (h:RunC P C po st Ts st1) {infos:List Info} (hinf:Ts.map Tr.info=infos)
  (hok:okDraw ops infos st.nx st1.nx=true) (hq:Q .normal st1):AX P C (.region id ops true) st Q:=by
 subst hp hinf
 obtain ⟨hlen,htr,hfr,hhp⟩:=RunC.spec (ops:=ops) (i:=0) (by simp) h
 simp only [okDraw,Bool.and_eq_true] at hok
 obtain ⟨⟨hm,hcl⟩,hnm⟩:=hok
 simp only [okNames,Bool.and_eq_true,decide_eq_true_eq] at hnm
 obtain ⟨⟨hnx,hn1⟩,hn2⟩:=hnm
 have hsize:Ts.length=ops.size:=by simpa using hlen
 have hinfo:∀ {j:Nat} {T:Tr},Ts[j]? = some T→(Ts.map Tr.info)[j]? = some T.info:=fun hT=>by simp [hT]
 have hn1':∀ {j:Nat} {T:Tr} {m:Nat},Ts[j]? = some T→m ∈ T.nn→st.nx≤m∧m<st1.nx:=by
  intro j T m hT hm
  rw [List.all_eq_true] at hn1
  have h1:=hn1 T.info (List.mem_of_getElem? (hinfo hT))
  rw [List.all_eq_true] at h1
  have h2:=h1 m hm
  simpa using h2
 have hn2':∀ {i j:Nat} {T U:Tr} {m:Nat},i≠j→Ts[i]? = some T→Ts[j]? = some U→m ∈ T.nn→m ∈ U.nn→False:=by
  have key:∀ {i j:Nat} {T U:Tr} {m:Nat},i<j→Ts[i]? = some T→Ts[j]? = some U→m ∈ T.nn→m ∈ U.nn→False:=by
   intro i j T U m hij hT hU h1 h2
   rw [List.all_eq_true] at hn2
   have hj:j<(Ts.map Tr.info).length:=(List.getElem?_eq_some_iff.1 (hinfo hU)).1
   have g1:=hn2 j (by simpa using hj)
   rw [List.all_eq_true] at g1
   have g2:=g1 i (by simp [hij])
   simp only [hinfo hT,hinfo hU] at g2
   have g3:meet T.info.nn U.info.nn=true:=meet_of h1 h2
   rw [g3] at g2
   simp at g2
  intro i j T U m hij hT hU h1 h2
  rcases Nat.lt_or_gt_of_ne hij with h3 | h3
  ·exact key h3 hT hU h1 h2
  ·exact key h3 hU hT h2 h1
 intro env a w hs
 refine wp_region_any hmix ?_
 have hs0:SimS C env st a { w with drawn:=w.drawn+1 }:=hs.world (step_drawn w _)
 let DL:(Nat→Bool)→Nat→Prop:=fun L m=>m<st.nx∨∃ (i:Nat) (T:Tr),L i=true∧Ts[i]? = some T∧m ∈ T.nn
 -- the invariant
 have main:∀ (fuel:Nat) (listed:Array Bool) (env:Env) (a:Act) (w:World),listed.size=ops.size→Closed ops (fun i=>listed.getD i false) →
   ((List.range ops.size).filter fun i=>!(listed.getD i false)).length=fuel →
   Sim C env (run (fun i=>listed.getD i false) (Ts.map Tr.fw) 0 (lkp st.fr)) (run (fun i=>listed.getD i false) (Ts.map Tr.hw) 0 (lkp st.hp)) (DL fun i=>listed.getD i false) a w →
   wpAny P .any ops (fun e a' w'=>∃ st' env',Q e st'∧SimS C env' st' a' w') fuel listed a w:=by
  intro fuel
  induction fuel with
  | zero=>
   intro listed env a w hsz hclosed hcount hsim
   have hall:∀ i,i<ops.size→listed.getD i false=true:=by
    intro i hi
    have h1:=List.eq_nil_of_length_eq_zero hcount
    rw [List.filter_eq_nil_iff] at h1
    have h2:=h1 i (by simp [hi])
    simpa using h2
   refine ⟨?_,st1,env,hq,?_⟩
   ·rw [List.eq_nil_iff_forall_not_mem]
    intro i hi
    obtain ⟨h1,o,ho,_⟩:=mem_ready.1 hi
    have hlt:i<ops.size:=(Array.getElem?_eq_some_iff.1 ho).1
    have h2:=hall i hlt
    have h3:listed.getD i true=listed.getD i false:=by
     simp [Array.getD_eq_getD_getElem?,show i<listed.size by omega]
    rw [h3,h2] at h1
    cases h1
   ·have e1:run (fun i=>listed.getD i false) (Ts.map Tr.fw) 0 (lkp st.fr)=lkp st1.fr:=by
     rw [hfr]
     funext l
     refine run_agree _ _ _ _ (fun j W hW hne=>?_) rfl
     exfalso
     apply hne
     have:j<ops.size:=by
      have:=(List.getElem?_eq_some_iff.1 hW).1
      simpa [hsize] using this
     simp [hall j this]
    have e2:run (fun i=>listed.getD i false) (Ts.map Tr.hw) 0 (lkp st.hp)=lkp st1.hp:=by
     rw [hhp]
     funext l
     refine run_agree _ _ _ _ (fun j W hW hne=>?_) rfl
     exfalso
     apply hne
     have:j<ops.size:=by
      have:=(List.getElem?_eq_some_iff.1 hW).1
      simpa [hsize] using this
     simp [hall j this]
    rw [e1,e2] at hsim
    refine hsim.dom fun m hm=>?_
    rcases hm with hm | ⟨i,T,_,hT,hmT⟩
    ·exact Nat.lt_of_lt_of_le hm hnx
    ·exact (hn1' hT hmT).2
  | succ fuel ih=>
   intro listed env a w hsz hclosed hcount hsim
   constructor
   ·intro hnil
    exfalso
    -- the first that is not listed is ready
    have hne:((List.range ops.size).filter fun i=>!(listed.getD i false))≠[]:=by
     intro e
     rw [e] at hcount
     simp at hcount
    have hex:∃ i,i<ops.size∧listed.getD i false=false:=by
     obtain ⟨i,hi⟩:=List.exists_mem_of_ne_nil _ hne
     rw [List.mem_filter] at hi
     exact ⟨i,by simpa using hi.1,by simpa using hi.2⟩
    obtain ⟨i,⟨hi,hli⟩,hmin⟩:=exists_least hex
    have ho:ops[i]? = some ops[i]:=Array.getElem?_eq_getElem hi
    obtain ⟨_,h2⟩:=okMasks_at (j:=i) hm (by rw [Array.getElem?_toList];exact ho)
    rw [Nat.zero_add] at h2
    have:i ∈ Region.ready .any ops listed:=by
     refine mem_ready.2 ⟨?_,_,ho,fun e he hb=>?_⟩
     ·have h3:listed.getD i true=listed.getD i false:=by
       simp [Array.getD_eq_getD_getElem?,show i<listed.size by omega]
      rw [h3,hli]
     ·have hlt:=h2 e (by simpa using he) hb
      cases hle:listed.getD e.on false with
      | true=>rfl
      | false=>exact absurd (hmin e.on ⟨Nat.lt_trans hlt hi,hle⟩) (Nat.not_le.2 hlt)
    rw [hnil] at this
    simp at this
   ·intro i hi
    obtain ⟨hnl,o,ho,hedges⟩:=mem_ready.1 hi
    have hlt:i<ops.size:=(Array.getElem?_eq_some_iff.1 ho).1
    have hLi:listed.getD i false=false:=by
     have h3:listed.getD i true=listed.getD i false:=by
      simp [Array.getD_eq_getD_getElem?,show i<listed.size by omega]
     rw [← h3];exact hnl
    obtain ⟨T,hT⟩:∃ T,Ts[i]? = some T:=⟨Ts[i]'(by omega),List.getElem?_eq_getElem (by omega)⟩
    have hok:=htr i T hT
    rw [Nat.zero_add] at hok
    have hedges':∀ e ∈ o.after.toList,Region.binds .any e=true→listed.getD e.on false=true:=fun e he hb=>hedges e (by simpa using he) hb
    -- what must have come before has come;what must come behind has not
    have before:∀ {j:Nat} {U:Tr},j<i→Ts[j]? = some U→clash U.info T.info=true→listed.getD j false=true:=by
     intro j U hj hU hc
     have hb:=okClash_at hcl hj (hinfo hU) (hinfo hT) hc
     exact closed_bit hm hclosed i j hlt hb (.inr ⟨o,ho,hedges'⟩)
    have behind:∀ {j:Nat} {U:Tr},i<j→Ts[j]? = some U→clash T.info U.info=true→listed.getD j false=false:=by
     intro j U hj hU hc
     have hb:=okClash_at hcl hj (hinfo hT) (hinfo hU) hc
     cases hLj:listed.getD j false with
     | false=>rfl
     | true=>
      have hjs:j<ops.size:=by
       have:=(List.getElem?_eq_some_iff.1 hU).1
       omega
      have:=closed_bit hm hclosed j i hjs hb (.inl hLj)
      simp only [hLi] at this
      cases this
    have fwT:∀ {j:Nat} {W:List (Nat × Option V)},(Ts.map Tr.fw)[j]? = some W→∃ U,Ts[j]? = some U∧W=U.fw:=by
     intro j W hW
     rw [List.getElem?_map] at hW
     cases hU:Ts[j]? with
     | none=>simp [hU] at hW
     | some U=>simp [hU] at hW;exact ⟨U,rfl,hW.symm⟩
    have hwT:∀ {j:Nat} {W:List (Nat × Option Row)},(Ts.map Tr.hw)[j]? = some W→∃ U,Ts[j]? = some U∧W=U.hw:=by
     intro j W hW
     rw [List.getElem?_map] at hW
     cases hU:Ts[j]? with
     | none=>simp [hU] at hW
     | some U=>simp [hU] at hW;exact ⟨U,rfl,hW.symm⟩
    have tfw:∀ {U:Tr} {l:Nat},touch U.fw l→U.dst=some l:=by
     intro U l ht
     obtain ⟨p,hp,rfl⟩:=ht
     unfold Tr.fw at hp
     split at hp
     ·rename_i d hd
      rw [hd]
      simp at hp
      subst hp
      rfl
     ·simp at hp
    have thw:∀ {U:Tr} {l:Nat},touch U.hw l→l ∈ U.info.hw:=by
     intro U l ht
     obtain ⟨p,hp,rfl⟩:=ht
     exact List.mem_map.2 ⟨p,hp,rfl⟩
    refine hok env _ _ _ a w hsim ?_ ?_ ?_ ?_ _ _ ?_
    ·intro t ht
     refine run_agree _ _ _ _ (fun j W hW hne hto=>?_) rfl
     rw [Nat.zero_add] at hne
     obtain ⟨U,hU,rfl⟩:=fwT hW
     have hd:=tfw hto
     rcases Nat.lt_or_ge j i with hj | hj
     ·have:=before hj hU (by simp only [clash,Bool.or_eq_true];exact .inl (.inl (.inl (meet_of (x:=t) (by simp [Tr.info,hd]) (by simp [Tr.info,ht])))))
      simp [hj,this] at hne
     ·rcases Nat.eq_or_lt_of_le hj with rfl | hj
      ·simp [hLi] at hne
      ·have:=behind hj hU (by simp only [clash,Bool.or_eq_true];exact .inl (.inl (.inr (meet_of (x:=t) (by simp [Tr.info,hd]) (by simp [Tr.info,ht])))))
       simp [this,Nat.not_lt.2 (Nat.le_of_lt hj)] at hne
    ·intro n hn
     refine run_agree _ _ _ _ (fun j W hW hne hto=>?_) rfl
     rw [Nat.zero_add] at hne
     obtain ⟨U,hU,rfl⟩:=hwT hW
     have hd:=thw hto
     rcases Nat.lt_or_ge j i with hj | hj
     ·have:=before hj hU (by simp only [clash,Bool.or_eq_true];exact .inl (.inr (meet_of (x:=n) hd (by simp [Tr.info,hn]))))
      simp [hj,this] at hne
     ·rcases Nat.eq_or_lt_of_le hj with rfl | hj
      ·simp [hLi] at hne
      ·have:=behind hj hU (by simp only [clash,Bool.or_eq_true];exact .inr (meet_of (x:=n) hd (by simp [Tr.info,hn])))
       simp [this,Nat.not_lt.2 (Nat.le_of_lt hj)] at hne
    ·rintro n hn (h1 | ⟨j,U,hLj,hU,hnU⟩)
     ·exact absurd (hn1' hT hn).1 (Nat.not_le.2 h1)
     ·have:i≠j:=by
       rintro rfl
       simp only [hLi] at hLj
       cases hLj
      exact hn2' this hT hU hn hnU
    ·refine ⟨st1.nx,?_⟩
     rintro (h1 | ⟨j,U,hLj,hU,hnU⟩)
     ·exact absurd hnx (Nat.not_le.2 h1)
     ·exact absurd (hn1' hU hnU).2 (Nat.lt_irrefl _)
    ·intro env' a' w' hs'
     have hL':∀ j,(listed.setIfInBounds i true).getD j false=if j=i then true else listed.getD j false:=by
      intro j
      by_cases e:j=i
      ·subst e
       simp [Array.getD_eq_getD_getElem?,show j<listed.size by omega]
      ·rw [if_neg e,Array.getD_eq_getD_getElem?,Array.getElem?_setIfInBounds_ne (Ne.symm e),← Array.getD_eq_getD_getElem?]
     refine ih (listed.setIfInBounds i true) env' a' w' (by simpa using hsz) ?_ ?_ ?_
     ·intro j oj hoj hLj e he hb
      simp only [hL'] at hLj ⊢
      by_cases ej:j=i
      ·subst ej
       rw [ho] at hoj
       cases hoj
       have:=hedges' e he hb
       by_cases e2:e.on=j
       ·simp [e2]
       ·rw [if_neg e2];exact this
      ·rw [if_neg ej] at hLj
       have:=hclosed j oj hoj hLj e he hb
       by_cases e2:e.on=i
       ·simp [e2]
       ·rw [if_neg e2];exact this
     ·have:=filter_drop (List.nodup_range (n:=ops.size)) (i:=i) (by simp [hlt]) (p:=fun j=>!(listed.getD j false)) (q:=fun j=>!((listed.setIfInBounds i true).getD j false)) (by simp [hLi]) (by simp [hL']) (fun j hj=>by simp [hL',hj])
      omega
     ·have e1:run (fun j=>(listed.setIfInBounds i true).getD j false) (Ts.map Tr.fw) 0 (lkp st.fr)=wrt (run (fun j=>listed.getD j false) (Ts.map Tr.fw) 0 (lkp st.fr)) T.fw:=by
       funext l
       by_cases ht:touch T.fw l
       ·refine run_touch (i:=i) _ 0 _ _ T.fw (Nat.zero_le _) (by simp [hT]) (by simp [hL']) ht (fun j W hj _ hW hLj hto=>?_)
        rw [Nat.sub_zero] at hW
        obtain ⟨U,hU,rfl⟩:=fwT hW
        have h1:=tfw ht
        have h2:=tfw hto
        have:=behind hj hU (by simp only [clash,Bool.or_eq_true];exact .inl (.inl (.inl (meet_of (x:=l) (by simp [Tr.info,h1]) (by simp [Tr.info,h2])))))
        simp only [hL',if_neg (show j≠i by omega),this] at hLj
        cases hLj
       ·rw [wrt_untouch _ _ _ ht]
        refine run_agree _ _ _ _ (fun j W hW hne hto=>?_) rfl
        rw [Nat.zero_add] at hne
        by_cases ej:j=i
        ·subst ej
         obtain ⟨U,hU,rfl⟩:=fwT hW
         rw [hT] at hU
         cases hU
         exact ht hto
        ·simp [hL',ej] at hne
      have e2:run (fun j=>(listed.setIfInBounds i true).getD j false) (Ts.map Tr.hw) 0 (lkp st.hp)=wrt (run (fun j=>listed.getD j false) (Ts.map Tr.hw) 0 (lkp st.hp)) T.hw:=by
       funext l
       by_cases ht:touch T.hw l
       ·refine run_touch (i:=i) _ 0 _ _ T.hw (Nat.zero_le _) (by simp [hT]) (by simp [hL']) ht (fun j W hj _ hW hLj hto=>?_)
        rw [Nat.sub_zero] at hW
        obtain ⟨U,hU,rfl⟩:=hwT hW
        have h1:=thw ht
        have h2:=thw hto
        have:=behind hj hU (by simp only [clash,Bool.or_eq_true];exact .inl (.inr (meet_of (x:=l) h1 (by simp [h2]))))
        simp only [hL',if_neg (show j≠i by omega),this] at hLj
        cases hLj
       ·rw [wrt_untouch _ _ _ ht]
        refine run_agree _ _ _ _ (fun j W hW hne hto=>?_) rfl
        rw [Nat.zero_add] at hne
        by_cases ej:j=i
        ·subst ej
         obtain ⟨U,hU,rfl⟩:=hwT hW
         rw [hT] at hU
         cases hU
         exact ht hto
        ·simp [hL',ej] at hne
      rw [e1,e2]
      refine hs'.dom fun m hm=>?_
      rcases hm with (h1 | ⟨j,U,hLj,hU,hmU⟩) | h1
      ·exact .inl h1
      ·refine .inr ⟨j,U,?_,hU,hmU⟩
       simp only [hL']
       split
       ·rfl
       ·exact hLj
      ·exact .inr ⟨i,T,by simp [hL'],hT,h1⟩
 have hL0:(fun i=>(Array.replicate ops.size false).getD i false)=fun _=>false:=by
  funext i
  rw [Array.getD_eq_getD_getElem?]
  cases h:(Array.replicate ops.size false)[i]? with
  | none=>rfl
  | some b=>
   have:=Array.getElem?_eq_some_iff.1 h
   obtain ⟨_,h2⟩:=this
   simp at h2
   subst h2
   rfl
 refine main ops.size (Array.replicate ops.size false) env a _ (by simp) ?_ ?_ ?_
 ·intro j o ho hL
  have h0:(Array.replicate ops.size false).getD j false=false:=congrFun hL0 j
  have h1:(Array.replicate ops.size false).getD j false=true:=hL
  rw [h0] at h1
  cases h1
 ·have:((List.range ops.size).filter fun i=>!((Array.replicate ops.size false).getD i false))=List.range ops.size:=by
   rw [List.filter_eq_self]
   intro i hi
   have h0:(Array.replicate ops.size false).getD i false=false:=congrFun hL0 i
   rw [h0]
   rfl
  rw [this]
  simp
 ·rw [hL0,run_false,run_false]
  exact hs0.dom fun m hm=>.inl hm
theorem AX.dregC {P:Program} {C:Ctx} {st:St} {Q:Exit→St→Prop} (l:List Nat) (hmix:P.follows .mixedOrders=true) {id:Nat} {ops:Array Oper} {po:List PO} {fr0 fr:List (Nat × V)} {hp1:List (Nat × Row)} {nx1:Nat} (hp:prep ops=po) {Ts:List Tr} (h:RunC P C po st Ts ⟨fr0,hp1,nx1⟩) (hk:Keep l fr0 fr)
  (hok:okDraw ops (Ts.map Tr.info) st.nx nx1=true) (hq:Q .normal ⟨fr,hp1,nx1⟩):AX P C (.region id ops true) st Q:=by
 have h1:AX P C (.region id ops true) st (fun e s=>e=.normal∧s=⟨fr0,hp1,nx1⟩):=AX.drawnC hmix hp h rfl hok ⟨rfl,rfl⟩
 intro env a w hs
 refine wp_mono (h1 env a w hs) ?_
 rintro e a' w' ⟨s,env',⟨rfl,rfl⟩,hs'⟩
 exact ⟨_,env',hq,simS_keep (st:=⟨fr0,hp1,nx1⟩) hk hs'⟩
theorem AX.sdregC {P:Program} {C:Ctx} {st:St} {Q:Exit→St→Prop} (l:List Nat) (hmix:P.follows .mixedOrders=true) {id:Nat} {ops:Array Oper} {po:List PO} {fr0 fr:List (Nat × V)} {hp1:List (Nat × Row)} {nx1:Nat} {y:Code} (hp:prep ops=po) {Ts:List Tr} (h:RunC P C po st Ts ⟨fr0,hp1,nx1⟩) (hk:Keep l fr0 fr)
  (hok:okDraw ops (Ts.map Tr.info) st.nx nx1=true) (hq:AX P C y ⟨fr,hp1,nx1⟩ Q):AX P C (.seq (.region id ops true) y) st Q:=AX.seq (AX.dregC l hmix hp h hk hok hq)
end Go.Proofs.YteidabibgjokkaaGreatDoor.Lift
set_option linter.all false
namespace Go.Proofs.YteidabibgjokkaaGreatDoor
open Go Go.Proofs.YteidabibgjokkaaGreatDoor.Lift
attribute [local irreducible] Lift.PCall Lift.HCall
def rhoI:Go.Shelf.Ren:=⟨fun
 | 129=>168
 | 171=>76
 | 243=>125
 | 246=>149
 | 283=>159
 | 284=>160
 | 285=>161
 | 286=>162
 | 317=>167
 | 318=>169
 | 319=>170
 | 320=>171
 | 337=>177
 | 338=>178
 | n=>n,fun
 | 0=>0
 | 2=>2
 | 3=>3
 | 4=>4
 | 5=>5
 | 9=>9
 | 20=>20
 | 37=>190
 | 46=>76
 | 51=>142
 | 53=>106
 | 171=>187
 | 173=>191
 | 212=>197
 | 213=>198
 | 232=>204
 | 233=>205
 | n=>n,fun
 | 17=>0
 | 18=>1
 | 19=>2
 | n=>n⟩
theorem layI:LaysM.n171 Tryz.prog rhoI where
 mixed:=by kernel_rfl
 f129:=by kernel_rfl
 f171:=by kernel_rfl
 f243:=by kernel_rfl
 f246:=by kernel_rfl
 f283:=by kernel_rfl
 f284:=by kernel_rfl
 f285:=by kernel_rfl
 f286:=by kernel_rfl
 f317:=by kernel_rfl
 f318:=by kernel_rfl
 f319:=by kernel_rfl
 f320:=by kernel_rfl
 f337:=by kernel_rfl
 f338:=by kernel_rfl
 t0:=by kernel_rfl
 a0:=fun _=>by kernel_rfl
 z0:=fun _=>by kernel_rfl
 v0:=fun _=>by kernel_rfl
 t2:=by kernel_rfl
 a2:=fun _=>by kernel_rfl
 z2:=fun _=>by kernel_rfl
 v2:=fun _=>by kernel_rfl
 t3:=by kernel_rfl
 a3:=fun _=>by kernel_rfl
 z3:=fun _=>by kernel_rfl
 v3:=fun _=>by kernel_rfl
 t4:=by kernel_rfl
 a4:=fun _=>by kernel_rfl
 z4:=fun _=>by kernel_rfl
 v4:=fun _=>by kernel_rfl
 t5:=by kernel_rfl
 a5:=fun _=>by kernel_rfl
 z5:=fun _=>by kernel_rfl
 v5:=fun _=>by kernel_rfl
 t9:=by kernel_rfl
 a9:=fun _=>by kernel_rfl
 z9:=fun _=>by kernel_rfl
 v9:=fun _=>by kernel_rfl
 t20:=by kernel_rfl
 a20:=fun _=>by kernel_rfl
 z20:=fun _=>by kernel_rfl
 v20:=fun _=>by kernel_rfl
 t37:=by kernel_rfl
 a37:=fun _=>by kernel_rfl
 z37:=fun _=>by kernel_rfl
 v37:=fun _=>by kernel_rfl
 t46:=by kernel_rfl
 a46:=fun _=>by kernel_rfl
 z46:=fun _=>by kernel_rfl
 v46:=fun _=>by kernel_rfl
 t51:=by kernel_rfl
 a51:=fun _=>by kernel_rfl
 z51:=fun _=>by kernel_rfl
 v51:=fun _=>by kernel_rfl
 t53:=by kernel_rfl
 a53:=fun _=>by kernel_rfl
 z53:=fun _=>by kernel_rfl
 v53:=fun _=>by kernel_rfl
 t171:=by kernel_rfl
 a171:=fun _=>by kernel_rfl
 z171:=fun _=>by kernel_rfl
 v171:=fun _=>by kernel_rfl
 t173:=by kernel_rfl
 a173:=fun _=>by kernel_rfl
 z173:=fun _=>by kernel_rfl
 v173:=fun _=>by kernel_rfl
 t212:=by kernel_rfl
 a212:=fun _=>by kernel_rfl
 z212:=fun _=>by kernel_rfl
 v212:=fun _=>by kernel_rfl
 t213:=by kernel_rfl
 a213:=fun _=>by kernel_rfl
 z213:=fun _=>by kernel_rfl
 t232:=by kernel_rfl
 a232:=fun _=>by kernel_rfl
 z232:=fun _=>by kernel_rfl
 v232:=fun _=>by kernel_rfl
 t233:=by kernel_rfl
 a233:=fun _=>by kernel_rfl
 z233:=fun _=>by kernel_rfl
 v233:=fun _=>by kernel_rfl
 g17:=by kernel_rfl
 g18:=by kernel_rfl
 g19:=by kernel_rfl
 i0:=by kernel_rfl
 i2:=by kernel_rfl
 i3:=by kernel_rfl
 i4:=by kernel_rfl
 i5:=by kernel_rfl
 i9:=by kernel_rfl
 i20:=by kernel_rfl
 i37:=by kernel_rfl
 i46:=by kernel_rfl
 i51:=by kernel_rfl
 i53:=by kernel_rfl
 i171:=by kernel_rfl
 i173:=by kernel_rfl
 i212:=by kernel_rfl
 i232:=by kernel_rfl
 i233:=by kernel_rfl
 m17:=by kernel_rfl
 m18:=by kernel_rfl
 m19:=by kernel_rfl
def TabP (w:World):Prop:=Lib.TabIs Tryz.prog w "internal/strconv.uint64pow10" .u64 Lib.pow10Tab
theorem tabP_st:Stab TabP:=fun w w' h hs=>by
 unfold TabP Lib.TabIs World.var? at *
 cases hg:Tryz.prog.globalNamed "internal/strconv.uint64pow10" with
 | none=>rw [hg] at h;cases h
 | some g=>
  rw [hg] at h
  simp only [Option.bind_some] at h ⊢
  cases hw:w.heap[g]? with
  | none=>rw [hw] at h;cases h
  | some o=>
   rw [hs.keep g (lt_of_heap hw) (fun f=>f),hw]
   rw [hw] at h
   exact h
theorem step_grow (w:World)(k:Nat)(os:Array Obj):Step (fun _=>False) w (Go.Sort.grow (w.drewN k) os) where
 size:=by
  show w.heap.size≤(w.heap++os).size
  simp
 os:=rfl
 tape:=rfl
 output:=rfl
 keep b hb _:=by
  show (w.heap++os)[b]? = w.heap[b]?
  rw [Array.getElem?_append_left hb]
 shape b c T z h:=⟨c,rfl,by
  show (w.heap++os)[b]? = _
  rw [Array.getElem?_append_left (lt_of_heap h)]
  exact h⟩
def itB (x:Int):ByteArray:=⟨(Lib.itoa x).toArray⟩
theorem dec_len:∀ (k u:Nat),u<10 ^ (k+1)→(Lib.decDigits u).length≤k+1
 | 0,u,h=>by
  rw [Lib.decDigits,dif_pos (by omega)]
  exact Nat.le_refl _
 | k+1,u,h=>by
  rw [Lib.decDigits]
  split
  ·simp
  ·have ih:=dec_len k (u / 10) (by rw [Nat.pow_succ] at h;omega)
   rw [List.length_append,List.length_singleton]
   omega
theorem itB_size {x:Int} (h0:0≤x)(h1:x≤100000):(itB x).size≤20:=by
 have e:Lib.itoa x=Lib.decDigits x.toNat:=if_neg (by omega)
 have h:=dec_len 5 x.toNat (by omega)
 show (Lib.itoa x).toArray.size≤20
 rw [e,List.size_toArray]
 omega
theorem itoaT_ok (n:Int)(h0:0≤n)(h1:n≤100000):PCallT TabP Tryz.prog 76 [.i .i64 n] (.s (itB n)):=by
 refine ⟨Tryz.call76,fun O w xs hΦ hO hsz hr=>?_⟩
 obtain ⟨xl⟩:=xs
 match xl,hsz with
 | [a],hs3=>
 have h2:Rep O w _ _ a (.i .i64 n):=hr 0 (by simp)
 have e1:=h2.int_inv.1
 subst e1
 have hk:=Any.strconv_Itoa layI n (by omega) (by omega) w hΦ
 refine Calls.mono hk ?_
 rintro e w' ⟨rfl,k,os,rfl⟩
 refine ⟨_,rfl,step_grow w k os,fun _=>none,fun h q hq=>?_,fun h b hb=>?_,fun h h' b hb=>?_,.s ?_⟩
 ·simp at hq
 ·simp at hb
 ·simp at hb
 ·exact Nat.lt_of_le_of_lt (itB_size h0 h1) (by decide)
theorem dec_dig:∀ (k u:Nat),u<10 ^ (k+1)→∀ c ∈ Lib.decDigits u,c≠32
 | 0,u,h,c,hc=>by
  rw [Lib.decDigits,dif_pos (by omega)] at hc
  simp only [List.mem_singleton] at hc
  subst hc
  have hu:u<10:=by omega
  intro e
  have:=congrArg UInt8.toNat e
  rw [UInt8.toNat_ofNat_of_lt' (by show 48+u<256;omega)] at this
  have:48+u=32:=this
  omega
 | k+1,u,h,c,hc=>by
  rw [Lib.decDigits] at hc
  split at hc
  ·rename_i hu
   simp only [List.mem_singleton] at hc
   subst hc
   intro e
   have:=congrArg UInt8.toNat e
   rw [UInt8.toNat_ofNat_of_lt' (by show 48+u<256;omega)] at this
   have:48+u=32:=this
   omega
  ·rcases List.mem_append.1 hc with hc | hc
   ·exact dec_dig k (u / 10) (by rw [Nat.pow_succ] at h;omega) c hc
   ·simp only [List.mem_singleton] at hc
    subst hc
    intro e
    have:=congrArg UInt8.toNat e
    rw [UInt8.toNat_ofNat_of_lt' (by show 48+u % 10<256;omega)] at this
    have:48+u % 10=32:=this
    omega
def dval (l:List UInt8):Nat:=l.foldl (fun a c=>a*10+(c.toNat-48)) 0
theorem dval_dec:∀ (k u:Nat),u<10 ^ (k+1)→dval (Lib.decDigits u)=u
 | 0,u,h=>by
  rw [Lib.decDigits,dif_pos (by omega)]
  show 0*10+((UInt8.ofNat (48+u)).toNat-48)=u
  rw [UInt8.toNat_ofNat_of_lt' (by show 48+u<256;omega)]
  omega
 | k+1,u,h=>by
  rw [Lib.decDigits]
  split
  ·show 0*10+((UInt8.ofNat (48+u)).toNat-48)=u
   rw [UInt8.toNat_ofNat_of_lt' (by show 48+u<256;omega)]
   omega
  ·have ih:=dval_dec k (u / 10) (by rw [Nat.pow_succ] at h;omega)
   unfold dval at *
   rw [List.foldl_append,ih]
   show u / 10*10+((UInt8.ofNat (48+u % 10)).toNat-48)=u
   rw [UInt8.toNat_ofNat_of_lt' (by show 48+u % 10<256;omega)]
   omega
theorem dec_inj {u v:Nat} (hu:u≤100000)(hv:v≤100000)(h:Lib.decDigits u=Lib.decDigits v):u=v:=by
 have h1:=dval_dec 5 u (by omega)
 have h2:=dval_dec 5 v (by omega)
 rw [← h1,h,h2]
theorem split32:∀ {a b r s:List UInt8},(∀ c ∈ a,c≠32)→(∀ c ∈ b,c≠32)→a++32 :: r=b++32 :: s→a=b∧r=s
 | [],[],r,s,_,_,h=>by
  simp at h
  exact ⟨rfl,h⟩
 | [],y :: b,r,s,_,hb,h=>by
  simp at h
  exact absurd h.1.symm (hb y (by simp))
 | x :: a,[],r,s,ha,_,h=>by
  simp at h
  exact absurd h.1 (ha x (by simp))
 | x :: a,y :: b,r,s,ha,hb,h=>by
  simp at h
  obtain ⟨h1,h2⟩:=split32 (a:=a) (b:=b) (fun c hc=>ha c (by simp [hc])) (fun c hc=>hb c (by simp [hc])) h.2
  exact ⟨by rw [h.1,h1],h2⟩
def nameL:List Int→List UInt8
 | []=>[]
 | x :: l=>Lib.itoa x++32 :: nameL l
theorem nameB_fold:∀ (l:List Int) (s:ByteArray),(l.foldl (fun s x=>s++(itB x++⟨#[32]⟩)) s).data.toList=s.data.toList++nameL l
 | [],s=>by simp [nameL]
 | x :: l,s=>by
  rw [List.foldl_cons,nameB_fold l]
  have e:(s++(itB x++⟨#[32]⟩):ByteArray).data.toList=s.data.toList++(Lib.itoa x++[32]):=by
   rw [ByteArray.data_append,ByteArray.data_append,Array.toList_append,Array.toList_append]
   rfl
  rw [e,nameL]
  simp
theorem nameL_inj:∀ {a b:List Int},a.length=b.length→(∀ x ∈ a,0≤x∧x≤100000)→(∀ x ∈ b,0≤x∧x≤100000)→nameL a=nameL b→a=b
 | [],[],_,_,_,_=>rfl
 | [],_ :: _,h,_,_,_=>by cases h
 | _ :: _,[],h,_,_,_=>by cases h
 | x :: a,y :: b,h,ha,hb,e=>by
  have hx:=ha x (by simp)
  have hy:=hb y (by simp)
  have ex:Lib.itoa x=Lib.decDigits x.toNat:=if_neg (by omega)
  have ey:Lib.itoa y=Lib.decDigits y.toNat:=if_neg (by omega)
  rw [nameL,nameL,ex,ey] at e
  obtain ⟨h1,h2⟩:=split32 (dec_dig 5 x.toNat (by omega)) (dec_dig 5 y.toNat (by omega)) e
  have h3:=dec_inj (by omega) (by omega) h1
  have h4:=nameL_inj (a:=a) (b:=b) (by simpa using h) (fun z hz=>ha z (by simp [hz])) (fun z hz=>hb z (by simp [hz])) h2
  rw [h4,show x=y by omega]
theorem nameB_inj {a b:List Int} (h:a.length=b.length)(ha:∀ x ∈ a,0≤x∧x≤100000)(hb:∀ x ∈ b,0≤x∧x≤100000)(e:nameB itB a=nameB itB b):a=b:=by
 have h1:=nameB_fold a ByteArray.empty
 have h2:=nameB_fold b ByteArray.empty
 have e2:(nameB itB a).data.toList=(nameB itB b).data.toList:=by rw [e]
 unfold nameB at e2
 rw [h1,h2] at e2
 exact nameL_inj h ha hb (by simpa using e2)
set_option maxHeartbeats 4000000 in
theorem cnameT_ok {Φ:World→Prop} (hSt:Stab Φ)(f:Int→ByteArray)(l:List Int)(hl:l.length≤64)(hf:∀ x ∈ l,(f x).size≤20)(hI:∀ x ∈ l,PCallT Φ Tryz.prog 76 [.i .i64 x] (.s (f x))):PCallT Φ Tryz.prog 40 [.sl (wl l)] (.s (nameB f l)):=by
 refine PCallT.of_ax Tryz.call40 Tryz.func40 rfl (by simp [Tryz.ntmps40]) fun O w hPh=>?_
 simp only [Tryz.ntmps40,Tryz.results40,argFr]
 have hml:=wl_length l
 have hsz:=nameB_size hf
 refine AX.sR (rgAV [0]) ?_
 refine AX.sR (rgAV [0,3]) ?_
 refine AX.seq ?_
 refine AX.sR (rgWV [3,6,7,8] (aI @hml oT) oT) ?_
 refine AX.weaken id (st':=⟨[(8,.i .i64 (0:Nat)),(7,.i .i64 l.length),(6,.sl (wl l)),(3,.s ByteArray.empty)],[],0⟩)
  leQ6
  ?_
 refine AX.block ?_
 refine AX.loop (fun N st=>∃ (i:Nat) (s:ByteArray),i≤l.length∧N=l.length-i∧s=nameB f (l.take i)∧st=⟨[(8,.i .i64 i),(7,.i .i64 l.length),(6,.sl (wl l)),(3,.s s)],[],0⟩) l.length ⟨0,_,Nat.zero_le _,rfl,rfl,rfl⟩ ?_
 rintro N st ⟨i,s,hi,rfl,hs,rfl⟩
 by_cases h1:i<l.length
 ·have hg:=wl_get h1
  have hsn:=nameB_take (f:=f) h1
  have b1:=hsz i hi
  have c1:=hI _ (getD_mem_W h1)
  have b2:=hf _ (getD_mem_W h1)
  rw [← hs] at hsn b1
  have b3:(f (l.getD i 0)++⟨#[32]⟩).size=(f (l.getD i 0)).size+1:=by rw [ByteArray.size_append];rfl
  generalize l.getD i 0=x at *
  generalize wl l=A at *
  generalize f x=fx at *
  have k1:=fun x y t y'=>effCatS (P:=Tryz.prog) (t:=t) (y':=y') (x:=x) (y:=y) (a:=fx) (b:=⟨#[32]⟩) (by rw [show (⟨#[32]⟩:ByteArray).size=1 from rfl];omega)
  have k2:=fun x y t y'=>effCatS (P:=Tryz.prog) (t:=t) (y':=y') (x:=x) (y:=y) (a:=s) (b:=fx++⟨#[32]⟩) (by omega)
  refine AX.sR (rgAV [3,6,7,8,9]) ?_
  refine AX.seq ?_
  refine AX.condT ?_
  refine AX.keepA [3,6,7,8] ?_
  refine AX.skip ?_
  refine nmZ ?_
  refine AX.seq ?_
  refine AX.block ?_
  refine AX.sR (rgWV [3,5,6,7,8] (aI @hml (aI @hg oT)) oT) ?_
  apply AX.regS [3,6,7,8] (by simp only [pq];rfl)
  ·repeat (first
  |(apply RunS.op rfl;· rfl
    ·(simp only [opsOf,valsOf,valOf,lkp,ofConst,ofCell,Array.toList,Option.toList,List.map_cons,List.map_nil,List.cons_append,List.nil_append,List.append_nil,Nat.reduceEqDiff,Nat.reducePow,Nat.reduceLT,Nat.reduceLeDiff,reduceIte,if_true,if_false,IntKind.min,IntKind.max,IntKind.bits,IntKind.signed,Int.reduceLE,Int.reduceNeg,Int.reducePow,Int.reduceSub,and_self,Bool.false_eq_true,Nat.reduceSub];rfl)
    ·first | exact k1 _ _ _ _ | exact k2 _ _ _ _ | (simp (disch:=omega) only [go_sem,i64_of,u32_of,u64_of,Nat.reduceLT,Nat.reduceLeDiff,Nat.reduceEqDiff,Nat.reduceAdd,Nat.reduceSub,Nat.reduceMul,Nat.reducePow,Nat.reduceBEq,Int.reduceLE,Int.reduceLT,Int.reduceToNat,Int.reduceEq,Int.reduceNeg,↓reduceIte,reduceCtorEq];rfl)
    ·(simp (disch:=omega) only [go_sem,i64_of,u32_of,u64_of,Nat.reduceLT,Nat.reduceLeDiff,Nat.reduceEqDiff,Nat.reduceAdd,Nat.reduceSub,Nat.reduceMul,Nat.reducePow,Nat.reduceBEq,Int.reduceLE,Int.reduceLT,Int.reduceToNat,Int.reduceEq,Int.reduceNeg,↓reduceIte,reduceCtorEq];rfl)
    ·(simp only [pb,Nat.reduceLT,Nat.reduceAdd,reduceIte];rfl))
  |(apply RunS.callT rfl;· rfl
    ·(simp only [opsOf,valsOf,valOf,lkp,ofConst,ofCell,Array.toList,Option.toList,List.map_cons,List.map_nil,List.cons_append,List.nil_append,List.append_nil,Nat.reduceEqDiff,Nat.reducePow,Nat.reduceLT,Nat.reduceLeDiff,reduceIte,if_true,if_false,IntKind.min,IntKind.max,IntKind.bits,IntKind.signed,Int.reduceLE,Int.reduceNeg,Int.reducePow,Int.reduceSub,and_self,Bool.false_eq_true,Nat.reduceSub];rfl)
    ·rfl
    ·exact c1
    ·exact hPh
    ·exact hSt
    ·exact fun _ h=>h
    ·rfl
    ·(simp only [pb,Nat.reduceLT,Nat.reduceAdd,reduceIte];rfl))
  |(apply RunS.skip;· rfl
    ·(simp only [pb,Nat.reduceLT,Nat.reduceAdd,reduceIte];rfl)))
   exact RunS.nil
  ·repeat (first | exact Keep.nil | (apply Keep.take;· rfl) | (apply Keep.drop;· rfl))
  refine nmZ ?_
  refine AX.rR (rgWV [3,6,7,8] (aI @lit_add oT) oT) ?_
  refine nmZ ?_
  refine ⟨_,_,id,?_,
   leQ6
   , ⟨i+1,_,by omega,rfl,hsn.symm,rfl⟩⟩
  omega
 ·obtain rfl:i=l.length:=by omega
  rw [List.take_length] at hs
  rw [← hs]
  refine AX.sR (rgAV [3,6,7,8,9]) ?_
  refine AX.seq ?_
  refine AX.condF ?_
  refine AX.exit ?_
  refine nmZ ?_
  refine AX.sR (rgAV [2]) ?_
  refine AX.ret ⟨.inl rfl,?_⟩
  exact Done.one rfl rfl rfl rfl
set_option maxHeartbeats 16000000 in
theorem make_walkT {Φ:World→Prop} (hSt:Stab Φ) (f:Int→ByteArray) (B:Int) (l0:List Int) (h0:isO l0=true) (hB:sumI l0≤B+1)
  (hfs:∀ x,0≤x→x≤B→(f x).size≤20) (hI:∀ x,0≤x→x≤B→PCallT Φ Tryz.prog 76 [.i .i64 x] (.s (f x)))
  (hinj:∀ a b:List Int,a.length=b.length→(∀ x ∈ a,0≤x∧x≤B)→(∀ x ∈ b,0≤x∧x≤B)→nameB f a=nameB f b→a=b):PCallT Φ Tryz.prog 11 [.sl (wl l0)] (mkV l0):=by
 obtain ⟨hF,n2,n3⟩:=isL_first h0
 obtain ⟨q1,q2,q3⟩:=isO_iff.1 h0
 have c1:=crightO_ok l0 (by omega) (fun x hx=>by have:=q3 x hx;omega)
 have cS:=csum_ok l0 (by omega) (fun x hx=>by have:=q3 x hx;omega)
 rw [h0] at c1
 rw [mkV_eq h0]
 obtain ⟨X,hX⟩:∃ X,mkS (sumI l0) 61 l0 [] []=X:=⟨_,rfl⟩
 rw [hX]
 generalize hn:sumI l0=n at *
 clear hn
 obtain ⟨L,hL⟩:∃ L,l0.length=L:=⟨_,rfl⟩
 rw [hL] at hF q2
 refine PCallT.of_ax Tryz.call11 Tryz.func11 rfl (by simp [Tryz.ntmps11]) fun O w hPh=>?_
 simp only [Tryz.ntmps11,Tryz.results11,argFr]
 refine AX.sR (rgAV [0,2]) ?_
 refine AX.seq ?_
 refine AX.sR (rgCV [0,2,21] (aI c1 oT)) ?_
 refine AX.condF ?_
 refine AX.keepA [0,2] ?_
 refine AX.skip ?_
 refine nmZ ?_
 refine AX.sR (rgCV [0,2,4] (aI cS oT)) ?_
 refine AX.sR (rgAV [0,2,4,5]) ?_
 refine AX.sR (rgAV [0,2,4,5,6]) ?_
 refine AX.own0c 2 0 64 2 rfl rfl (by show 0<1;decide) ?_
 refine AX.sR (rgAV [2,4,5,6,7]) ?_
 refine AX.weaken id (st':=⟨[(7,.sl (wl l0)),(6,.ptr 2 0),(5,.mp 1),(4,.i .i64 n),(2,.ptr 0 0)],[(3,⟨64,wl (fl ([]:T2))⟩),(2,⟨25,[.own 3 0 ([]:T2).length 2]⟩),(1,⟨85,[.tab []]⟩),(0,⟨25,[.nl]⟩)],4⟩)
  leQ6
  ?_
 refine AX.block ?_
 refine AX.loop (fun N st=>∃ (R:List Int) (M:Lv) (S:T2) (m:Nat),IsL n L R m∧1≤m∧lookL R M=none∧(∀ p ∈ M,p.1.length=L∧(∀ x ∈ p.1,0≤x∧x<n)∧p.2≤60)∧61≤S.length+N∧S.length≤60∧mkS n N R M S=X∧st=⟨[(7,.sl (wl R)),(6,.ptr 2 0),(5,.mp 1),(4,.i .i64 n),(2,.ptr 0 0)],[(3,⟨64,wl (fl S)⟩),(2,⟨25,[.own 3 0 (S).length 2]⟩),(1,⟨85,[.tab (ksM f M)]⟩),(0,⟨25,[.nl]⟩)],4⟩) 61 ⟨l0,[],[],1,hF,Nat.le_refl _,rfl,(fun p hp=>by cases hp),by simp,by simp,hX,rfl⟩ ?_
 clear c1 cS hX hF h0 q1 q3 hL
 clear l0
 rintro N st ⟨R,M,S,m,hR,hm,hlk,hM,hN,hS,hmk,rfl⟩
 obtain ⟨k,rfl⟩:∃ k,N=k+1:=⟨N-1,by omega⟩
 obtain ⟨hmo,hL2⟩:=hR.next (by omega)
 have hmL:=hR.m_lt (by omega)
 obtain ⟨hdv,htd⟩:=hR.div (by omega)
 have lR:=hR.len
 have cN1:=cnameT_ok hSt f R (by omega) (fun x hx=>hfs x (hR.bd x hx).1 (by have:=(hR.bd x hx).2;omega)) (fun x hx=>hI x (hR.bd x hx).1 (by have:=(hR.bd x hx).2;omega))
 have cS1:=csum_ok R (by omega) (fun x hx=>by have:=hR.bd x hx;omega)
 have cX:=cnext_ok R n (by omega) (fun x hx=>by have:=hR.bd x hx;omega) (by omega)
 have hob:∀ x ∈ outI n R R.length,0≤x∧x≤64:=fun x hx=>by
  obtain ⟨j,hj,rfl⟩:=mem_outI hx
  omega
 have hol:=outI_le n R R.length
 obtain ⟨o,ho⟩:∃ o,outI n R R.length=o:=⟨_,rfl⟩
 obtain ⟨l,hl⟩:∃ l,nxtI n R R.length=l:=⟨_,rfl⟩
 rw [ho] at hmo hL2 cX hob hol
 rw [hl] at hL2 cX
 have ll:=hL2.len
 have cN2:=cnameT_ok hSt f l (by omega) (fun x hx=>hfs x (hL2.bd x hx).1 (by have:=(hL2.bd x hx).2;omega)) (fun x hx=>hI x (hL2.bd x hx).1 (by have:=(hL2.bd x hx).2;omega))
 have hf1:K0.find (.s (nameB f R)) (ksM f M)=some none:=by
  rw [find_ks (fun p hp e=>hinj R p.1 (lR.trans (hM p hp).1.symm) (fun x hx=>by have:=hR.bd x hx;omega) (fun x hx=>by have:=(hM p hp).2.1 x hx;omega) e),hlk]
  rfl
 have hM2:∀ p ∈ M++[(R,S.length)],p.1.length=L∧(∀ x ∈ p.1,0≤x∧x<n)∧p.2≤60:=fun p hp=>by
  rcases List.mem_append.1 hp with hp | hp
  ·exact hM p hp
  ·simp only [List.mem_singleton] at hp
   subst hp
   exact ⟨lR,hR.bd,hS⟩
 have hf2:K0.find (.s (nameB f l)) (ksM f (M++[(R,S.length)]))=some ((lookL l (M++[(R,S.length)])).map fun v=>K0.i .i64 v):=find_ks (fun p hp e=>hinj l p.1 (ll.trans (hM2 p hp).1.symm) (fun x hx=>by have:=hL2.bd x hx;omega) (fun x hx=>by have:=(hM2 p hp).2.1 x hx;omega) e)
 have hks:=ksM_app f M R S.length
 obtain ⟨q,hq⟩:∃ q,lookL l (M++[(R,S.length)])=q:=⟨_,rfl⟩
 have hqb:∀ v,q=some v→v≤60:=fun v hv=>(hM2 _ (lookL_mem (hq.trans hv))).2.2
 rw [mkS_succ hdv ho hl hq] at hmk
 rw [hq] at hf2
 have hlo:=wl_length o
 have hol64:o.length≤64:=by omega
 have hm64:m≤64:=by omega
 obtain ⟨more,hmore⟩:∃ more,2*m-o.length=more:=⟨_,rfl⟩
 have hm2:2*(m:Int)-(o.length:Int)=(more:Int):=by omega
 have hmo128:more≤128:=by omega
 rw [hmore] at hmk hL2
 have hn0:(n=0)=False:=by simp only [eq_iff_iff,iff_false];omega
 generalize sumI R=sR at *
 generalize nameB f R=NR at *
 generalize nameB f l=NL at *
 generalize hKM:ksM f M=K at *
 generalize hKM2:ksM f (M++[(R,S.length)])=K2 at *
 refine AX.block ?_
 apply AX.sdregC [2,4,5,6,7] (by kernel_rfl) (by simp only [pq];rfl)
 ·repeat (first
 |(apply RunC.op rfl;· rfl
   ·(simp only [opsOf,valsOf,valOf,lkp,ofConst,ofCell,Array.toList,Option.toList,List.map_cons,List.map_nil,List.cons_append,List.nil_append,List.append_nil,Nat.reduceEqDiff,Nat.reducePow,Nat.reduceLT,Nat.reduceLeDiff,reduceIte,if_true,if_false,IntKind.min,IntKind.max,IntKind.bits,IntKind.signed,Int.reduceLE,Int.reduceNeg,Int.reducePow,Int.reduceSub,and_self,Bool.false_eq_true,Nat.reduceSub];rfl)
   iterate 2 (· (simp (disch:=omega) only [go_sem,i64_of,u32_of,u64_of,Nat.reduceLT,Nat.reduceLeDiff,Nat.reduceEqDiff,Nat.reduceAdd,Nat.reduceSub,Nat.reduceMul,Nat.reducePow,Nat.reduceBEq,Int.reduceLE,Int.reduceLT,Int.reduceToNat,Int.reduceEq,Int.reduceNeg,↓reduceIte,reduceCtorEq,hf1];rfl))
   ·(simp only [pb,Nat.reduceLT,Nat.reduceAdd,reduceIte];rfl)
   ·rfl)
 |(apply RunC.callT rfl;· rfl
   ·(simp only [opsOf,valsOf,valOf,lkp,ofConst,ofCell,Array.toList,Option.toList,List.map_cons,List.map_nil,List.cons_append,List.nil_append,List.append_nil,Nat.reduceEqDiff,Nat.reducePow,Nat.reduceLT,Nat.reduceLeDiff,reduceIte,if_true,if_false,IntKind.min,IntKind.max,IntKind.bits,IntKind.signed,Int.reduceLE,Int.reduceNeg,Int.reducePow,Int.reduceSub,and_self,Bool.false_eq_true,Nat.reduceSub];rfl)
   ·rfl
   ·(first | (simp only [cnlL,cnl,List.append_nil,List.cons_append,List.nil_append];exact cN1) | exact cN1)
   ·exact hPh
   ·exact hSt
   ·exact fun _ h=>h
   ·rfl
   ·(simp only [pb,Nat.reduceLT,Nat.reduceAdd,reduceIte];rfl)
   ·rfl)
 |(apply RunC.skip;· rfl
   ·(simp only [pb,Nat.reduceLT,Nat.reduceAdd,reduceIte];rfl)
   ·rfl))
  exact RunC.nil
 ·repeat (first | exact Keep.nil | (apply Keep.take;· rfl) | (apply Keep.drop;· rfl))
 ·kernel_rfl
 rw [hks]
 refine AX.sR (rgWV [2,4,5,6,7,8] (aI @hn0 (aI @htd oT)) (aI cS1 oT)) ?_
 refine AX.sR (rgCV [2,4,5,6,8,9,10] (aI cX oT)) ?_
 refine AX.sR (rgWV [2,4,5,6,8,9,10,11] (aI @hlo (aI @hm2 oT)) oT) ?_
 refine AX.cut (fun st=>Le 0 id ⟨[(13,.b q.isSome),(12,.i .i64 ((q.getD 0:Nat):Int)),(11,.i .i64 more),(10,.sl (wl l)),(9,.sl (wl o)),(8,.i .i64 m),(6,.ptr 2 0),(5,.mp 1),(4,.i .i64 n),(2,.ptr 0 0)],[(3,⟨64,wl (fl S)⟩),(2,⟨25,[.own 3 0 (S).length 2]⟩),(1,⟨85,[.tab K2]⟩),(0,⟨25,[.nl]⟩)],4⟩ st) ?_ ?_
 ·cases q with
  | none=>
   replace hf2:K0.find (.s NL) K2=some none:=hf2
   apply AX.regS [2,4,5,6,8,9,10,11,12,13] (by simp only [pq];rfl)
   ·repeat (first
   |(apply RunS.op rfl;· rfl
     ·(simp only [opsOf,valsOf,valOf,lkp,ofConst,ofCell,Array.toList,Option.toList,List.map_cons,List.map_nil,List.cons_append,List.nil_append,List.append_nil,Nat.reduceEqDiff,Nat.reducePow,Nat.reduceLT,Nat.reduceLeDiff,reduceIte,if_true,if_false,IntKind.min,IntKind.max,IntKind.bits,IntKind.signed,Int.reduceLE,Int.reduceNeg,Int.reducePow,Int.reduceSub,and_self,Bool.false_eq_true,Nat.reduceSub];rfl)
     iterate 2 (· (simp (disch:=omega) only [go_sem,i64_of,u32_of,u64_of,Nat.reduceLT,Nat.reduceLeDiff,Nat.reduceEqDiff,Nat.reduceAdd,Nat.reduceSub,Nat.reduceMul,Nat.reducePow,Nat.reduceBEq,Int.reduceLE,Int.reduceLT,Int.reduceToNat,Int.reduceEq,Int.reduceNeg,↓reduceIte,reduceCtorEq,hf2];rfl))
     ·(simp only [pb,Nat.reduceLT,Nat.reduceAdd,reduceIte];rfl))
   |(apply RunS.callT rfl;· rfl
     ·(simp only [opsOf,valsOf,valOf,lkp,ofConst,ofCell,Array.toList,Option.toList,List.map_cons,List.map_nil,List.cons_append,List.nil_append,List.append_nil,Nat.reduceEqDiff,Nat.reducePow,Nat.reduceLT,Nat.reduceLeDiff,reduceIte,if_true,if_false,IntKind.min,IntKind.max,IntKind.bits,IntKind.signed,Int.reduceLE,Int.reduceNeg,Int.reducePow,Int.reduceSub,and_self,Bool.false_eq_true,Nat.reduceSub];rfl)
     ·rfl
     ·exact cN2
     ·exact hPh
     ·exact hSt
     ·exact fun _ h=>h
     ·rfl
     ·(simp only [pb,Nat.reduceLT,Nat.reduceAdd,reduceIte];rfl))
   |(apply RunS.skip;· rfl
     ·(simp only [pb,Nat.reduceLT,Nat.reduceAdd,reduceIte];rfl)))
    exact RunS.nil
   ·repeat (first | exact Keep.nil | (apply Keep.take;· rfl) | (apply Keep.drop;· rfl))
   exact ⟨rfl,
    leQ6
    ⟩
  | some v=>
   replace hf2:K0.find (.s NL) K2=some (some (.i .i64 v)):=hf2
   apply AX.regS [2,4,5,6,8,9,10,11,12,13] (by simp only [pq];rfl)
   ·repeat (first
   |(apply RunS.op rfl;· rfl
     ·(simp only [opsOf,valsOf,valOf,lkp,ofConst,ofCell,Array.toList,Option.toList,List.map_cons,List.map_nil,List.cons_append,List.nil_append,List.append_nil,Nat.reduceEqDiff,Nat.reducePow,Nat.reduceLT,Nat.reduceLeDiff,reduceIte,if_true,if_false,IntKind.min,IntKind.max,IntKind.bits,IntKind.signed,Int.reduceLE,Int.reduceNeg,Int.reducePow,Int.reduceSub,and_self,Bool.false_eq_true,Nat.reduceSub];rfl)
     iterate 2 (· (simp (disch:=omega) only [go_sem,i64_of,u32_of,u64_of,Nat.reduceLT,Nat.reduceLeDiff,Nat.reduceEqDiff,Nat.reduceAdd,Nat.reduceSub,Nat.reduceMul,Nat.reducePow,Nat.reduceBEq,Int.reduceLE,Int.reduceLT,Int.reduceToNat,Int.reduceEq,Int.reduceNeg,↓reduceIte,reduceCtorEq,hf2];rfl))
     ·(simp only [pb,Nat.reduceLT,Nat.reduceAdd,reduceIte];rfl))
   |(apply RunS.callT rfl;· rfl
     ·(simp only [opsOf,valsOf,valOf,lkp,ofConst,ofCell,Array.toList,Option.toList,List.map_cons,List.map_nil,List.cons_append,List.nil_append,List.append_nil,Nat.reduceEqDiff,Nat.reducePow,Nat.reduceLT,Nat.reduceLeDiff,reduceIte,if_true,if_false,IntKind.min,IntKind.max,IntKind.bits,IntKind.signed,Int.reduceLE,Int.reduceNeg,Int.reducePow,Int.reduceSub,and_self,Bool.false_eq_true,Nat.reduceSub];rfl)
     ·rfl
     ·exact cN2
     ·exact hPh
     ·exact hSt
     ·exact fun _ h=>h
     ·rfl
     ·(simp only [pb,Nat.reduceLT,Nat.reduceAdd,reduceIte];rfl))
   |(apply RunS.skip;· rfl
     ·(simp only [pb,Nat.reduceLT,Nat.reduceAdd,reduceIte];rfl)))
    exact RunS.nil
   ·repeat (first | exact Keep.nil | (apply Keep.take;· rfl) | (apply Keep.drop;· rfl))
   exact ⟨rfl,
    leQ6
    ⟩
 intro st hle
 refine AX.weaken id hle ?_
 clear hle
 refine AX.cut (fun st=>Le 0 id ⟨[(13,.b q.isSome),(12,.i .i64 ((q.getD (S.length+m):Nat):Int)),(11,.i .i64 more),(10,.sl (wl l)),(9,.sl (wl o)),(8,.i .i64 m),(6,.ptr 2 0),(5,.mp 1),(4,.i .i64 n),(2,.ptr 0 0)],[(3,⟨64,wl (fl S)⟩),(2,⟨25,[.own 3 0 (S).length 2]⟩),(1,⟨85,[.tab K2]⟩),(0,⟨25,[.nl]⟩)],4⟩ st) ?_ ?_
 ·cases q with
  | none=>
   refine AX.sR (rgAV [2,4,5,6,8,9,10,11,12,13,56]) ?_
   refine AX.condT ?_
   refine AX.rR (rgWV [2,4,5,6,8,9,10,11,12,13] (aI @lit_add oT) oT) ?_
   exact ⟨rfl,
    leQ6
    ⟩
  | some v=>
   refine AX.sR (rgAV [2,4,5,6,8,9,10,11,12,13,56]) ?_
   refine AX.condF ?_
   refine AX.keepA [2,4,5,6,8,9,10,11,12,13] ?_
   refine AX.skip ?_
   exact ⟨rfl,
    leQ6
    ⟩
 intro st hle
 refine AX.weaken id hle ?_
 clear hle
 have hto:q.getD (S.length+m)≤124:=by
  cases q with
  | none=>show S.length+m≤124;omega
  | some v=>have:=hqb v rfl;show v≤124;omega
 clear hqb hf1 hf2 cN1 cN2 cS1 cX hks hdv htd
 obtain ⟨to,hto2⟩:∃ to,q.getD (S.length+m)=to:=⟨_,rfl⟩
 rw [hto2] at hmk hto ⊢
 refine AX.sR (rgAV [2,4,5,6,8,9,10,11,12,13,14]) ?_
 refine AX.own0 14 3 1 rfl ?_
 refine AX.seq ?_
 refine AX.sR (rgWV [2,4,5,6,8,10,11,12,13,14,62,63,64] (aI @hlo oT) oT) ?_
 refine AX.weaken id (st':=⟨[(64,.i .i64 (0:Nat)),(63,.i .i64 o.length),(62,.sl (wl o)),(14,.own 4 0 (endsO o 0).length 1),(13,.b q.isSome),(12,.i .i64 (to:Nat)),(11,.i .i64 more),(10,.sl (wl l)),(8,.i .i64 m),(6,.ptr 2 0),(5,.mp 1),(4,.i .i64 n),(2,.ptr 0 0)],[(4,⟨3,wl (endsO o 0)⟩),(3,⟨64,wl (fl S)⟩),(2,⟨25,[.own 3 0 (S).length 2]⟩),(1,⟨85,[.tab K2]⟩),(0,⟨25,[.nl]⟩)],5⟩)
  leQ6
  ?_
 refine AX.block ?_
 refine AX.loop (fun N st=>∃ (i:Nat) (e:List Int),i≤o.length∧N=o.length-i∧endsO o i=e∧st=⟨[(64,.i .i64 i),(63,.i .i64 o.length),(62,.sl (wl o)),(14,.own 4 0 e.length 1),(13,.b q.isSome),(12,.i .i64 (to:Nat)),(11,.i .i64 more),(10,.sl (wl l)),(8,.i .i64 m),(6,.ptr 2 0),(5,.mp 1),(4,.i .i64 n),(2,.ptr 0 0)],[(4,⟨3,wl e⟩),(3,⟨64,wl (fl S)⟩),(2,⟨25,[.own 3 0 (S).length 2]⟩),(1,⟨85,[.tab K2]⟩),(0,⟨25,[.nl]⟩)],5⟩) o.length ⟨0,_,Nat.zero_le _,rfl,rfl,rfl⟩ ?_
 rintro N st ⟨i,e,hi,rfl,he,rfl⟩
 by_cases h3:i<o.length
 ·have hg:=wl_get h3
  have hb:=hob _ (getD_mem_W h3)
  have s1:=endsO_succ h3
  have le:=endsO_length hi
  rw [he] at s1 le
  have hle:=wl_length e
  generalize o.getD i 0=x at *
  have happ:=wl_app e (-1-x)
  have hlen:(e++[-1-x]).length=e.length+1:=by simp
  generalize e++[-1-x]=e2 at *
  refine AX.sR (rgAV [2,4,5,6,8,10,11,12,13,14,62,63,64,65]) ?_
  refine AX.seq ?_
  refine AX.condT ?_
  refine AX.keepA [2,4,5,6,8,10,11,12,13,14,62,63,64] ?_
  refine AX.skip ?_
  refine nmZ ?_
  refine AX.seq ?_
  refine AX.block ?_
  refine AX.sR (rgWV [2,4,5,6,8,10,11,12,13,14,16,62,63,64] (aI @hlo (aI @hg oT)) oT) ?_
  refine AX.rR (rgWV [2,4,5,6,8,10,11,12,13,14,62,63,64] (aI @hle (aI @zerosV_1 (aI @tkS (aI @tk0 oT)))) oT) ?_
  refine nmZ ?_
  rw [happ]
  refine AX.rR (rgWV [2,4,5,6,8,10,11,12,13,14,62,63,64] (aI @lit_add oT) oT) ?_
  refine nmZ ?_
  refine ⟨_,_,fun n=>if n=4 then 6 else n,?_,
   leQ6
   , ⟨i+1,e2,by omega,rfl,s1,rfl⟩⟩
  omega
 obtain rfl:i=o.length:=by omega
 refine AX.sR (rgAV [2,4,5,6,8,10,11,12,13,14,62,63,64,65]) ?_
 refine AX.seq ?_
 refine AX.condF ?_
 refine AX.exit ?_
 refine nmZ ?_
 refine AX.seq ?_
 refine AX.sR (rgAV [2,4,5,6,8,10,11,12,13,14,74,75]) ?_
 have hE0:endsO o o.length++endsM to 0=e:=by rw [he];exact List.append_nil e
 refine AX.weaken id (st':=⟨[(75,.i .i64 (0:Nat)),(74,.i .i64 more),(14,.own 4 0 e.length 1),(13,.b q.isSome),(12,.i .i64 (to:Nat)),(11,.i .i64 more),(10,.sl (wl l)),(8,.i .i64 m),(6,.ptr 2 0),(5,.mp 1),(4,.i .i64 n),(2,.ptr 0 0)],[(4,⟨3,wl e⟩),(3,⟨64,wl (fl S)⟩),(2,⟨25,[.own 3 0 (S).length 2]⟩),(1,⟨85,[.tab K2]⟩),(0,⟨25,[.nl]⟩)],5⟩)
  leQ6
  ?_
 refine AX.block ?_
 refine AX.loop (fun N st=>∃ (i:Nat) (e:List Int),i≤more∧N=more-i∧endsO o o.length++endsM to i=e∧st=⟨[(75,.i .i64 i),(74,.i .i64 more),(14,.own 4 0 e.length 1),(13,.b q.isSome),(12,.i .i64 (to:Nat)),(11,.i .i64 more),(10,.sl (wl l)),(8,.i .i64 m),(6,.ptr 2 0),(5,.mp 1),(4,.i .i64 n),(2,.ptr 0 0)],[(4,⟨3,wl e⟩),(3,⟨64,wl (fl S)⟩),(2,⟨25,[.own 3 0 (S).length 2]⟩),(1,⟨85,[.tab K2]⟩),(0,⟨25,[.nl]⟩)],5⟩) more ⟨0,_,Nat.zero_le _,rfl,hE0,rfl⟩ ?_
 clear hE0 he hi
 clear e
 rintro N st ⟨i,e,hi,rfl,he,rfl⟩
 by_cases h4:i<more
 ·have s1:endsO o o.length++endsM to (i+1)=e++[((to+i:Nat):Int)]:=by
   rw [endsM_succ,← List.append_assoc,he]
   simp
  have le:e.length=o.length+i:=by rw [← he,List.length_append,endsO_length (Nat.le_refl _),endsM_length]
  have hle:=wl_length e
  have happ:=wl_app e ((to+i:Nat):Int)
  have hlen:(e++[((to+i:Nat):Int)]).length=e.length+1:=by simp
  have hti:(to:Int)+(i:Int)=((to+i:Nat):Int):=by omega
  generalize ((to+i:Nat):Int)=ti at *
  have hti1:-9223372036854775808≤ti∧ti≤9223372036854775807:=by omega
  generalize e++[ti]=e2 at *
  refine AX.sR (rgAV [2,4,5,6,8,10,11,12,13,14,74,75,76]) ?_
  refine AX.seq ?_
  refine AX.condT ?_
  refine AX.keepA [2,4,5,6,8,10,11,12,13,14,74,75] ?_
  refine AX.skip ?_
  refine nmZ ?_
  refine AX.seq ?_
  refine AX.block ?_
  refine AX.sR (rgAV [2,4,5,6,8,10,11,12,13,14,17,74,75]) ?_
  refine AX.rR (rgWV [2,4,5,6,8,10,11,12,13,14,74,75] (aI @hti (aI @hle (aI @zerosV_1 (aI @tkS (aI @tk0 oT))))) oT) ?_
  refine nmZ ?_
  rw [happ]
  refine AX.rR (rgWV [2,4,5,6,8,10,11,12,13,14,74,75] (aI @lit_add oT) oT) ?_
  refine nmZ ?_
  refine ⟨_,_,fun n=>if n=4 then 6 else n,?_,
   leQ6
   , ⟨i+1,e2,by omega,rfl,s1,rfl⟩⟩
  omega
 obtain rfl:i=more:=by omega
 refine AX.sR (rgAV [2,4,5,6,8,10,11,12,13,14,74,75,76]) ?_
 refine AX.seq ?_
 refine AX.condF ?_
 refine AX.exit ?_
 refine nmZ ?_
 refine AX.seq ?_
 refine AX.sR (rgAV [2,4,5,6,10,11,13,14,85,86]) ?_
 have hE:endsI o to i=e:=he
 have le:e.length=2*m:=by rw [← hE,endsI_length];omega
 rw [hE] at hmk
 clear hE he hob hlo hol hto2 hto
 have hP0:S++pairsI e 0=S:=List.append_nil S
 refine AX.weaken id (st':=⟨[(86,.i .i64 (0:Nat)),(85,.i .i64 m),(14,.own 4 0 e.length 1),(13,.b q.isSome),(11,.i .i64 i),(10,.sl (wl l)),(6,.ptr 2 0),(5,.mp 1),(4,.i .i64 n),(2,.ptr 0 0)],[(4,⟨3,wl e⟩),(3,⟨64,wl (fl S)⟩),(2,⟨25,[.own 3 0 (S).length 2]⟩),(1,⟨85,[.tab K2]⟩),(0,⟨25,[.nl]⟩)],5⟩)
  leQ6
  ?_
 refine AX.block ?_
 refine AX.loop (fun N st=>∃ (j:Nat) (Sj:T2),j≤m∧N=m-j∧S++pairsI e j=Sj∧st=⟨[(86,.i .i64 j),(85,.i .i64 m),(14,.own 4 0 e.length 1),(13,.b q.isSome),(11,.i .i64 i),(10,.sl (wl l)),(6,.ptr 2 0),(5,.mp 1),(4,.i .i64 n),(2,.ptr 0 0)],[(4,⟨3,wl e⟩),(3,⟨64,wl (fl Sj)⟩),(2,⟨25,[.own 3 0 Sj.length 2]⟩),(1,⟨85,[.tab K2]⟩),(0,⟨25,[.nl]⟩)],5⟩) m ⟨0,S,Nat.zero_le _,rfl,hP0,rfl⟩ ?_
 rintro N st ⟨j,Sj,hj,rfl,hSj,rfl⟩
 by_cases h5:j<m
 ·have hg1:=wl_get (l:=e) (j:=2*j) (by omega)
  have hg2:=wl_get (l:=e) (j:=2*j+1) (by omega)
  have s1:S++pairsI e (j+1)=Sj++[(e.getD (2*j) 0,e.getD (2*j+1) 0)]:=by rw [pairsI_succ,← List.append_assoc,hSj]
  have hle:=wl_length e
  have h2j:(2:Int)*(j:Int)=((2*j:Nat):Int):=by omega
  have lSj:Sj.length≤128:=by rw [← hSj,List.length_append,pairsI_length];omega
  have hwf:=wlfl_length Sj
  generalize e.getD (2*j) 0=a at *
  generalize e.getD (2*j+1) 0=b at *
  have happ:=wl_fl Sj a b
  have hlen:(Sj++[(a,b)]).length=Sj.length+1:=by simp
  generalize Sj++[(a,b)]=S2 at *
  refine AX.sR (rgAV [2,4,5,6,10,11,13,14,85,86,87]) ?_
  refine AX.seq ?_
  refine AX.condT ?_
  refine AX.keepA [2,4,5,6,10,11,13,14,85,86] ?_
  refine AX.skip ?_
  refine nmZ ?_
  refine AX.seq ?_
  refine AX.block ?_
  refine AX.sR (rgAV [2,4,5,6,10,11,13,14,18,85,86]) ?_
  refine AX.rD (rgDEV [2,4,5,6,10,11,13,14,85,86] (aI @h2j (aI @hle (aI @hg1 (aI @hg2 (aI @hwf (aI @lit_add (aI @zerosV_1 (aI @tkS (aI @tk0 oT))))))))) oT (aI (effBd2 _ _) (aI (effBs2 _) oT))) ?_
  refine nmZ ?_
  rw [happ]
  refine AX.rR (rgWV [2,4,5,6,10,11,13,14,85,86] (aI @lit_add oT) oT) ?_
  refine nmZ ?_
  refine ⟨_,_,fun n=>if n=3 then 6 else n,?_,
   (leQ6H hlen)
   , ⟨j+1,S2,by omega,rfl,s1,rfl⟩⟩
  omega
 obtain rfl:j=m:=by omega
 refine AX.sR (rgAV [2,4,5,6,10,11,13,14,85,86,87]) ?_
 refine AX.seq ?_
 refine AX.condF ?_
 refine AX.exit ?_
 refine nmZ ?_
 rw [hSj] at hmk
 have lS2:Sj.length=S.length+j:=by rw [← hSj,List.length_append,pairsI_length]
 refine AX.seq ?_
 by_cases h6:60<Sj.length
 ·rw [if_pos h6] at hmk
  subst hmk
  refine AX.sR (rgAV [2,4,5,6,10,11,13,110]) ?_
  refine AX.condT ?_
  refine AX.sR (rgAV [2,3]) ?_
  refine AX.ret ⟨.inl rfl,?_⟩
  exact Done.smpN rfl rfl rfl
 rw [if_neg h6] at hmk
 refine AX.sR (rgAV [2,4,5,6,10,11,13,110]) ?_
 refine AX.condF ?_
 refine AX.keepA [2,4,5,6,10,11,13] ?_
 refine AX.skip ?_
 refine nmZ ?_
 refine AX.seq ?_
 have hfin:q.isSome=true∨i=0→X=some (some Sj):=fun h=>by rw [if_pos h] at hmk;exact hmk.symm
 have hgo:q.isSome=false→i≠0→mkS n k l (M++[(R,S.length)]) Sj=X:=fun h1 h2=>by
  rw [if_neg] at hmk
  ·exact hmk
  ·rw [h1]
   exact fun h=>h.elim Bool.false_ne_true h2
 cases hqs:q.isSome
 ·by_cases h7:i=0
  ·rw [hfin (.inr h7)]
   refine AX.sR (rgAV [2,4,5,6,10,116]) ?_
   refine AX.condT ?_
   refine AX.sR (rgAV [2,3]) ?_
   refine AX.ret ⟨.inl rfl,?_⟩
   exact Done.smpO rfl rfl rfl rfl rfl
  ·have hmk2:=hgo hqs h7
   refine AX.sR (rgAV [2,4,5,6,10,116]) ?_
   refine AX.condF ?_
   refine AX.keepA [2,4,5,6,10] ?_
   refine AX.skip ?_
   refine nmZ ?_
   refine AX.rR (rgAV [2,4,5,6,7]) ?_
   refine nmZ ?_
   subst hKM2
   rw [Option.isSome_eq_false_iff,Option.isNone_iff_eq_none] at hqs
   refine ⟨_,_,id,?_,
    leQ6
    , ⟨l,M++[(R,S.length)],Sj,i,hL2,by omega,hq.trans hqs,hM2,by omega,by omega,hmk2,rfl⟩⟩
   omega
 ·rw [hfin (.inl hqs)]
  refine AX.sR (rgAV [2,4,5,6,10,116]) ?_
  refine AX.condT ?_
  refine AX.sR (rgAV [2,3]) ?_
  refine AX.ret ⟨.inl rfl,?_⟩
  exact Done.smpO rfl rfl rfl rfl rfl
theorem makeT_ok (l:List Int)(h:isO l=true):PCallT TabP Tryz.prog 11 [.sl (wl l)] (mkV l):=by
 obtain ⟨_,n2,n3⟩:=isL_first h
 exact make_walkT tabP_st itB 100000 l h (by omega) (fun x h1 h2=>itB_size h1 h2) (fun x h1 h2=>itoaT_ok x h1 h2) (fun a b h1 h2 h3 h4=>nameB_inj h1 h2 h3 h4)
end Go.Proofs.YteidabibgjokkaaGreatDoor
