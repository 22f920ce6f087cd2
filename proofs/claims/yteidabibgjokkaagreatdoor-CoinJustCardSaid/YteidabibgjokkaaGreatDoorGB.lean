import Derived.Test.YteidabibgjokkaaGreatDoorGE
import Derived.Scope
set_option maxRecDepth 20000
set_option linter.all false
namespace Go.Proofs.YteidabibgjokkaaGreatDoor.Lift
open Go
inductive FzV (n:Nat) (cs:List V):V→V→Prop
 | same {v:V}:FzV n cs v v
 | ptr {off:Nat} {ds:List V}:cs.drop off=ds→FzV n cs (.ptr n off) (.rp ds)
 | own {off len E:Nat} {els:List V}:okFrz off len E cs=true→chunks E len ((cs.drop off).take (len*E))=els→FzV n cs (.own n off len E) (.sl els)
 | agg {l l':List V}:l.length=l'.length→(∀ k,k<l'.length→FzV n cs (l.getD k .junk) (l'.getD k .junk))→FzV n cs (.agg l) (.agg l')
 | tup {l l':List V}:l.length=l'.length→(∀ k,k<l'.length→FzV n cs (l.getD k .junk) (l'.getD k .junk))→FzV n cs (.tup l) (.tup l')
 | fn {f:Nat} {l l':List V}:l.length=l'.length→(∀ k,k<l'.length→FzV n cs (l.getD k .junk) (l'.getD k .junk))→FzV n cs (.fn f l) (.fn f l')
theorem fd_upd_none {C:Ctx} {env:Env} {fr:Nat→Option V} {hp:Nat→Option Row} {D:Nat→Prop} {a:Act} {w:World} (hs:Sim C env fr hp D a w) {n blk:Nat} {r:Row} (hr:hp n=some r)(he:env n=some blk):¬ Fd C env (upd hp n none) blk:=by
 have hsome:(hp n).isSome=true:=by simp [hr]
 rintro (ho | ⟨m,hm,he'⟩)
 ·exact (hs.old n blk hsome he).1 ho
 ·by_cases e:m=n
  ·subst e;simp at hm
  ·rw [upd_ne _ _ e] at hm
   exact e (hs.inj m n blk hm hsome he' he)
theorem Rep.fzv {C:Ctx} {env:Env} {fr:Nat→Option V} {hp:Nat→Option Row} {D:Nat→Prop} {a:Act} {w:World} (hs:Sim C env fr hp D a w) {n:Nat} {r:Row} (hr:hp n=some r) (hh:V.hfL r.cells=true) {v v':V} (h:FzV n r.cells v v') :
  ∀ x:Value,Rep (Fd C env hp) w env D x v→Rep (Fd C env (upd hp n none)) w env D x v':=by
 induction h with
 | same=>exact fun x hx=>hx.sub fun b=>Fd.drop
 | ptr hd=>
  rename_i off ds
  intro x hx
  subst hd
  have hpc:=fun blk (he:env n=some blk)=>hx.ptr_cells he
  obtain ⟨blk,rfl,he,hD⟩:=hx.ptr_inv
  obtain ⟨c,hw,hl,hc⟩:=good_loadRow hs hr he (hpc _ he)
  refine .rp (fun k=>c.getD (off+k) undef) (fd_upd_none hs hr he) (lt_of_heap hw) (fun k hk=>?_) (fun k hk=>?_)
  ·have:k<r.cells.length-off:=by simpa using hk
   exact cell_row hw (by omega)
  ·have hk':k<r.cells.length-off:=by simpa using hk
   have e2:(r.cells.drop off).getD k .junk=r.cells.getD (off+k) .junk:=by
    simp [List.getD_eq_getElem?_getD]
   rw [e2]
   exact ((hc (off+k) (by omega)).hf (hfL_getD hh _)).sub fun b=>Fd.drop
 | own hk he=>
  rename_i off len E els
  intro x hx
  subst he
  unfold okFrz at hk
  simp only [Bool.and_eq_true,decide_eq_true_eq] at hk
  obtain ⟨⟨⟨c1,c2⟩,c3⟩,c4⟩:=hk
  cases hx with
  | own a1 a2 a3 a4 a5=>
   rename_i cap blk
   obtain ⟨c,hw,hl,hc⟩:=good_loadRow hs hr a2 (by obtain ⟨c,T,z,h,_⟩:=a5;exact ⟨c,T,z,h⟩)
   refine rep_chunks hw (fd_upd_none hs hr a2) c1 (by simp;omega) (by omega) a3 a4 c3 fun k hk=>?_
   have hk':k<len*E:=by simp at hk;omega
   have e2:((r.cells.drop off).take (len*E)).getD k .junk=r.cells.getD (off+k) .junk:=by
    simp [List.getD_eq_getElem?_getD,List.getElem?_take,hk']
   have h3:=hfL_getD c4 k
   rw [e2] at h3 ⊢
   exact ((hc (off+k) (by omega)).hf h3).sub fun b=>Fd.drop
  | own0 a1=>
   have:chunks E 0 ((r.cells.drop 0).take (0*E))=[]:=by
    unfold chunks
    split<;>simp
   rw [this]
   exact .sl0
 | agg hl hk ih=>
  intro x hx
  obtain ⟨xs,rfl,hsz,hr⟩:=hx.agg_inv
  exact .agg (by omega) fun k hk=>ih k hk _ (hr k (by omega))
 | tup hl hk ih=>
  intro x hx
  obtain ⟨xs,rfl,hsz,hr⟩:=hx.tup_inv
  exact .tup (by omega) fun k hk=>ih k hk _ (hr k (by omega))
 | fn hl hk ih=>
  intro x hx
  cases hx with
  | fn hsz hr=>exact .fn (by omega) fun k hk=>ih k hk _ (hr k (by omega))
inductive FzFr (n:Nat) (cs:List V) (fr:List (Nat × V)):List (Nat × V)→Prop
 | nil:FzFr n cs fr []
 | cons {t:Nat} {v v':V} {l:List (Nat × V)}:lkp fr t=some v→FzV n cs v v'→FzFr n cs fr l→FzFr n cs fr ((t,v') :: l)
inductive FzHp (n:Nat) (cs:List V) (hp:List (Nat × Row)):List (Nat × Row)→Prop
 | nil:FzHp n cs hp []
 | cons {h:Nat} {q q':Row} {l:List (Nat × Row)}:h≠n→lkp hp h=some q→q'.T=q.T→q'.cells.length=q.cells.length→(∀ k,k<q'.cells.length→FzV n cs (q.cells.getD k .junk) (q'.cells.getD k .junk))→FzHp n cs hp l→FzHp n cs hp ((h,q') :: l)
theorem FzHp.keep {n:Nat} {cs:List V} {hp l:List (Nat × Row)} {h:Nat} {q:Row} (hn:h≠n)(hl:lkp hp h=some q)(hr:FzHp n cs hp l):FzHp n cs hp ((h,q) :: l):=.cons hn hl rfl rfl (fun _ _=>.same) hr
theorem FzFr.lkp {n:Nat} {cs:List V} {fr l:List (Nat × V)} (h:FzFr n cs fr l):∀ {t:Nat} {v':V},lkp l t=some v'→∃ v,Lift.lkp fr t=some v∧FzV n cs v v':=by
 induction h with
 | nil=>intro t v' h;cases h
 | cons h1 h2 h3 ih=>
  intro t v' h
  simp only [Lift.lkp] at h
  split at h
  ·rename_i e
   cases h
   subst e
   exact ⟨_,h1,h2⟩
  ·exact ih h
theorem FzHp.lkp {n:Nat} {cs:List V} {hp l:List (Nat × Row)} (hh:FzHp n cs hp l):∀ {h:Nat} {q':Row},lkp l h=some q'→h≠n∧∃ q,Lift.lkp hp h=some q∧q'.T=q.T∧q'.cells.length=q.cells.length∧∀ k,k<q'.cells.length→FzV n cs (q.cells.getD k .junk) (q'.cells.getD k .junk):=by
 induction hh with
 | nil=>intro t v' h;cases h
 | cons h1 h2 h3 h4 h5 h6 ih=>
  intro t v' h
  simp only [Lift.lkp] at h
  split at h
  ·rename_i e
   cases h
   subst e
   exact ⟨h1,_,h2,h3,h4,h5⟩
  ·exact ih h
theorem AX.fz {P:Program} {C:Ctx} {st:St} {Q:Exit→St→Prop} (n:Nat) {r:Row} {fr':List (Nat × V)} {hp':List (Nat × Row)} {c:Code} (hr:lkp st.hp n=some r) (hh:V.hfL r.cells=true) (h1:FzFr n r.cells st.fr fr') (h2:FzHp n r.cells st.hp hp')
  (h:AX P C c ⟨fr',hp',st.nx⟩ Q):AX P C c st Q:=by
 intro env a w hs
 have hsub:∀ m,(lkp hp' m).isSome=true→m≠n∧(lkp st.hp m).isSome=true:=by
  intro m hm
  obtain ⟨q',hq'⟩:=Option.isSome_iff_exists.1 hm
  obtain ⟨e,q,hq,_⟩:=h2.lkp hq'
  exact ⟨e,by simp [hq]⟩
 have hF:∀ b,Fd C env (lkp hp') b→Fd C env (upd (lkp st.hp) n none) b:=by
  rintro b (ho | ⟨m,hm,he⟩)
  ·exact .inl ho
  ·obtain ⟨e,hm'⟩:=hsub m hm
   exact .inr ⟨m,by rwa [upd_ne _ _ e],he⟩
 refine h env a w ?_
 exact {
  sz:=hs.sz
  df:=hs.df
  tm:=by
   intro t v' hv
   obtain ⟨v,g1,g2⟩:=h1.lkp hv
   obtain ⟨g3,g4⟩:=hs.tm t v g1
   exact ⟨g3,(Rep.fzv hs hr hh g2 _ g4).sub hF⟩
  row:=by
   intro m q' hq'
   obtain ⟨e,q,hq,g1,g2,g3⟩:=h2.lkp hq'
   obtain ⟨g4,g5⟩:=hs.row m q hq
   refine ⟨g4,?_⟩
   rcases g5 with ⟨blk,c,e1,e2,e3,e4⟩ | ⟨e1,e2⟩ | ⟨blk,e1,es,cl,ks,t1,t2,t3⟩
   ·exact .inl ⟨blk,c,e1,by rw [g1];exact e2,by omega,fun k hk=>(Rep.fzv hs hr hh (g3 k hk) _ (e4 k (by omega))).sub hF⟩
   ·exact .inr (.inl ⟨e1,List.eq_nil_of_length_eq_zero (by rw [g2,e2];rfl)⟩)
   ·refine .inr (.inr ⟨blk,e1,es,cl,ks,t1,?_,t3⟩)
    rw [t2] at g2
    obtain ⟨v,hv⟩:=List.length_eq_one_iff.1 g2
    have g4:=g3 0 (by rw [g2];exact Nat.zero_lt_one)
    rw [t2,hv] at g4
    rw [hv]
    change FzV n r.cells (.tab ks) v at g4
    cases g4
    rfl
  old:=fun m b hm he=>hs.old m b (hsub m hm).2 he
  inj:=fun m m' b hm hm' e1 e2=>hs.inj m m' b (hsub m hm).2 (hsub m' hm').2 e1 e2
  st:=hs.st
  ob:=hs.ob
  gv:=hs.gv }
def r0:Row:=⟨0,[]⟩
def Gb (g:Nat) (G:Env) (b:Nat):Prop:=∃ n,n<g∧G n=some b
def GCall (P:Program) (f:FuncId) (args:List V) (qs0 qs1:List Row) (r:V):Prop:=
 qs1.length=qs0.length∧(∀ xs w,(callFunc f xs).run P w=.ok (.enter f xs) w) ∧
 ∀ (O:Nat→Prop) (w:World) (G:Env) (xs:Array Value),(∀ b,O b→b<w.heap.size)→(∀ b,Gb qs0.length G b→¬ O b) →
  (∀ n n' b,n<qs0.length→n' < qs0.length→G n=some b→G n'=some b→n=n') →
  (∀ n,n<qs0.length→RowAt (fun b=>O b∨Gb qs0.length G b) w G (· < qs0.length) n (qs0.getD n r0))→xs.size=args.length →
  (∀ k,k<args.length→Rep (fun b=>O b∨Gb qs0.length G b) w G (· < qs0.length) (xs.getD k undef) (args.getD k .junk)) →
  Calls P f xs w (fun e w'=>∃ x,e=.returned x∧Step (Gb qs0.length G) w w'∧(∀ n,n<qs0.length→RowAt (fun b=>O b∨Gb qs0.length G b) w' G (· < qs0.length) n (qs1.getD n r0)) ∧
   Rep (fun b=>O b∨Gb qs0.length G b) w' G (· < qs0.length) x r)
def rowsFr:Nat→List Row→List (Nat × Row)
 | _,[]=>[]
 | n,q :: qs=>(n,q) :: rowsFr (n+1) qs
theorem rowsFr_lkp:∀ (qs:List Row) (n m:Nat),lkp (rowsFr n qs) m=if n≤m∧m<n+qs.length then some (qs.getD (m-n) r0) else none:=by
 intro qs
 induction qs with
 | nil=>intro n m;simp only [rowsFr,lkp,List.length_nil];rw [if_neg (by omega)]
 | cons q qs ih=>
  intro n m
  simp only [rowsFr,lkp,List.length_cons]
  by_cases e:m=n
  ·subst e
   rw [if_pos rfl,if_pos (by omega),Nat.sub_self]
   rfl
  ·rw [if_neg e,ih]
   by_cases h:n+1≤m∧m<n+1+qs.length
   ·rw [if_pos h,if_pos (by omega),show m-n=(m-(n+1))+1 by omega]
    rfl
   ·rw [if_neg h,if_neg (by omega)]
def DoneG (P:Program) (rs:Array ResultVar) (r:V) (qs1:List Row) (st:St):Prop:=
 ∃ vs,resVs P st rs.toList=some vs∧packV vs=r∧r.lt qs1.length=true∧r.ren id=r∧∀ n,n<qs1.length→lkp st.hp n=some (qs1.getD n r0)∧V.ltL qs1.length (qs1.getD n r0).cells=true∧V.renL id (qs1.getD n r0).cells=(qs1.getD n r0).cells
theorem RowAt.sub {F F':Nat→Prop} {w:World} {env:Env} {D:Nat→Prop} {h:Nat} {r:Row} (hr:RowAt F w env D h r)(hF:∀ b,F' b→F b):RowAt F' w env D h r:=by
 rcases hr with ⟨blk,c,h1,h2,h3,h4⟩ | h
 ·exact .inl ⟨blk,c,h1,h2,h3,fun k hk=>(h4 k hk).sub hF⟩
 ·exact .inr h
theorem Rep.envs {F:Nat→Prop} {w:World} {env env':Env} {D D':Nat→Prop} {x:Value} {v:V} (h:Rep F w env D x v)(hd:∀ n,D n→D' n∧env' n=env n):Rep F w env' D' x v:=
 h.mono (fun b _ hn=>⟨hn,rfl⟩) (fun _ c _ _ h=>⟨c,rfl,h⟩) (Nat.le_refl _) hd
theorem GCall.of_ax {P:Program} {f:FuncId} {fn:Func} {c:Code} {args:List V} {qs0 qs1:List Row} {r:V} (hl:qs1.length=qs0.length) (hcf:∀ xs w,(callFunc f xs).run P w=.ok (.enter f xs) w) (hf:P.funcs[f]? = some fn) (hb:fn.body=some c) (hN:args.length≤fn.ntmps)
  (h:∀ (O M:Nat→Prop) (w:World) (G:Env),AX P ⟨fn.ntmps,O,M,w,qs0.length,G⟩ c ⟨argFr 0 args,rowsFr 0 qs0,qs0.length⟩ (fun e st=>(e=.ret∨e=.normal)∧DoneG P fn.results r qs1 st)):GCall P f args qs0 qs1 r:=by
 refine ⟨hl,hcf,fun O w G xs hO hGO hinj hrow hsz hr=>?_⟩
 refine calls_of_wp hf hb ?_
 have hl0:∀ m q,lkp (rowsFr 0 qs0) m=some q→m<qs0.length∧q=qs0.getD m r0:=by
  intro m q hq
  rw [rowsFr_lkp] at hq
  split at hq
  ·rename_i hm
   cases hq
   exact ⟨by omega,rfl⟩
  ·cases hq
 have hl1:∀ m,(lkp (rowsFr 0 qs0) m).isSome=true→m<qs0.length:=by
  intro m hm
  obtain ⟨q,hq⟩:=Option.isSome_iff_exists.1 hm
  exact (hl0 m q hq).1
 have hFd0:∀ b,Fd ⟨fn.ntmps,O,Gb qs0.length G,w,qs0.length,G⟩ G (lkp (rowsFr 0 qs0)) b→O b∨Gb qs0.length G b:=by
  rintro b (ho | ⟨m,hm,he⟩)
  ·exact .inl ho
  ·exact .inr ⟨m,hl1 m hm,he⟩
 have hs0:SimS ⟨fn.ntmps,O,Gb qs0.length G,w,qs0.length,G⟩ G ⟨argFr 0 args,rowsFr 0 qs0,qs0.length⟩ { tmps:=xs++Array.replicate (fn.ntmps-xs.size) undef,defers:=[] } w:={
  sz:=by simp;omega
  df:=rfl
  tm:=by
   intro t v ht
   obtain ⟨h1,h2,h3⟩:=argFr_look args 0 t v ht
   refine ⟨by show t<fn.ntmps;omega,?_⟩
   subst h3
   have e:(xs++Array.replicate (fn.ntmps-xs.size) undef).getD t undef=xs.getD t undef:=by
    rw [Array.getD_eq_getD_getElem?,Array.getElem?_append_left (by omega),Array.getD_eq_getD_getElem?]
   rw [e]
   exact (hr t (by omega)).sub hFd0
  row:=by
   intro m q hq
   obtain ⟨hm,rfl⟩:=hl0 m q hq
   exact ⟨hm,(hrow m hm).sub hFd0⟩
  old:=by
   intro m b hm he
   exact ⟨hGO b ⟨m,hl1 m hm,he⟩,.inr ⟨m,hl1 m hm,he⟩⟩
  inj:=fun m m' b hm hm' e e'=>hinj m m' b (hl1 m hm) (hl1 m' hm') e e'
  st:=Step.refl _ _
  ob:=fun b hb=>⟨hO b hb,fun e=>hGO b e hb⟩
  gv:=fun n hn=>⟨hn,rfl⟩ }
 refine wp_mono (h O (Gb qs0.length G) w G _ _ _ hs0) ?_
 rintro e a' w' ⟨st',env',⟨he,vs,hvs,hpk,hlt,hren,hq1⟩,hs'⟩
 rw [hl] at hlt hq1
 obtain ⟨x,hx,hxr⟩:=results_sound hs' hvs
 have hF:∀ b,O b∨Gb qs0.length G b→Fd ⟨fn.ntmps,O,Gb qs0.length G,w,qs0.length,G⟩ env' (lkp st'.hp) b:=by
  rintro b (ho | ⟨n,hn,hg⟩)
  ·exact .inl ho
  ·refine .inr ⟨n,by rw [(hq1 n hn).1];rfl,?_⟩
   rw [(hs'.gv n hn).2]
   exact hg
 have hback:∀ {x:Value} {v:V},v.lt qs0.length=true→Rep (Fd ⟨fn.ntmps,O,Gb qs0.length G,w,qs0.length,G⟩ env' (lkp st'.hp)) w' env' (· < st'.nx) x (v.ren id)→Rep (fun b=>O b∨Gb qs0.length G b) w' G (· < qs0.length) x v:=by
  intro x v hv hx
  exact ((hx.unren rfl hv).sub hF).envs fun n hn=>⟨hn,((hs'.gv n hn).2).symm⟩
 have hfin:a'.defers=[]∧∃ v,(results fn a'.tmps).run P w'=.ok v w'∧∃ x,Ending.returned v=.returned x∧Step (Gb qs0.length G) w w'∧(∀ n,n<qs0.length→RowAt (fun b=>O b∨Gb qs0.length G b) w' G (· < qs0.length) n (qs1.getD n r0)) ∧
   Rep (fun b=>O b∨Gb qs0.length G b) w' G (· < qs0.length) x r:=by
  refine ⟨hs'.df,x,hx,x,rfl,hs'.st,fun n hn=>?_,?_⟩
  ·obtain ⟨g1,g2,g3⟩:=hq1 n hn
   rcases (hs'.row n _ g1).2 with ⟨b',c',h1,h2,h3,h4⟩ | ⟨h1,h2⟩ | ⟨b',h1,h2⟩
   ·rw [(hs'.gv n hn).2] at h1
    refine .inl ⟨b',c',h1,h2,h3,fun k hk=>hback (ltL_getD g2 k) ?_⟩
    rw [← renL_getD,g3]
    exact h4 k hk
   ·rw [(hs'.gv n hn).2] at h1
    exact .inr (.inl ⟨h1,h2⟩)
   ·rw [(hs'.gv n hn).2] at h1
    exact .inr (.inr ⟨b',h1,h2⟩)
  ·refine hback hlt ?_
   rw [hren,← hpk]
   exact hxr
 rcases he with rfl | rfl<;>exact hfin
theorem Sim.givens {C:Ctx} {env:Env} {fr:Nat→Option V} {hp hp':Nat→Option Row} {D:Nat→Prop} {a:Act} {w w':World} (h:Sim C env fr hp D a w) {g:Nat} {ρ:Nat→Nat} (hin:∀ n,n<g→(hp (ρ n)).isSome=true)
  (hs:Step (fun b=>∃ n,n<g∧env (ρ n)=some b) w w') (hnew:∀ n,n<g→∃ q,hp' (ρ n)=some q∧RowAt (Fd C env hp') w' env D (ρ n) q) (hrest:∀ m,(∀ n,n<g→m≠ρ n)→hp' m=hp m):Sim C env fr hp' D a w':=by
 have hiff:∀ m,(hp' m).isSome=true↔(hp m).isSome=true:=by
  intro m
  by_cases e:∃ n,n<g∧m=ρ n
  ·obtain ⟨n,hn,rfl⟩:=e
   obtain ⟨q,h1,_⟩:=hnew n hn
   simp [h1,hin n hn]
  ·rw [hrest m fun n hn e'=>e ⟨n,hn,e'⟩]
 have hFd:∀ b,Fd C env hp' b↔Fd C env hp b:=by
  intro b
  unfold Fd
  simp only [hiff]
 have keep:∀ b,b<w.heap.size→¬ Fd C env hp b→¬ Fd C env hp' b∧w'.heap[b]? = w.heap[b]? := by
  intro b hb hF
  exact ⟨fun h=>hF ((hFd b).1 h),hs.keep b hb (fun ⟨n,hn,e⟩=>hF (.inr ⟨ρ n,hin n hn,e⟩))⟩
 have lift:∀ {x:Value} {v:V},Rep (Fd C env hp) w env D x v→Rep (Fd C env hp') w' env D x v:=
  fun hx=>hx.mono keep hs.shape hs.size (fun _ hD=>⟨hD,rfl⟩)
 exact {
  sz:=h.sz
  df:=h.df
  tm:=fun t v ht=>⟨(h.tm t v ht).1,lift (h.tm t v ht).2⟩
  row:=by
   intro m r1 hr1
   by_cases e:∃ n,n<g∧m=ρ n
   ·obtain ⟨n,hn,rfl⟩:=e
    obtain ⟨q,h1,h2⟩:=hnew n hn
    rw [h1] at hr1
    cases hr1
    obtain ⟨q0,h3⟩:=Option.isSome_iff_exists.1 (hin n hn)
    exact ⟨(h.row _ q0 h3).1,h2⟩
   ·rw [hrest m fun n hn e'=>e ⟨n,hn,e'⟩] at hr1
    refine ⟨(h.row m r1 hr1).1,?_⟩
    rcases (h.row m r1 hr1).2 with ⟨blk1,c1,he1,hw1,hl1,hc1⟩ | hv | ⟨blk1,he1,ht⟩
    ·have hne:¬ ∃ n,n<g∧env (ρ n)=some blk1:=by
      rintro ⟨n,hn,e'⟩
      exact e ⟨n,hn,h.inj m (ρ n) blk1 (by simp [hr1]) (hin n hn) he1 e'⟩
     exact .inl ⟨blk1,c1,he1,(hs.keep blk1 (lt_of_heap hw1) hne).trans hw1,hl1,fun k hk=>lift (hc1 k hk)⟩
    ·exact .inr (.inl hv)
    ·have hne:¬ ∃ n,n<g∧env (ρ n)=some blk1:=by
      rintro ⟨n,hn,e'⟩
      exact e ⟨n,hn,h.inj m (ρ n) blk1 (by simp [hr1]) (hin n hn) he1 e'⟩
     exact .inr (.inr ⟨blk1,he1,ht.keep fun hb=>hs.keep blk1 hb hne⟩)
  old:=fun m b hm he'=>h.old m b ((hiff m).1 hm) he'
  inj:=fun m m' b hm hm' e1 e2=>h.inj m m' b ((hiff m).1 hm) ((hiff m').1 hm') e1 e2
  st:=by
   refine h.st.trans hs ?_
   rintro b hb' ⟨n,hn,he⟩
   rcases (h.old (ρ n) b (hin n hn) he).2 with hlt | hM
   ·exact absurd hb' (Nat.not_lt.2 hlt)
   ·exact hM
  ob:=h.ob
  gv:=h.gv }
theorem gcall_core {P:Program} {C:Ctx} {env:Env} {fr:Nat→Option V} {hp hp':Nat→Option Row} {D:Nat→Prop} {a:Act} {w:World} (hs:Sim C env fr hp D a w) {o:Oper} {c:Call} {g:Operand} (ho:o.op=.call c) (hcal:c.callee=.value g)
  {f:FuncId} {caps args args0:List V} {qs0 qs1:List Row} {r:V} {ρ:Nat→Nat} (hv0:Rep (Fd C env hp) w env D (a.eval g) (.fn f caps)) (hlen:args.length=c.args.size)
  (hva:∀ k,k<args.length→Rep (Fd C env hp) w env D (a.eval (c.args.toList.getD k (.const undef))) (args.getD k .junk))
  (hargs:args++caps=V.renL ρ args0) (hlt:V.ltL qs0.length args0=true) (hρ:∀ n n',n<qs0.length→n' < qs0.length→ρ n=ρ n'→n=n')
  (hq:∀ n,n<qs0.length→hp (ρ n)=some ((qs0.getD n r0).ren ρ)) (hltq:∀ n,n<qs0.length→V.ltL qs0.length (qs0.getD n r0).cells=true) (hc:GCall P f args0 qs0 qs1 r)
  (hp1:∀ n,n<qs0.length→hp' (ρ n)=some ((qs1.getD n r0).ren ρ)) (hp2:∀ m,(∀ n,n<qs0.length→m≠ρ n)→hp' m=hp m)
  {K:Act→World→Prop} {Q:Exit→Act→World→Prop} (hk:∀ x w',Sim C env fr hp' D a w'→Rep (Fd C env hp') w' env D x (r.ren ρ)→K (a.put o.dst x) w'):o.wp P a w K Q:=by
 obtain ⟨hql,hcf,hcalls⟩:=hc
 generalize hgv:a.eval g=gv at hv0
 cases hv0 with
 | fn hsz hcr=>
  rename_i xcaps
  have hrun:(execOp a.eval o).run P w=.ok (.enter f (c.args.map a.eval++xcaps)) w:=by
   unfold execOp
   rw [ho]
   simp only [Sem.run_bind]
   have h1:(resolve a.eval c o.type).run P w=.ok { target:=.fn (.func f) xcaps,args:=c.args.map a.eval } w:=by
    unfold resolve
    simp only [hcal,hgv,Deferred.ofValue,Array.empty_append]
    rfl
   rw [h1]
   simp only [Result.andThen_ok,invoke]
   exact hcf _ _
  unfold Oper.wp
  rw [hrun,Oper.upon_enter]
  have hlen0:args0.length=args.length+caps.length:=by
   have:=congrArg List.length hargs
   simp only [List.length_append,renL_length] at this
   exact this.symm
  have hrep0:∀ k,k<args0.length→Rep (Fd C env hp) w env D ((c.args.map a.eval++xcaps).getD k undef) ((args0.getD k .junk).ren ρ):=by
   intro k hk
   rw [← renL_getD,← hargs]
   by_cases hka:k<args.length
   ·have h1:=hva k hka
    have e1:(c.args.map a.eval++xcaps).getD k undef=a.eval (c.args.toList.getD k (.const undef)):=by
     rw [Array.getD_eq_getD_getElem?,Array.getElem?_append_left (by simp;omega)]
     simp [List.getD_eq_getElem?_getD,show k<c.args.size by omega]
    have e2:(args++caps).getD k .junk=args.getD k .junk:=by
     rw [List.getD_eq_getElem?_getD,List.getElem?_append_left hka,← List.getD_eq_getElem?_getD]
    rw [e1,e2]
    exact h1
   ·have e1:(c.args.map a.eval++xcaps).getD k undef=xcaps.getD (k-args.length) undef:=by
     rw [Array.getD_eq_getD_getElem?,Array.getElem?_append_right (by simp;omega),Array.getD_eq_getD_getElem?]
     simp [hlen]
    have e2:(args++caps).getD k .junk=caps.getD (k-args.length) .junk:=by
     rw [List.getD_eq_getElem?_getD,List.getElem?_append_right (by omega),← List.getD_eq_getElem?_getD]
    rw [e1,e2]
    exact hcr _ (by omega)
  have hsome:∀ n,n<qs0.length→(hp (ρ n)).isSome=true:=fun n hn=>by rw [hq n hn];rfl
  have hFin:∀ b,((Fd C env hp b∧¬ Gb qs0.length (fun n=>env (ρ n)) b)∨Gb qs0.length (fun n=>env (ρ n)) b)→Fd C env hp b:=by
   rintro b (h1 | ⟨n,hn,he⟩)
   ·exact h1.1
   ·exact .inr ⟨ρ n,hsome n hn,he⟩
  have hin:∀ {x:Value} {v:V},v.lt qs0.length=true→Rep (Fd C env hp) w env D x (v.ren ρ)→Rep (fun b=>(Fd C env hp b∧¬ Gb qs0.length (fun n=>env (ρ n)) b)∨Gb qs0.length (fun n=>env (ρ n)) b) w (fun n=>env (ρ n)) (· < qs0.length) x v:=
   fun hv hx=>(hx.unren rfl hv).sub hFin
  refine (hcalls (fun b=>Fd C env hp b∧¬ Gb qs0.length (fun n=>env (ρ n)) b) w (fun n=>env (ρ n)) (c.args.map a.eval++xcaps) (fun b hb=>hs.fd_lt hb.1) (fun b hb h=>h.2 hb) ?_ ?_ (by simp;omega) ?_).mono ?_
  ·intro n n' b hn hn' e e'
   exact hρ n n' hn hn' (hs.inj _ _ b (hsome n hn) (hsome n' hn') e e')
  ·intro n hn
   rcases (hs.row _ _ (hq n hn)).2 with ⟨blk,c0,he,hw,hcl,hcc⟩ | ⟨he,hv0⟩ | ⟨blk,he,es,cl,ks,t1,t2,t3⟩
   ·simp only [Row.ren,renL_length] at hcl hcc
    refine .inl ⟨blk,c0,he,hw,hcl,fun k hk=>hin (ltL_getD (hltq n hn) k) ?_⟩
    rw [← renL_getD]
    exact hcc k hk
   ·refine .inr (.inl ⟨he,List.eq_nil_of_length_eq_zero ?_⟩)
    have:=congrArg List.length hv0
    simpa [Row.ren,renL_length] using this
   ·simp only [Row.ren] at t2
    exact .inr (.inr ⟨blk,he,es,cl,ks,t1,renL_tab t2,t3⟩)
  ·intro k hk
   exact hin (ltL_getD hlt k) (hrep0 k hk)
  rintro e w' ⟨x,rfl,hstep,hrow1,hres⟩
  show K (a.put o.dst x) w'
  have hiff:∀ m,(hp' m).isSome=true↔(hp m).isSome=true:=by
   intro m
   by_cases e:∃ n,n<qs0.length∧m=ρ n
   ·obtain ⟨n,hn,rfl⟩:=e
    rw [hp1 n hn,hq n hn]
    simp
   ·rw [hp2 m fun n hn e'=>e ⟨n,hn,e'⟩]
  have hFout:∀ b,Fd C env hp' b→((Fd C env hp b∧¬ Gb qs0.length (fun n=>env (ρ n)) b)∨Gb qs0.length (fun n=>env (ρ n)) b):=by
   intro b hb
   have h1:Fd C env hp b:=by
    rcases hb with ho | ⟨m,hm,he⟩
    ·exact .inl ho
    ·exact .inr ⟨m,(hiff m).1 hm,he⟩
   by_cases h2:Gb qs0.length (fun n=>env (ρ n)) b
   ·exact .inr h2
   ·exact .inl ⟨h1,h2⟩
  have hout:∀ {x:Value} {v:V},Rep (fun b=>(Fd C env hp b∧¬ Gb qs0.length (fun n=>env (ρ n)) b)∨Gb qs0.length (fun n=>env (ρ n)) b) w' (fun n=>env (ρ n)) (· < qs0.length) x v→Rep (Fd C env hp') w' env D x (v.ren ρ):=
   fun hx=>(hx.sub hFout).ren ρ (fun j hj=>⟨(hs.row _ _ (hq j hj)).1,rfl⟩)
  refine hk x w' (hs.givens (g:=qs0.length) (ρ:=ρ) hsome hstep (fun n hn=>⟨_,hp1 n hn,?_⟩) hp2) (hout hres)
  rcases hrow1 n hn with ⟨b',c',h1,h2,h3,h4⟩ | ⟨h1,h2⟩ | ⟨b',h1,es,cl,ks,t1,t2,t3⟩
  ·refine .inl ⟨b',c',h1,h2,by simp only [Row.ren,renL_length];exact h3,fun k hk=>?_⟩
   simp only [Row.ren,renL_length] at hk
   show Rep _ _ _ _ _ ((V.renL ρ (qs1.getD n r0).cells).getD k .junk)
   rw [renL_getD]
   exact hout (h4 k hk)
  ·refine .inr (.inl ⟨h1,List.eq_nil_of_length_eq_zero ?_⟩)
   show (V.renL ρ (qs1.getD n r0).cells).length=0
   rw [renL_length,h2]
   rfl
  ·exact .inr (.inr ⟨b',h1,es,cl,ks,t1,by show V.renL ρ (qs1.getD n r0).cells=_;rw [t2];simp only [V.renL,V.ren],t3⟩)
theorem renS (f:Nat→Nat):V.renL f []=[]:=by simp only [V.renL]
theorem ltS (n:Nat):V.ltL n []=true:=by simp only [V.ltL]
def nm (ns:List Nat) (n:Nat):Nat:=ns.getD n 0
def setRows (ρ:Nat→Nat):List Nat→List Row→List (Nat × Row)→List (Nat × Row)
 | n :: ns,q :: qs,hp=>setRows ρ ns qs (setL hp n (q.ren ρ))
 | _,_,hp=>hp
def rowsAt (ρ:Nat→Nat) (g:Nat) (hp:List (Nat × Row)):List Nat→List Row→Prop
 | n :: ns,q :: qs=>lkp hp n=some (q.ren ρ)∧V.ltL g q.cells=true∧rowsAt ρ g hp ns qs
 | [],[]=>True
 | _,_=>False
theorem rowsAt_get {ρ:Nat→Nat} {g:Nat} {hp:List (Nat × Row)}:∀ {ns:List Nat} {qs:List Row},rowsAt ρ g hp ns qs→ns.length=qs.length∧∀ n,n<qs.length→lkp hp (ns.getD n 0)=some ((qs.getD n r0).ren ρ)∧V.ltL g (qs.getD n r0).cells=true
 | [],[],_=>⟨rfl,fun n hn=>absurd hn (Nat.not_lt_zero n)⟩
 | m :: ns,q :: qs,h=>by
  obtain ⟨h1,h2,h3⟩:=h
  obtain ⟨e1,e2⟩:=rowsAt_get h3
  refine ⟨by simp [e1],fun n hn=>?_⟩
  cases n with
  | zero=>exact ⟨h1,h2⟩
  | succ n=>exact e2 n (by simpa using hn)
 | [],_ :: _,h=>h.elim
 | _ :: _,[],h=>h.elim
theorem setRows_out {ρ:Nat→Nat}:∀ (ns:List Nat) (qs:List Row) (hp:List (Nat × Row)) (m:Nat),m ∉ ns→lkp (setRows ρ ns qs hp) m=lkp hp m
 | [],qs,hp,m,_=>by cases qs<;>rfl
 | _ :: _,[],hp,m,_=>rfl
 | n :: ns,q :: qs,hp,m,h=>by
  simp only [setRows]
  rw [setRows_out ns qs _ m (fun h'=>h (List.mem_cons_of_mem _ h')),lkp_set,upd_ne _ _ (fun e=>h (by rw [e];exact List.mem_cons_self ..))]
theorem setRows_in {ρ:Nat→Nat}:∀ (ns:List Nat) (qs:List Row) (hp:List (Nat × Row)),ns.Nodup→ns.length=qs.length→∀ n,n<qs.length→lkp (setRows ρ ns qs hp) (ns.getD n 0)=some ((qs.getD n r0).ren ρ)
 | [],[],hp,_,_=>fun n hn=>absurd hn (Nat.not_lt_zero n)
 | m :: ns,q :: qs,hp,hd,hl=>by
  intro n hn
  obtain ⟨h1,h2⟩:=List.nodup_cons.1 hd
  cases n with
  | zero=>
   show lkp (setRows ρ ns qs _) m=_
   rw [setRows_out _ _ _ _ h1,lkp_set,upd_same]
   rfl
  | succ n=>exact setRows_in ns qs _ h2 (by simpa using hl) n (by simpa using hn)
 | [],_ :: _,_,_,hl=>by simp at hl
 | _ :: _,[],_,_,hl=>by simp at hl
theorem getD_mem_nat {l:List Nat} {n:Nat} (h:n<l.length):l.getD n 0 ∈ l:=by
 rw [List.getD_eq_getElem?_getD,List.getElem?_eq_getElem h]
 exact List.getElem_mem h
theorem nodup_getElem {l:List Nat} (hd:l.Nodup) {n m:Nat} (hn:n<l.length)(hm:m<l.length)(h:l[n]=l[m]):n=m:=by
 induction l generalizing n m with
 | nil=>exact absurd hn (Nat.not_lt_zero n)
 | cons a l ih=>
  obtain ⟨h1,h2⟩:=List.nodup_cons.1 hd
  cases n with
  | zero=>cases m with
   | zero=>rfl
   | succ m=>
    have h:a=l[m]'(by simpa using hm):=h
    exact absurd (h ▸ List.getElem_mem _) h1
  | succ n=>cases m with
   | zero=>
    have h:l[n]'(by simpa using hn)=a:=h
    exact absurd (h ▸ List.getElem_mem _) h1
   | succ m=>
    have h:l[n]'(by simpa using hn)=l[m]'(by simpa using hm):=h
    exact congrArg (· + 1) (ih h2 (by simpa using hn) (by simpa using hm) h)
theorem nodup_getD {l:List Nat} (hd:l.Nodup) {n m:Nat} (hn:n<l.length)(hm:m<l.length)(h:l.getD n 0=l.getD m 0):n=m:=by
 rw [List.getD_eq_getElem?_getD,List.getD_eq_getElem?_getD,List.getElem?_eq_getElem hn,List.getElem?_eq_getElem hm] at h
 exact nodup_getElem hd hn hm h
theorem RunO.gcall {P:Program} {N:Nat} {o:PO} {l:List PO} {st st1 st2:St} (ns:List Nat) {f:FuncId} {caps args args0:List V} {qs0 qs1:List Row} {r v:V} (h0:isCall o.op=true) (h1:guardP st.fr o.g=some true) (h2:valsOf st.fr (opsOf o.op)=some (.fn f caps :: args))
  (h3:GCall P f args0 qs0 qs1 r) (h4:args++caps=V.renL (nm ns) args0) (h5:V.ltL ns.length args0=true) (h6:ns.Nodup) (h7:rowsAt (nm ns) ns.length st.hp ns qs0) (h8:v=r.ren (nm ns)) (h9:putSt N o.dst v st.fr (setRows (nm ns) ns qs1 st.hp) st.nx=some st1)
  (h:RunO P N l st1 st2):RunO P N (o :: l) st st2:=by
 refine .sem ?_ h
 intro ops i o' hi ho C env a w hN hs K Q hk
 subst ho hN
 simp only at h0 h1 h2 h9
 unfold wpOp
 simp only [hi]
 rw [if_pos (guard_sound hs (by rw [guardP_eq];exact h1))]
 refine .inl ?_
 rw [opsOf_eq] at h2
 obtain ⟨hl,hr⟩:=valsOf_sound hs h2
 obtain ⟨g1,g2⟩:=rowsAt_get h7
 rw [g1] at h5 g2
 cases hop:o'.op with
 | call c=>
  rw [hop] at h0 hl hr
  simp only [isCall] at h0
  split at h0
  ·rename_i g hcal
   have hops:(Op.call c).operands.toList=g :: c.args.toList:=by simp [Op.operands,Call.operands,hcal]
   rw [hops] at hl hr
   refine gcall_core hs hop hcal (caps:=caps) (args:=args) (ρ:=nm ns) (hr 0 (by simp)) (by simpa using hl) (fun k hk=>?_) h4 h5 (fun n n' hn hn' e=>nodup_getD h6 (by omega) (by omega) e) (fun n hn=>(g2 n hn).1) (fun n hn=>(g2 n hn).2) h3
    (fun n hn=>setRows_in ns qs1 st.hp h6 (g1.trans h3.1.symm) n (by rw [h3.1];exact hn)) (fun m hm=>setRows_out ns qs1 st.hp m (fun h=>?_)) (fun x w' hs' hx=>?_)
   ·have h1:=hr (k+1) (by simp;omega)
    simpa only [List.getD_cons_succ] using h1
   ·obtain ⟨n,hn,rfl⟩:=List.getElem_of_mem h
    refine hm n (by omega) ?_
    show ns[n]=ns.getD n 0
    rw [List.getD_eq_getElem?_getD,List.getElem?_eq_getElem hn]
    rfl
   ·subst h8
    exact hk env _ w' (putSt_sound h9 hs' hx)
  ·cases h0
 | _=>rw [hop] at h0;simp [isCall] at h0
theorem RunD.gcall {P:Program} {N:Nat} {o:PO} {l:List PO} {Ts:List Tr} {st st1 st2:St} (ns:List Nat) {f:FuncId} {caps args args0:List V} {qs0 qs1:List Row} {r v:V} {T:Tr} (h0:isCall o.op=true) (h1:guardP st.fr o.g=some true) (h2:valsOf st.fr (opsOf o.op)=some (.fn f caps :: args))
  (h3:GCall P f args0 qs0 qs1 r) (h4:args++caps=V.renL (nm ns) args0) (h5:V.ltL ns.length args0=true) (h6:ns.Nodup) (h7:rowsAt (nm ns) ns.length st.hp ns qs0) (h8:v=r.ren (nm ns)) (h9:putSt N o.dst v st.fr (setRows (nm ns) ns qs1 st.hp) st.nx=some st1)
  (hT:T=⟨o.dst,slotsOf (opsOf o.op)++gSlot o.g,v,ns,ns.map fun n=>(n,lkp (setRows (nm ns) ns qs1 st.hp) n),[]⟩) (h:RunD P N l st1 Ts st2):RunD P N (o :: l) st (T :: Ts) st2:=by
 obtain ⟨_,e1,e2,_⟩:=putSt_dst h9
 have key:∀ s:Nat→Option Row,(∀ n,n ∈ ns→s n=lkp st.hp n)→∀ m,wrt s (ns.map fun n=>(n,lkp (setRows (nm ns) ns qs1 st.hp) n)) m=if m ∈ ns then lkp (setRows (nm ns) ns qs1 st.hp) m else s m:=by
  intro s _ m0
  have gen:∀ (F:Nat→Option Row) (l:List Nat) (s:Nat→Option Row) (m:Nat),wrt s (l.map fun n=>(n,F n)) m=if m ∈ l then F m else s m:=by
   intro F l
   induction l with
   | nil=>intro s m;rfl
   | cons n l ih=>
    intro s m
    show wrt (wrt s [(n,F n)]) (l.map fun n=>(n,F n)) m=_
    rw [ih,wrt_upd]
    by_cases h1:m ∈ l
    ·rw [if_pos h1,if_pos (List.mem_cons_of_mem _ h1)]
    ·rw [if_neg h1]
     by_cases h2:m=n
     ·subst h2
      rw [upd_same,if_pos (List.mem_cons_self ..)]
     ·rw [upd_ne _ _ h2,if_neg (fun h=>(List.mem_cons.1 h).elim h2 h1)]
  exact gen _ ns s m0
 refine .tr (T:=T) ?_ ?_ ?_ h
 ·intro ops i o' hi ho
  subst ho hT
  simp only at h0 h1 h2 h9
  intro C env fr hpf D a w hN hs hfr hhp hnn hex K Q hk
  subst hN
  unfold wpOp
  simp only [hi]
  rw [if_pos (guard_sim hs h1 (fun t ht=>hfr t (by simp [ht])))]
  refine .inl ?_
  obtain ⟨hl,hr⟩:=valsOf_sim hs h2 (fun t ht=>hfr t (by simp [ht]))
  rw [opsOf_eq] at hl hr
  have hdst:=(putSt_dst h9).1
  obtain ⟨g1,g2⟩:=rowsAt_get h7
  rw [g1] at h5 g2
  have hmem:∀ n,n<qs0.length→nm ns n ∈ ns:=fun n hn=>getD_mem_nat (by omega)
  cases hop:o'.op with
  | call c=>
   rw [hop] at h0 hl hr
   simp only [isCall] at h0
   split at h0
   ·rename_i g hcal
    have hops:(Op.call c).operands.toList=g :: c.args.toList:=by simp [Op.operands,Call.operands,hcal]
    rw [hops] at hl hr
    refine gcall_core hs hop hcal (caps:=caps) (args:=args) (ρ:=nm ns) (hp':=wrt hpf (ns.map fun n=>(n,lkp (setRows (nm ns) ns qs1 st.hp) n))) (hr 0 (by simp)) (by simpa using hl) (fun k hk=>?_) h4 h5 (fun n n' hn hn' e=>nodup_getD h6 (by omega) (by omega) e)
     (fun n hn=>(hhp _ (hmem n hn)).trans (g2 n hn).1) (fun n hn=>(g2 n hn).2) h3 (fun n hn=>?_) (fun m hm=>?_) (fun x w' hs' hx=>?_)
    ·have h1:=hr (k+1) (by simp;omega)
     simpa only [List.getD_cons_succ] using h1
    ·rw [key hpf hhp,if_pos (hmem n hn)]
     exact setRows_in ns qs1 st.hp h6 (g1.trans h3.1.symm) n (by rw [h3.1];exact hn)
    ·rw [key hpf hhp,if_neg]
     intro h
     obtain ⟨n,hn,rfl⟩:=List.getElem_of_mem h
     refine hm n (by omega) ?_
     show ns[n]=ns.getD n 0
     rw [List.getD_eq_getElem?_getD,List.getElem?_eq_getElem hn]
     rfl
    ·subst h8
     have e2:(fun m=>D m∨m ∈ ([]:List Nat))=D:=by funext m;simp
     rw [e2] at hk
     exact hk env _ w' (put_sim (T:=⟨o'.dst,slotsOf (opsOf o'.op)++gSlot (match o'.guard with
      | none=>none
      | some (j,w)=>some (gslot ops j,w)),r.ren (nm ns),ns,ns.map fun n=>(n,lkp (setRows (nm ns) ns qs1 st.hp) n),[]⟩) hs' hdst hx)
   ·cases h0
  | _=>rw [hop] at h0;simp [isCall] at h0
 ·subst hT
  exact e1
 ·subst hT
  rw [e2]
  funext m
  rw [key (lkp st.hp) (fun _ _=>rfl)]
  by_cases h:m ∈ ns
  ·rw [if_pos h]
  ·rw [if_neg h,setRows_out _ _ _ _ h]
theorem AX.own0c {P:Program} {C:Ctx} {st:St} {Q:Exit→St→Prop} (n k:Nat) (T:TypeId) (E:Nat) {r:Row} {c:Code} (hr:lkp st.hp n=some r) (hk:r.cells.getD k .junk=.nl) (hlt:k<r.cells.length)
  (h:AX P C c ⟨st.fr,(st.nx,⟨T,[]⟩) :: setL st.hp n ⟨r.T,r.cells.set k (.own st.nx 0 0 E)⟩,st.nx+1⟩ Q):AX P C c st Q:=by
 intro env a w hs
 have h1:=hs.newVirtual (n:=st.nx) (Nat.lt_irrefl _) T
 have hn:n<st.nx:=(hs.row n r hr).1
 have hD:(fun m=>m<st.nx∨m=st.nx)=(· < st.nx+1):=by
  funext m
  simp only [eq_iff_iff]
  omega
 rw [hD] at h1
 have hne:n≠st.nx:=by omega
 have hrn:upd (lkp st.hp) st.nx (some ⟨T,[]⟩) n=some r:=by rw [upd_ne _ _ hne];exact hr
 have hcomm:upd (upd (lkp st.hp) n (some ⟨r.T,r.cells.set k (.own st.nx 0 0 E)⟩)) st.nx (some ⟨T,[]⟩)=upd (upd (lkp st.hp) st.nx (some ⟨T,[]⟩)) n (some ⟨r.T,r.cells.set k (.own st.nx 0 0 E)⟩):=by
  funext m
  unfold upd
  by_cases e1:m=n
  ·subst e1;simp [hne]
  ·simp [e1]
 refine h (upd env st.nx none) a w ?_
 show Sim C (upd env st.nx none) (lkp st.fr) (lkp ((st.nx,⟨T,[]⟩) :: setL st.hp n ⟨r.T,r.cells.set k (.own st.nx 0 0 E)⟩)) (· < st.nx+1) a w
 rw [lkp_cons,lkp_set,hcomm]
 have hiff:∀ m,(upd (upd (lkp st.hp) st.nx (some ⟨T,[]⟩)) n (some ⟨r.T,r.cells.set k (.own st.nx 0 0 E)⟩) m).isSome=true↔(upd (lkp st.hp) st.nx (some ⟨T,[]⟩) m).isSome=true:=by
  intro m
  by_cases e:m=n
  ·subst e;rw [upd_same,hrn];simp
  ·rw [upd_ne _ _ e]
 have hFd:∀ b,Fd C (upd env st.nx none) (upd (upd (lkp st.hp) st.nx (some ⟨T,[]⟩)) n (some ⟨r.T,r.cells.set k (.own st.nx 0 0 E)⟩)) b→Fd C (upd env st.nx none) (upd (lkp st.hp) st.nx (some ⟨T,[]⟩)) b:=by
  rintro b (ho | ⟨m,hm,he⟩)
  ·exact .inl ho
  ·exact .inr ⟨m,(hiff m).1 hm,he⟩
 refine ⟨h1.sz,h1.df,fun t v hv=>⟨(h1.tm t v hv).1,(h1.tm t v hv).2.sub hFd⟩,?_,fun m b hm he=>h1.old m b ((hiff m).1 hm) he,fun m m' b hm hm' e e'=>h1.inj m m' b ((hiff m).1 hm) ((hiff m').1 hm') e e',h1.st,h1.ob,h1.gv⟩
 intro m q hq
 by_cases e:m=n
 ·subst e
  rw [upd_same] at hq
  cases hq
  obtain ⟨g1,g2⟩:=h1.row m r hrn
  refine ⟨g1,?_⟩
  rcases g2 with ⟨blk,c,e1,e2,e3,e4⟩ | ⟨e1,e2⟩ | ⟨blk,e1,es,cl,ks,t1,t2,t3⟩
  ·refine .inl ⟨blk,c,e1,e2,by simpa using e3,fun j hj=>?_⟩
   have hj':j<r.cells.length:=by simpa using hj
   have h4:=e4 j hj'
   by_cases ej:j=k
   ·subst ej
    rw [hk] at h4
    have e5:(r.cells.set j (.own st.nx 0 0 E)).getD j .junk=.own st.nx 0 0 E:=by simp [List.getD_eq_getElem?_getD,hlt]
    show Rep _ _ _ _ _ ((r.cells.set j (.own st.nx 0 0 E)).getD j .junk)
    rw [e5]
    generalize c.getD j undef=X at h4 ⊢
    cases h4 with
    | nl=>exact .own0 (Nat.lt_succ_self _)
   ·have e5:(r.cells.set k (.own st.nx 0 0 E)).getD j .junk=r.cells.getD j .junk:=by
     simp only [List.getD_eq_getElem?_getD]
     rw [List.getElem?_set_ne (fun h=>ej h.symm)]
    show Rep _ _ _ _ _ ((r.cells.set k (.own st.nx 0 0 E)).getD j .junk)
    rw [e5]
    exact h4.sub hFd
  ·rw [e2] at hlt
   exact absurd hlt (Nat.not_lt_zero _)
  ·rw [t2] at hk hlt
   match k,hlt with
   | 0,_=>cases hk
 ·rw [upd_ne _ _ e] at hq
  obtain ⟨g1,g2⟩:=h1.row m q hq
  exact ⟨g1,g2.sub hFd⟩
def copyE (h off len E:Nat) (els:List V):Eff:=.wr h fun r=>if off+len*E≤r.cells.length then some (⟨r.T,setR r.cells off (flatCells els)⟩,.i .i64 (len:Int)) else none
theorem run_copy_op {P:Program} {w w':World} {a:Act} {t ty:TypeId} {x y:Operand} {z:Value} (h:(Builtin.copy_ #[t,t] ty #[a.eval x,a.eval y]).run P w=.ok z w') :
  (execOp a.eval ⟨none,.call ⟨.builtin .copy,#[x,y],#[t,t]⟩,ty, "", #[],none⟩).run P w=.ok (.value z) w':=by
 have:(execOp a.eval ⟨none,.call ⟨.builtin .copy,#[x,y],#[t,t]⟩,ty, "", #[],none⟩)=(do pure (Next.value (← Builtin.copy_ #[t,t] ty #[a.eval x,a.eval y])):Sem Next):=by
  simp only [execOp,resolve,invoke,builtin,List.map_toArray,List.map_cons,List.map_nil]
  rfl
 rw [this]
 exact run_value h
theorem copy_some {P:Program} {w w':World} {t ty e:TypeId} {i:TypeInfo} (ht:P.underlying t=some (.slice e)) (hi:P.info? e=some i) {ad:Addr} {n cap c:Nat} {A:Option Addr} {new:Array Value}
  (hf:(Builtin.firstCells i.size n (.slice A n c)).run P w=.ok new w) (hst:(storeCells ad new.toList).run P w=.ok () w') :
  (Builtin.copy_ #[t,t] ty #[.slice (some ad) n cap,.slice A n c]).run P w=.ok (goInt n) w':=by
 simp [Builtin.copy_,run_underlying ht,sizeOf,typeInfo,hi,Builtin.lenOf,hf,hst]
theorem copy_none {P:Program} {w:World} {t ty e:TypeId} {i:TypeInfo} (ht:P.underlying t=some (.slice e)) (hi:P.info? e=some i) {c:Nat} {A:Option Addr} {new:Array Value}
  (hf:(Builtin.firstCells i.size 0 (.slice A 0 c)).run P w=.ok new w) :
  (Builtin.copy_ #[t,t] ty #[.slice none 0 0,.slice A 0 c]).run P w=.ok (goInt (0:Nat)) w:=by
 simp [Builtin.copy_,run_underlying ht,sizeOf,typeInfo,hi,Builtin.lenOf,hf]
theorem good_copy {P:Program} {t ty e:TypeId} {x y:Operand} {L:Lay} (hu:P.underlying t=some (.slice e)) (hL:lay P e=some L) (hpos:0<L.size) {h off len:Nat} {els:List V} (hlen:els.length=len) (hE:(els.getD 0 .junk).cells.length=L.size∨els=[])
  (hfl:(flatCells els).length=len*L.size) (hflat:(flatCells els).all V.flat=true):Good P (.call ⟨.builtin .copy,#[x,y],#[t,t]⟩) ty [.own h off len L.size,.sl els] (copyE h off len L.size els):=by
 intro C env fr hp D a w hs hv m hm v' hp' used he
 simp only [copyE,Eff.run] at he
 split at he
 ·rename_i r hr
  split at he
  ·rename_i r' v'' hk
   cases he
   split at hk
   ·rename_i hle
    cases hk
    obtain ⟨i,d,z,hi,hd,hz,rfl⟩:=lay_inv hL
    simp only at hE hfl hle hpos
    have h0:Rep (Fd C env hp) w env D (a.eval x) (.own h off len i.size):=hv.2 0 (by simp)
    have h1:Rep (Fd C env hp) w env D (a.eval y) (.sl els):=hv.2 1 (by simp)
    obtain ⟨A,m',capY,news,hY,hnl,hnews,hm62,hA,hcells,hreps,hone⟩:=src_sl h1 hE hflat
    obtain rfl:len=m':=Nat.eq_of_mul_eq_mul_right hpos (hfl.symm.trans hnl)
    have hff:=app_first (P:=P) (w:=w) (E:=i.size) (cap:=capY) hnews hA hcells
    rw [dd_false]
    have hint:∀ F w',Rep F w' env D (goInt len) (.i .i64 (len:Int)):=fun F w'=>.i ⟨by show (-9223372036854775808:Int)≤_;omega,by show _≤(9223372036854775807:Int);omega⟩
    generalize hX:a.eval x=X at h0
    cases h0 with
    | own a1 a2 a3 a4 a5=>
     rename_i cap blk
     obtain ⟨c,hw,hl,hc⟩:=good_loadRow hs hr a2 (by obtain ⟨c,T,z,h,_⟩:=a5;exact ⟨c,T,z,h⟩)
     have hst:=r_storeCells (P:=P) news w c off 0 hw (by omega) hone
     rw [Nat.add_zero] at hst
     have hrun:=copy_some (P:=P) (ty:=ty) (cap:=cap) hu hi hff hst
     have hsz:=setRange_size news c off
     refine ⟨env,_,_,_,run_copy_op (by rw [hX,hY];exact hrun),hs.write hr a2 hw rfl hsz rfl (by simp only [setR_length];rw [hsz];exact hl) ?_,hint _ _,.inl rfl⟩
     intro k hk
     simp only [setR_length] at hk
     show Rep _ _ _ _ _ ((setR r.cells off (flatCells els)).getD k .junk)
     rw [setRange_get _ _ _ _ (by omega),setR_get _ _ _ _ (by omega),hnews,hfl]
     by_cases hin:off≤k∧k<off+len*i.size
     ·rw [if_pos hin,if_pos hin]
      exact hreps _ (by omega)
     ·rw [if_neg hin,if_neg hin]
      exact hc _ hk
    | own0 a1=>
     have hnil:flatCells els=[]:=List.eq_nil_of_length_eq_zero (by rw [hfl,Nat.zero_mul])
     have hrun:=copy_none (P:=P) (ty:=ty) (w:=w) hu hi hff
     have hself:upd hp h (some ⟨r.T,setR r.cells 0 (flatCells els)⟩)=hp:=by
      rw [hnil]
      funext k
      unfold upd
      split
      ·rename_i e1
       subst e1
       rw [hr]
       rfl
      ·rfl
     rw [hself]
     exact ⟨env,w,_,_,run_copy_op (by rw [hX,hY];exact hrun),hs,hint _ _,.inl rfl⟩
   ·cases hk
  ·cases he
 ·cases he
theorem TrOk.good {P:Program} {ops:Array Oper} {i:Nat} {o:Oper} (hi:ops[i]? = some o) {N:Nat} {st st1:St} {vs:List V} {e:Eff} {v:V} {hp:List (Nat × Row)} {u:Bool} (h1:guardP st.fr (match o.guard with
  | none=>none
  | some (j,w)=>some (gslot ops j,w))=some true) (h2:valsOf st.fr (opsOf o.op)=some vs) (h3:∀ ty,Good P o.op ty vs e) (h4:e.runL st.nx st.hp=some (v,hp,u)) (h5:putSt N o.dst v st.fr hp (if u=true then st.nx+1 else st.nx)=some st1) :
  TrOk P ops N i ⟨o.dst,slotsOf (opsOf o.op)++gSlot (match o.guard with
  | none=>none
  | some (j,w)=>some (gslot ops j,w)),v,e.rds,e.wws st.nx hp,if u=true then [st.nx] else []⟩ (lkp st.fr) (lkp st.hp):=by
 intro C env fr hpf D a w hN hs hfr hhp hnn hex K Q hk
 subst hN
 unfold wpOp
 simp only [hi]
 rw [if_pos (guard_sim hs h1 (fun t ht=>hfr t (List.mem_append.2 (.inr ht))))]
 refine .inl ?_
 obtain ⟨hl,hr⟩:=valsOf_sim hs h2 (fun t ht=>hfr t (List.mem_append.2 (.inl ht)))
 rw [opsOf_eq] at hl hr
 have hrun:=run_local h4 (s:=hpf) (fun k hk=>hhp k hk)
 have hdst:=(putSt_dst h5).1
 obtain ⟨m,hm,hrun',hDD⟩:∃ m,¬ D m∧e.run m hpf=some (v,wrt hpf (e.wws st.nx hp),u)∧DD D m u=fun k=>D k∨k ∈ (if u=true then [st.nx] else []):=by
  cases u with
  | true=>exact ⟨st.nx,hnn st.nx (by simp),hrun,by funext k;simp [DD]⟩
  | false=>
   obtain ⟨m,hm⟩:=hex
   exact ⟨m,hm,run_indep hrun m,by funext k;simp [DD]⟩
 obtain ⟨env',w',nx,x,g1,g2,g3,g4⟩:=h3 o.type C env fr hpf D a w hs ⟨by simpa using hl,fun j hj=>by
  have:=hr j hj
  have e1:o.op.operands.toList.getD j (.const undef)=o.op.operands.getD j (.const undef):=by
   simp [List.getD_eq_getElem?_getD,Array.getD_eq_getD_getElem?]
  rw [e1] at this
  exact this⟩ m hm v (wrt hpf (e.wws st.nx hp)) u hrun'
 rw [hDD] at g2 g3
 exact wp_of_value g1 g4 (hk env' _ w' (put_sim (T:=⟨o.dst,slotsOf (opsOf o.op)++gSlot (match o.guard with
  | none=>none
  | some (j,w)=>some (gslot ops j,w)),v,e.rds,e.wws st.nx hp,if u=true then [st.nx] else []⟩) g2 hdst g3))
theorem RunD.copy {P:Program} {N:Nat} {o:PO} {l:List PO} {Ts:List Tr} {st st1 st2:St} {e:TypeId} {t:TypeId} {x y:Operand} {L:Lay} {T:Tr} {h off len:Nat} {els:List V} {v:V} {hp:List (Nat × Row)} (ho:o.op=.call ⟨.builtin .copy,#[x,y],#[t,t]⟩) (hg:guardP st.fr o.g=some true)
  (hv:valsOf st.fr (opsOf o.op)=some [.own h off len L.size,.sl els]) (hu:P.underlying t=some (.slice e)) (hL:lay P e=some L) (hpos:0<L.size) (hlen:els.length=len) (hE:(els.getD 0 .junk).cells.length=L.size∨els=[])
  (hfl:(flatCells els).length=len*L.size) (hflat:(flatCells els).all V.flat=true) (hr:(copyE h off len L.size els).runL st.nx st.hp=some (v,hp,false)) (hp1:putSt N o.dst v st.fr hp st.nx=some st1)
  (hT:T=⟨o.dst,slotsOf (opsOf o.op)++gSlot o.g,v,(copyE h off len L.size els).rds,(copyE h off len L.size els).wws st.nx hp,[]⟩) (hk:RunD P N l st1 Ts st2):RunD P N (o :: l) st (T :: Ts) st2:=by
 subst hT
 obtain ⟨hd,hfw,hph,_⟩:=putSt_dst hp1
 refine .tr ?_ ?_ ?_ hk
 ·intro ops i o' hi he
  subst he
  exact TrOk.good hi hg hv (fun ty=>by
   show Good P o'.op ty _ _
   have ho':o'.op=.call ⟨.builtin .copy,#[x,y],#[t,t]⟩:=ho
   rw [ho']
   exact good_copy hu hL hpos hlen hE hfl hflat) hr hp1
 ·exact hfw
 ·rw [hph]
  exact wws_hp hr
def scopeS (Q:Exit→St→Prop):Exit→St→Prop
 | .goto _,_=>False
 | e,st=>Q e st
section
variable {st:St} {Q:Exit→St→Prop}
theorem sc1:scopeS Q .normal st=Q .normal st:=rfl
theorem sc2:scopeS Q .ret st=Q .ret st:=rfl
theorem sc3 {id:Nat}:scopeS Q (.exit id) st=Q (.exit id) st:=rfl
end
attribute [go_sem] sc1 sc2 sc3
mutual
theorem ren_id:∀ v:V,v.ren id=v
 | .junk | .b _ | .i _ _ | .s _ | .nl | .sl _ | .rp _ | .tab _=>by simp only [V.ren]
 | .ptr _ _ | .own _ _ _ _ | .mp _=>by simp only [V.ren,id_eq]
 | .agg cs | .tup cs | .fn _ cs=>by simp only [V.ren,renL_id cs]
theorem renL_id:∀ l:List V,V.renL id l=l
 | []=>rfl
 | v :: l=>by simp only [V.renL,ren_id v,renL_id l]
end
def gl (n:Nat) (G:Nat→V):List V:=(List.range n).map G
inductive Jk:V→V→Prop
 | same {v:V}:Jk v v
 | junk {v:V}:Jk v .junk
 | agg {l l':List V}:l.length=l'.length→(∀ k,k<l'.length→Jk (l.getD k .junk) (l'.getD k .junk))→Jk (.agg l) (.agg l')
theorem RunO.one {P:Program} {N:Nat} {ops:Array Oper} {o:Oper} {st st1:St} (h:RunO P N [⟨o.dst,o.op,match o.guard with
  | none=>none
  | some (j,w)=>some (gslot ops j,w)⟩] st st1) {i:Nat} (hi:ops[i]? = some o) {C:Ctx} {env:Env} {a:Act} {w:World} (hN:C.N=N) (hs:SimS C env st a w) {K:Act→World→Prop} {Q:Exit→Act→World→Prop} (hk:∀ env' a' w',SimS C env' st1 a' w'→K a' w'):wpOp P ops Q i K a w:=by
 subst hN
 rcases RunO.step h with ⟨st',G,hG,h1,h2⟩ | ⟨st',f,args0,n,q0,q1,r,h1,h2,h3,h4,h5,h6,h7,h8,h9,h10⟩ | ⟨st',h1,h2⟩
 ·cases h2
  exact stepOp_sound hG hs h1 hi hk
 ·cases h10
  unfold wpOp
  simp only [hi]
  have hw:=guard_sound hs h2
  rw [if_pos hw]
  refine .inl ?_
  cases hop:o.op with
  | call c=>
   rw [hop] at h1
   simp only [isCall] at h1
   split at h1
   ·rename_i g hcal
    exact hcall_sound hs hop hcal h3 h5 h6 h7 h8 h4 fun x w' hs' hr=>hk env _ w' (putSt_sound h9 hs' hr)
   ·cases h1
  | _=>rw [hop] at h1;simp [isCall] at h1
 ·cases h2
  exact h1 i hi C env a w rfl hs _ _ hk
theorem RunO.split {P:Program} {N:Nat} {o:PO} {l:List PO} {st st2:St} (h:RunO P N (o :: l) st st2):∃ st1,RunO P N [o] st st1∧RunO P N l st1 st2:=by
 cases h with
 | op h1 h2 h3 h4 h5 h6 h7=>exact ⟨_,.op h1 h2 h3 h4 h5 h6 .nil,h7⟩
 | call h1 h2 h3 h4 h5 h6 h7 h8 h9=>exact ⟨_,.call h1 h2 h3 h4 h5 h6 h7 h8 .nil,h9⟩
 | skip h1 h2 h3=>exact ⟨_,.skip h1 h2 .nil,h3⟩
 | hcall h1 h2 h3 h4 h5 h6 h7 h8 h9 h10 h11 h12 h13 h14=>exact ⟨_,.hcall h1 h2 h3 h4 h5 h6 h7 h8 h9 h10 h11 h12 h13 .nil,h14⟩
 | sem h1 h2=>exact ⟨_,.sem h1 .nil,h2⟩
end Go.Proofs.YteidabibgjokkaaGreatDoor.Lift
