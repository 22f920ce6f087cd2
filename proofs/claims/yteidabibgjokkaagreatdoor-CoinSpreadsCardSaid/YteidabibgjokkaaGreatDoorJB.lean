import Derived.Test.YteidabibgjokkaaGreatDoorHB
import Derived.Test.YteidabibgjokkaaGreatDoorHJ
import Derived.Test.YteidabibgjokkaaGreatDoorJA
import Derived.Test.YteidabibgjokkaaGreatDoorJH
set_option maxRecDepth 20000
set_option linter.all false
namespace Go.Proofs.YteidabibgjokkaaGreatDoor
open Go Go.Proofs.YteidabibgjokkaaGreatDoor.Lift
attribute [local irreducible] Lift.PCall Lift.HCall
theorem Lift.Done.matS {st:St} {t t':Tmp} {h h2:Nat} {T T' T2:TypeId} {z:List V} {K:Nat} {xs:List Rat} {k1 k2:IntKind} {n1 n2 e:Int} (hL:lay Tryz.prog T'=some ⟨3,true,40,z⟩) (h1:lkp st.fr t=some (.ptr h 0)) (g1:lkp st.hp h=some ⟨T,[.i k1 n1,.i k2 n2,.own h2 0 K 3]⟩) (g2:lkp st.hp h2=some ⟨T2,qrow xs⟩) (g3:lkp st.fr t'=some (.i .i64 e)) (hK:K=xs.length) :
  Done Tryz.prog #[.cell t T',.tmp t'] (.tup [.agg [.i k1 n1,.i k2 n2,.sl (xs.map rV)],.i .i64 e]) [] st:=by
 subst hK
 refine Done.of (vs:=[.agg [.i k1 n1,.i k2 n2,.own h2 0 xs.length 3],.i .i64 e]) (hp:=dlt st.hp h2) ?_ ?_ rfl ?_ ?_
 ·simp only [resVs,resV,h1,g1,hL,g3];rfl
 ·simp only [packV,frz,frzL,g2,List.not_mem_nil,if_false,take_q,flat_q,hf_q,qrow_length,Nat.zero_add,Nat.le_refl,and_self,if_true,chunks_q,Nat.zero_lt_succ,true_and]
 ·simp only [V.lt,V.ltL];rfl
 ·simp only [V.ren,V.renL]
theorem lkp_nr (base b n m:Nat)(F:Nat→Row)(rest:List (Nat × Row)):lkp (namedRows base b ((List.range n).map F)++rest) m=if b≤m∧m<b+n then some ((F (m-b)).ren (base+·)) else lkp rest m:=by
 rw [look_named,List.length_map,List.length_range]
 split
 ·rename_i h
  rw [List.getElem?_map,List.getElem?_range (by omega)]
  rfl
 ·rfl
def f10 (x:Nat):Nat:=if x<10 then x else x-6
theorem f10_row {n c:Nat}:V.renL (fun x=>3+x) (outR n c id).cells=V.renL f10 (gl n fun i=>.own (10+i) 0 c 3):=by
 unfold outR
 rw [renL_glf,renL_glf]
 refine gl_congr fun i hi=>?_
 simp only [V.ren,id_eq,f10]
 rw [if_neg (by omega)]
 congr 1
 omega
theorem own10_lt {n c k:Nat} (hn:n≤60)(hk:70≤k):V.ltL k (gl n fun i=>.own (10+i) 0 c 3)=true:=ltL_gln n fun i hi=>by
 simp only [V.lt,decide_eq_true_eq]
 omega
theorem le10 {n:Nat} {A:Mx} {q0 q1 q2:Row} {fr:List (Nat × V)} {nx:Nat} (hn:n≤60) (h0:q0.ren f10=q0) (h1:q1.ren f10=q1) (h2:q2.ren f10=q2) (g0:V.ltL 100 q0.cells=true) (g1:V.ltL 100 q1.cells=true) (g2:V.ltL 100 q2.cells=true) (hf:LeFr f10 fr 100 fr) :
  Le 0 f10 ⟨fr,(3,⟨39,gl n fun i=>.own (10+i) 0 n 3⟩) :: (2,q2) :: (1,q1) :: (0,q0) :: fam 10 n (famQ n A),100⟩
   ⟨fr,(3,⟨(outR n n id).T,V.renL (fun x=>3+x) (outR n n id).cells⟩) :: (namedRows 3 4 ((List.range n).map (famQ n A))++[(2,q2),(1,q1),(0,q0)]),nx⟩:=by
 refine leFm (pre:=[(3,⟨39,gl n fun i=>.own (10+i) 0 n 3⟩),(2,q2),(1,q1),(0,q0)]) ⟨hf,?_,?_,Nat.zero_le _,fun x hx=>absurd hx (Nat.not_lt_zero _)⟩ ?_ ?_
 ·refine ⟨(by show (3:Nat)<100;omega),?_,own10_lt hn (by show (70:Nat)≤100;omega),(by show (2:Nat)<100;omega),?_,g2,(by show (1:Nat)<100;omega),?_,g1,(by show (0:Nat)<100;omega),?_,g0,trivial⟩
  ·show some (⟨_,_⟩:Row)=some (⟨_,_⟩:Row)
   rw [f10_row]
   rfl
  ·show lkp ((3,_) :: _) 2=_
   rw [lkp_ne (by decide),lkp_nr,if_neg (by omega),h2]
   rfl
  ·show lkp ((3,_) :: _) 1=_
   rw [lkp_ne (by decide),lkp_nr,if_neg (by omega),h1]
   rfl
  ·show lkp ((3,_) :: _) 0=_
   rw [lkp_ne (by decide),lkp_nr,if_neg (by omega),h0]
   rfl
 ·intro p hp q hq he
  have a1:p.1<10:=by simp at hp;rcases hp with h | h | h | h<;>(subst h;simp)
  have a2:q.1<10:=by simp at hq;rcases hq with h | h | h | h<;>(subst h;simp)
  unfold f10 at he
  rwa [if_pos a1,if_pos a2] at he
 ·intro a ha
  refine ⟨by omega,?_,famQ_lt _ _ _ _⟩
  have e:f10 (10+a)=4+a:=by unfold f10;rw [if_neg (by omega)];omega
  rw [e]
  show lkp ((3,_) :: _) _=_
  rw [lkp_ne (by omega),lkp_nr,if_pos (by omega),famQ_ren,famQ_ren,Nat.add_sub_cancel_left]
 ·have hb:∀ p ∈ [(3,(⟨39,gl n fun i=>.own (10+i) 0 n 3⟩:Row)),(2,q2),(1,q1),(0,q0)]++fam 10 n (famQ n A),p.1<4∨10≤p.1:=fun p hp=>by
   rcases List.mem_append.1 hp with h | h
   ·simp at h
    rcases h with h | h | h | h<;>(subst h;left;simp)
   ·exact .inr (fam_mem h).1
  intro p hp q hq he
  have a1:=hb p hp
  have a2:=hb q hq
  unfold f10 at he
  split at he<;>split at he<;>omega
def apO (n m i:Nat):List V:=gl n fun a=>.own (10+a) 0 (if a<i then n+m else n) 3
def apF (n m i:Nat) (A B:Mx):Nat→Row:=fun a=>⟨54,qrow (if a<i then vl (n+m) (aug n A B a) else vl n (A a))⟩
theorem apF_ren (n m i:Nat)(A B:Mx)(f:Nat→Nat)(a:Nat):(apF n m i A B a).ren f=apF n m i A B a:=by
 unfold apF Row.ren
 rw [ren_q]
theorem apF_lt (n m i k:Nat)(A B:Mx)(a:Nat):V.ltL k (apF n m i A B a).cells=true:=lt_q _ _
theorem vl_app (n m:Nat)(A B:Mx)(i:Nat):vl n (A i)++vl m (B i)=vl (n+m) (aug n A B i):=by
 unfold vl
 rw [List.range_add,List.map_append]
 congr 1
 ·exact List.map_congr_left fun j hj=>(if_pos (by simpa using hj)).symm
 ·rw [List.map_map]
  exact List.map_congr_left fun j hj=>by
   show B i j=if n+j<n then A i (n+j) else B i (n+j-n)
   rw [if_neg (by omega),Nat.add_sub_cancel_left]
theorem apO_length (n m i:Nat):(apO n m i).length=n:=gl_length ..
theorem apO_get {n m i:Nat} (h:i<n):(apO n m i).getD i .junk=.own (10+i) 0 n 3:=(gl_get _ h).trans (by rw [if_neg (Nat.lt_irrefl _)])
theorem apO_lt {n m i k:Nat} (hn:n≤60)(hk:70≤k):V.ltL k (apO n m i)=true:=ltL_gln n fun i hi=>by
 simp only [V.lt,decide_eq_true_eq]
 omega
theorem apO_next {n m i:Nat} (hi:i<n)(f:Nat→Nat)(h1:f (10+i)=100)(h2:∀ x,x≠10+i→f x=x):V.renL f (apO n m (i+1))=(apO n m i).set i (.own 100 0 (n+m) 3):=by
 unfold apO
 rw [renL_glf,gl_set _ _ hi]
 refine gl_congr fun a ha=>?_
 show V.ren f (.own (10+a) 0 (if a<i+1 then n+m else n) 3)=if a=i then .own 100 0 (n+m) 3 else .own (10+a) 0 (if a<i then n+m else n) 3
 by_cases e:a=i
 ·subst e
  rw [if_pos rfl,if_pos (by omega)]
  simp only [V.ren,h1]
 ·rw [if_neg e]
  simp only [V.ren,h2 (10+a) (by omega)]
  by_cases h:a<i
  ·rw [if_pos h,if_pos (by omega)]
  ·rw [if_neg h,if_neg (by omega)]
theorem pne10 {p:Nat} (h1:10≤p)(h2:p<100):(((p=0)=False)∧((p=1)=False)∧((p=2)=False)∧((p=3)=False)∧((p=100)=False)∧((p=101)=False))∧(((0=p)=False)∧((1=p)=False)∧((2=p)=False)∧((3=p)=False)∧((100=p)=False)∧((101=p)=False)):=by
 simp only [eq_iff_iff,iff_false]
 omega
theorem mcells_rowS (m:Nat)(X:Mx)(i:Nat):mcells m X (i*m)++vl m (X i)=mcells m X (i*m+m):=by
 unfold mcells vl
 rw [List.range_add,List.map_append,List.map_map]
 congr 1
 refine List.map_congr_left fun j hj=>?_
 have hj:j<m:=by simpa using hj
 show X i j=X ((i*m+j) / m) ((i*m+j) % m)
 rw [Nat.mul_comm i m,Nat.mul_add_div (by omega),Nat.div_eq_of_lt hj,Nat.mul_add_mod,Nat.mod_eq_of_lt hj,Nat.add_zero]
theorem vl_tail {n m:Nat} {v x:Nat→Rat} (h:∀ c,c<m→v (n+c)=x c):List.take (m*3) (List.drop (n*3) (qrow (vl (n+m) v)))=qrow (vl m x):=by
 have e:vl (n+m) v=vl n v++vl m x:=by
  unfold vl
  rw [List.range_add,List.map_append,List.map_map]
  congr 1
  exact List.map_congr_left fun j hj=>h j (by simpa using hj)
 rw [e,qrow_app,List.drop_append_of_le_length (by rw [vl_len3];omega),List.drop_of_length_le (by rw [vl_len3];omega),List.nil_append,List.take_of_length_le (by rw [vl_len3];omega)]
theorem pneS {p:Nat} (h1:10≤p)(h2:p<100):((p=0)=False)∧((p=1)=False)∧((p=2)=False)∧((p=3)=False)∧((p=100)=False)∧((p=101)=False)∧((p=102)=False)∧((p=103)=False):=by
 simp only [eq_iff_iff,iff_false]
 omega
theorem good_endSl {P:Program} {t ty e:TypeId} {L:Lay} {x lo:Operand} {h off len E:Nat} (hu:P.underlying t=some (.slice e))(hL:lay P e=some L):Good P (.slice t x (some lo) none none) ty [.own h off len E,.i .i64 (len:Int)] (.val (.sl [])):=by
 obtain ⟨i,d,z',hi,hd,hz',rfl⟩:=lay_inv hL
 refine Good.pure fun F env D a w hlen hr=>?_
 have h0:Rep F w env D (a.eval x) (.own h off len E):=by
  have:=hr 0 (by simp)
  exact this
 have h1:Rep F w env D (a.eval lo) (.i .i64 (len:Int)):=by
  have:=hr 1 (by simp)
  exact this
 have hlo:BoundIs (some (a.eval lo)) 0 (len:Int):=.inr ⟨_,by rw [h1.int_inv.1]⟩
 have hhi:BoundIs none (len:Int) (len:Int):=.inl ⟨rfl,rfl⟩
 suffices hs:∃ z,(Instr.sliceAt t (a.eval x) (some (a.eval lo)) none none).run P w=.ok z w∧Rep F w env D z (.sl []) by
  obtain ⟨z,hz,hzr⟩:=hs
  exact ⟨z,run_value hz,hzr⟩
 generalize a.eval x=X at h0 ⊢
 generalize a.eval lo=Y at hlo ⊢
 cases h0 with
 | own a1 a2 a3 a4 a5=>
  rename_i cap blk
  have hb2:=run_sliceBounds (P:=P) (w:=w) (isSlice:=true) (len:=len) (cap:=cap) hlo hhi (by omega) (by omega) (by omega) (fun _=>a3)
  refine ⟨_,by
   unfold Instr.sliceAt
   simp only [Sem.run_bind,r_under hu,Result.andThen_ok]
   unfold Instr.slice
   simp only [Sem.run_bind,r_under hu,Result.andThen_ok,hb2,r_size hi]
   rfl,?_⟩
  rw [Nat.sub_self]
  exact .sl0
 | own0 a1=>
  have hb2:=run_sliceBounds (P:=P) (w:=w) (isSlice:=true) (len:=0) (cap:=0) hlo hhi (by omega) (by omega) (by omega) (fun _=>Nat.le_refl _)
  refine ⟨_,by
   unfold Instr.sliceAt
   simp only [Sem.run_bind,r_under hu,Result.andThen_ok]
   unfold Instr.slice
   simp only [Sem.run_bind,r_under hu,Result.andThen_ok,hb2,r_size hi]
   rfl,?_⟩
  rw [Nat.sub_self]
  exact .sl0
theorem RunD.endSl {P:Program} {N:Nat} {o:PO} {l:List PO} {Ts:List Tr} {st st1 st2:St} {t e:TypeId} {x lo:Operand} {L:Lay} {T:Tr} {h off len E:Nat} (h0:isCall o.op=false) (ho:o.op=.slice t x (some lo) none none) (hg:guardP st.fr o.g=some true)
  (hv:valsOf st.fr (opsOf o.op)=some [.own h off len E,.i .i64 (len:Int)]) (hu:P.underlying t=some (.slice e)) (hL:lay P e=some L) (hp1:putSt N o.dst (.sl []) st.fr st.hp st.nx=some st1)
  (hT:T=⟨o.dst,slotsOf (opsOf o.op)++gSlot o.g,.sl [],[],[],[]⟩) (hk:RunD P N l st1 Ts st2):RunD P N (o :: l) st (T :: Ts) st2:=by
 subst hT
 obtain ⟨hd,hfw,hph,_⟩:=putSt_dst hp1
 refine .tr ?_ ?_ ?_ hk
 ·intro ops i o' hi he
  subst he
  exact TrOk.good (e:=.val (.sl [])) (u:=false) hi hg hv (fun ty=>by
   show Good P o'.op ty _ _
   have ho':o'.op=.slice t x (some lo) none none:=ho
   rw [ho']
   exact good_endSl hu hL) rfl hp1
 ·exact hfw
 ·rw [hph]
  rfl
def f23 (x:Nat):Nat:=if x=102 then 103 else x
theorem le23 {n w m K:Nat} {R X:Mx} {s:Nat→Nat} {og Ac:List V} (hn:n≤60) (hog:og=gl n fun i=>V.own (10+s i) 0 w 3) (hs:∀ i,i<n→s i<n) {fr:List (Nat × V)} (hf:LeFr f23 fr 103 fr) :
  Le 0 f23 ⟨fr,(102,⟨54,qrow (mcells m X K)⟩) :: (101,⟨46,[.i .i64 n,.i .i64 m,.own 102 0 K 3]⟩) :: (3,⟨39,og⟩) :: (2,⟨46,[.i .i64 0,.i .i64 0,.nl]⟩) :: (0,⟨46,[.i .i64 n,.i .i64 n,.sl Ac]⟩) :: fam 10 n (famQ w R),103⟩
   ⟨fr,(103,⟨54,qrow (mcells m X K)⟩) :: (101,⟨46,[.i .i64 n,.i .i64 m,.own 103 0 K 3]⟩) :: (3,⟨39,og⟩) :: (2,⟨46,[.i .i64 0,.i .i64 0,.nl]⟩) :: (0,⟨46,[.i .i64 n,.i .i64 n,.sl Ac]⟩) :: fam 10 n (famQ w R),104⟩:=by
 have hlt:V.ltL 103 og=true:=by
  rw [hog]
  exact ltL_gln n fun i hi=>by
   have:=hs i hi
   simp only [V.lt,decide_eq_true_eq]
   omega
 have hre:V.renL f23 og=og:=by
  rw [hog,renL_glf]
  refine gl_congr fun i hi=>?_
  have:=hs i hi
  simp only [V.ren,f23]
  rw [if_neg (by omega)]
 refine leFm (pre:=[(102,⟨54,qrow (mcells m X K)⟩),(101,⟨46,[.i .i64 n,.i .i64 m,.own 102 0 K 3]⟩),(3,⟨39,og⟩),(2,⟨46,[.i .i64 0,.i .i64 0,.nl]⟩),(0,⟨46,[.i .i64 n,.i .i64 n,.sl Ac]⟩)]) ⟨hf,?_,?_,Nat.zero_le _,fun x hx=>absurd hx (Nat.not_lt_zero _)⟩ ?_ ?_
 ·simp [LeHp,lkp,Row.ren,V.ren,V.renL,f23,hre,hlt,V.ltL,V.lt,ren_q,lt_q]
 ·simp [Apart,f23]
 ·intro a ha
  refine ⟨by omega,?_,famQ_lt _ _ _ _⟩
  have e:f23 (10+a)=10+a:=by unfold f23;rw [if_neg (by omega)]
  rw [e,famQ_ren]
  show lkp ((103,_) :: (101,_) :: (3,_) :: (2,_) :: (0,_) :: fam 10 n _) _=_
  rw [lkp_ne (by omega),lkp_ne (by omega),lkp_ne (by omega),lkp_ne (by omega),lkp_ne (by omega)]
  exact lkp_fam _ ha
 ·have hb:∀ p ∈ [(102,(⟨54,qrow (mcells m X K)⟩:Row)),(101,⟨46,[.i .i64 n,.i .i64 m,.own 102 0 K 3]⟩),(3,⟨39,og⟩),(2,⟨46,[.i .i64 0,.i .i64 0,.nl]⟩),(0,⟨46,[.i .i64 n,.i .i64 n,.sl Ac]⟩)]++fam 10 n (famQ w R),p.1<103:=fun p hp=>by
   rcases List.mem_append.1 hp with h | h
   ·simp at h
    rcases h with h | h | h | h | h<;>(subst h;simp)
   ·have:=fam_mem h
    omega
  intro p hp q hq he
  have a1:=hb p hp
  have a2:=hb q hq
  unfold f23 at he
  split at he<;>split at he<;>omega
set_option maxHeartbeats 64000000 in
theorem rsolve_ok (n m L:Nat) (hn:n≤60) (hm:m≤60) (A B X:Mx) (hN:NonSing n A) (hA:∀ i k,i<n→k<n→rL (A i k)≤L) (hB:∀ i k,i<n→k<m→rL (B i k)≤L) (hL1:1≤L) (hL2:5 ^ n*L<2 ^ 30)
  (hX:∀ i c,i<n→c<m→(sumN n fun j=>A i j*X j c)=B i c) :
  PCall Tryz.prog 139 [qM n n A,qM n m B] (.tup [qM n m X,.i .i64 0]) []:=by
 have hLs:L<2 ^ 36:=by
  have:1*L≤5 ^ n*L:=Nat.mul_le_mul_right _ (Nat.one_le_pow _ _ (by decide))
  omega
 have crA:=wright_q n n hn hn A (fun i k hi hk=>by have:=hA i k hi hk;omega)
 have crB:=wright_q n m hn hm B (fun i k hi hk=>by have:=hB i k hi hk;omega)
 have cra:=rrows_ok n n hn hn A
 have crb:=rrows_sl n m hn hm B
 refine PCall.of_ax Tryz.call139 Tryz.func139 rfl (by simp [Tryz.ntmps139]) fun O w0=>?_
 simp only [Tryz.ntmps139,Tryz.results139,argFr]
 unfold qM mV at *
 generalize (mcells n A (n*n)).map rV=Ac at *
 generalize (mcells m B (n*m)).map rV=Bc at *
 refine AX.sR (rgAV [2,3,4]) ?_
 refine AX.seq ?_
 refine AX.block ?_
 refine AX.sR (rgCV [2,3,4,14] (aI crA (aI crB oT))) ?_
 refine AX.condF ?_
 refine AX.sR (rgAV [2,3,4,24]) ?_
 refine AX.condF ?_
 refine AX.keepA [2,3,4] ?_
 refine AX.skip ?_
 refine nmZ ?_
 refine AX.sR (rgCV [2,3,4,6] (aI cra oT)) ?_
 refine AX.weaken f10 (le10 hn (by simp [Row.ren,V.ren,V.renL]) (by simp [Row.ren,V.ren,V.renL]) (by simp [Row.ren,V.ren,V.renL]) (by simp [V.lt,V.ltL]) (by simp [V.lt,V.ltL]) (by simp [V.lt,V.ltL]) (by simp [LeFr,lkp,V.ren,V.lt,f10])) ?_
 refine AX.seq ?_
 refine AX.sR (rgWV [2,3,4,6,41,42,43] (aI @slRows_length oT) (aI crb oT)) ?_
 have hz1:(gl n fun i=>V.own (10+i) 0 n 3)=apO n m 0:=gl_congr fun a ha=>by rw [if_neg (Nat.not_lt_zero _)]
 have hz2:fam 10 n (famQ n A)=fam 10 n (apF n m 0 A B):=fam_congr fun a ha=>by
  unfold famQ apF
  rw [if_neg (Nat.not_lt_zero _)]
 rw [hz1,hz2]
 refine AX.block ?_
 refine AX.loop (fun N st=>∃ i:Nat,i≤n∧N=n-i∧st=⟨[(43,.i .i64 i),(42,.i .i64 n),(41,.sl (slRows n m B)),(6,.own 3 0 n 1),(4,.ptr 2 0),(3,.ptr 1 0),(2,.ptr 0 0)],(3,⟨39,apO n m i⟩) :: (2,⟨46,[.i .i64 0,.i .i64 0,.nl]⟩) :: (1,⟨46,[.i .i64 n,.i .i64 m,.sl Bc]⟩) :: (0,⟨46,[.i .i64 n,.i .i64 n,.sl Ac]⟩) :: fam 10 n (apF n m i A B),100⟩) n ⟨0,Nat.zero_le _,rfl,rfl⟩ ?_
 clear hz1 hz2
 rintro N st ⟨i,hi,rfl,rfl⟩
 by_cases h1:i<n
 ·obtain ⟨⟨c0,c1,c2,c3,c4,c5⟩,d0,d1,d2,d3,d4,d5⟩:=pne10 (p:=10+i) (by omega) (by omega)
  have hol:=apO_length n m i
  have hog:=apO_get (m:=m) h1
  have hlk:lkp (fam 10 n (apF n m i A B)) (10+i)=some ⟨54,qrow (vl n (A i))⟩:=by
   rw [lkp_fam _ h1]
   unfold apF
   rw [if_neg (Nat.lt_irrefl _)]
  have hbg:(slRows n m B).getD i .junk=.sl ((vl m (B i)).map rV):=gl_get _ h1
  have hbl:=slRows_length n m B
  have happ:=vl_app n m A B i
  have ln:=vl_len3 n (A i)
  obtain ⟨p,hp⟩:∃ p,10+i=p:=⟨_,rfl⟩
  rw [hp] at hog hlk c0 c1 c2 c3 c4 c5 d0 d1 d2 d3 d4 d5
  refine AX.sR (rgAV [2,3,4,6,41,42,43,44]) ?_
  refine AX.seq ?_
  refine AX.condT ?_
  refine AX.keepA [2,3,4,6,41,42,43] ?_
  refine AX.skip ?_
  refine nmZ ?_
  refine AX.seq ?_
  refine AX.block ?_
  refine AX.sR (rgWV [2,3,4,6,7,8,41,42,43] (aI @hbg (aI @hbl oT)) oT) ?_
  refine AX.rR (rgWV [2,3,4,6,41,42,43] (aI @hol (aI @hog (aI @hlk (aI @ln (aI @c0 (aI @c1 (aI @c2 (aI @c3 (aI @c4 (aI @c5 (aI @d0 (aI @d1 (aI @d2 (aI @d3 (aI @d4 (aI @d5 (aI @vl_mlen (aI @flatCells_q (aI @vl_len3 (aI @flat_q (aI @vl_one oT))))))))))))))))))))) oT) ?_
  refine nmZ ?_
  refine AX.rR (rgWV [2,3,4,6,41,42,43] (aI @lit_add oT) oT) ?_
  refine nmZ ?_
  obtain ⟨f,hf⟩:∃ f:Nat→Nat,f=fun x=>if x=10+i then 100 else x:=⟨_,rfl⟩
  have hf1:f (10+i)=100:=by rw [hf];exact if_pos rfl
  have hfo:∀ x,x≠10+i→f x=x:=fun x hx=>by rw [hf];exact if_neg hx
  have hf0:=hfo 0 (by omega)
  have hf2:=hfo 1 (by omega)
  have hf3:=hfo 2 (by omega)
  have hf4:=hfo 3 (by omega)
  have hog2:=apO_next (m:=m) h1 f hf1 hfo
  have hlt:V.ltL 101 (apO n m (i+1))=true:=apO_lt hn (by decide)
  refine ⟨_,_,f,?_,
   leFm (pre:=[(3,⟨39,apO n m (i+1)⟩),(2,⟨46,[.i .i64 0,.i .i64 0,.nl]⟩),(1,⟨46,[.i .i64 n,.i .i64 m,.sl Bc]⟩),(0,⟨46,[.i .i64 n,.i .i64 n,.sl Ac]⟩)]) ⟨?_,?_,?_,?_,?_⟩ ?_ ?_
   , ⟨i+1,by omega,rfl,rfl⟩⟩
  ·omega
  ·simp [LeFr,lkp,V.ren,V.lt,hf0,hf2,hf3,hf4]
  ·have hlt0:V.ltL 100 (apO n m (i+1))=true:=apO_lt hn (by decide)
   simp [LeHp,lkp,Row.ren,V.ren,V.renL,hf0,hf2,hf3,hf4,hog2,hlt0,V.ltL,V.lt]
  ·simp [Apart,hf0,hf2,hf3,hf4]
  ·exact Nat.zero_le _
  ·exact fun n hn=>absurd hn (Nat.not_lt_zero _)
  ·intro a ha
   refine ⟨by omega,?_,apF_lt _ _ _ _ _ _ _⟩
   rw [apF_ren]
   by_cases e:a=i
   ·subst e
    rw [hf1]
    show some (⟨_,_⟩:Row)=some (⟨_,_⟩:Row)
    rw [if_pos (Nat.lt_succ_self a),← qrow_app,happ]
   ·rw [hfo _ (by omega)]
    show lkp ((100,_) :: _) _=_
    rw [lkp_ne (by omega),lkp_ne (by omega),lkp_ne (by omega),lkp_ne (by omega),lkp_ne (by omega),lkp_dlt,upd_ne _ _ (by omega),lkp_fam _ ha]
    unfold apF
    by_cases e2:a<i
    ·rw [if_pos e2,if_pos (by omega)]
    ·rw [if_neg e2,if_neg (by omega)]
  ·have hlt9:∀ q ∈ [(3,(⟨39,apO n m (i+1)⟩:Row)),(2,⟨46,[.i .i64 0,.i .i64 0,.nl]⟩),(1,⟨46,[.i .i64 n,.i .i64 m,.sl Bc]⟩),(0,⟨46,[.i .i64 n,.i .i64 n,.sl Ac]⟩)]++fam 10 n (apF n m (i+1) A B),q.1<100:=fun q hq=>by
    rcases List.mem_append.1 hq with h | h
    ·simp at h
     rcases h with h | h | h | h<;>(subst h;simp)
    ·have:=fam_mem h
     omega
   intro x hx y hy he
   have a1:=hlt9 x hx
   have a2:=hlt9 y hy
   rw [hf] at he
   simp only at he
   split at he<;>split at he<;>omega
 ·obtain rfl:n=i:=by omega
  have hM:NonSing n (aug n A B):=aug_nonsing hN
  have hML:∀ a j,a<n→j<n+m→rL (aug n A B a j)≤L:=fun a j ha hj=>by
   unfold aug
   split
   ·exact hA a j ha (by omega)
   ·exact hB a (j-n) ha (by omega)
  have hcl:=rcleared_ok n (n+m) L hn (by omega) (by omega) (aug n A B) hM hML hL1 hL2
  have hok:=gj_ok (w:=n+m) hM (by omega) n (Nat.le_refl n)
  have hsol:=gj_sol (m:=m) (X:=X) hM fun i c hi hc=>by
   have h1:aug n A B i (n+c)=B i c:=by
    unfold aug
    rw [if_neg (by omega),Nat.add_sub_cancel_left]
   rw [h1,← hX i c hi hc]
   exact sumN_congr fun j hj=>by
    unfold aug
    rw [if_pos hj]
  have hlen:=gj_len hM (show n≤n+m by omega) hML hL1 n (Nat.le_refl n)
  have hz1:apO n m n=gl n fun i=>V.own (10+i) 0 (n+m) 3:=gl_congr fun a ha=>by rw [if_pos ha]
  have hz2:fam 10 n (apF n m n A B)=fam 10 n (famQ (n+m) (aug n A B)):=fam_congr fun a ha=>by
   unfold famQ apF
   rw [if_pos ha]
  rw [hz1,hz2]
  clear hz1 hz2
  generalize gj n (aug n A B) n=g at *
  obtain ⟨R,s,t,D⟩:=g
  dsimp only at hcl hsol hlen
  generalize aug n A B=M at *
  have hD:D≠0:=hok.D
  have hs:∀ i,i<n→s i<n:=fun i hi=>(hok.s i hi).1
  have hcl:GCall Tryz.prog 157 [.own 0 0 n 1,.i .i64 n] (outR n (n+m) id :: (List.range n).map (famQ (n+m) M)) (outR n (n+m) s :: (List.range n).map (famQ (n+m) R)) (.tup [.sl (tkL n n),.agg [.b (decide (D.num<0)),dg (digits D.num.natAbs),dg (digits D.den)]]):=hcl
  have hnsl:(3 :: (List.range n).map (10+·)).length=n+1:=by simp
  have hg5:V.ltL (3 :: (List.range n).map (10+·)).length [.own 0 0 n 1,.i .i64 n]=true:=by simp [V.ltL,V.lt]
  have hg6:(3 :: (List.range n).map (10+·)).Nodup:=by
   refine List.nodup_cons.2 ⟨fun h=>?_,List.pairwise_map.2 ((List.nodup_range (n:=n)).imp fun h e=>h (by omega))⟩
   obtain ⟨a,_,e⟩:=List.mem_map.1 h
   omega
  have hnm:∀ a,a<n→nm (3 :: (List.range n).map (10+·)) (1+a)=10+a:=fun a ha=>by
   unfold nm
   rw [Nat.add_comm,List.getD_cons_succ]
   simp [List.getD_eq_getElem?_getD,ha]
  have hor:∀ s':Nat→Nat,(∀ i,i<n→s' i<n)→(outR n (n+m) s').ren (nm (3 :: (List.range n).map (10+·)))=⟨39,gl n fun i=>.own (10+s' i) 0 (n+m) 3⟩:=fun s' hs'=>by
   unfold outR Row.ren
   rw [renL_glf]
   congr 1
   refine gl_congr fun i hi=>?_
   simp only [V.ren,hnm _ (hs' i hi)]
  have hrm:∀ (hp:List (Nat × Row)) (ρ:Nat→Nat) (g:Nat) (l:List Nat),(∀ a ∈ l,lkp hp (10+a)=some (famQ (n+m) M a))→rowsAt ρ g hp (l.map (10+·)) (l.map (famQ (n+m) M)):=fun hp ρ g l=>by
   induction l with
   | nil=>exact fun _=>trivial
   | cons a l ih=>exact fun h=>⟨by rw [famQ_ren];exact h a (List.mem_cons_self ..),famQ_lt _ _ _ _,ih fun b hb=>h b (List.mem_cons_of_mem _ hb)⟩
  obtain ⟨hp0,hhp0⟩:∃ x,((3,(⟨39,gl n fun i=>V.own (10+i) 0 (n+m) 3⟩:Row)) :: (2,⟨46,[.i .i64 0,.i .i64 0,.nl]⟩) :: (1,⟨46,[.i .i64 n,.i .i64 m,.sl Bc]⟩) :: (0,⟨46,[.i .i64 n,.i .i64 n,.sl Ac]⟩) :: fam 10 n (famQ (n+m) M))=x:=⟨_,rfl⟩
  have hk0:lkp hp0 0=some ⟨46,[.i .i64 n,.i .i64 n,.sl Ac]⟩:=by rw [← hhp0];rfl
  have hk1:lkp hp0 1=some ⟨46,[.i .i64 n,.i .i64 m,.sl Bc]⟩:=by rw [← hhp0];rfl
  have hk2:lkp hp0 2=some ⟨46,[.i .i64 0,.i .i64 0,.nl]⟩:=by rw [← hhp0];rfl
  have hk3:lkp hp0 3=some ⟨39,gl n fun i=>V.own (10+i) 0 (n+m) 3⟩:=by rw [← hhp0];rfl
  have hg7:rowsAt (nm (3 :: (List.range n).map (10+·))) (3 :: (List.range n).map (10+·)).length hp0 (3 :: (List.range n).map (10+·)) (outR n (n+m) id :: (List.range n).map (famQ (n+m) M)):=by
   refine ⟨?_,?_,hrm _ _ _ _ fun a ha=>?_⟩
   ·rw [hor id fun i hi=>hi,hk3]
    rfl
   ·rw [hnsl]
    exact og_lt fun i hi=>by simp only [id_eq];omega
   ·have ha':a<n:=by simpa using ha
    rw [← hhp0,lkp_ne (by omega),lkp_ne (by omega),lkp_ne (by omega),lkp_ne (by omega)]
    exact lkp_fam _ ha'
  refine AX.sR (rgAV [2,3,4,6,41,42,43,44]) ?_
  refine AX.seq ?_
  refine AX.condF ?_
  refine AX.exit ?_
  refine nmZ ?_
  rw [hhp0]
  apply AX.sreg [2,3,4,6,10] (by simp only [pq];rfl)
  ·repeat (first
  |(apply RunO.op rfl;· rfl
    ·(simp only [opsOf,valsOf,valOf,lkp,ofConst,ofCell,Array.toList,Option.toList,List.map_cons,List.map_nil,List.cons_append,List.nil_append,List.append_nil,Nat.reduceEqDiff,Nat.reducePow,Nat.reduceLT,Nat.reduceLeDiff,reduceIte,if_true,if_false,IntKind.min,IntKind.max,IntKind.bits,IntKind.signed,Int.reduceLE,Int.reduceNeg,Int.reducePow,Int.reduceSub,and_self,Bool.false_eq_true,Nat.reduceSub];rfl)
    iterate 2 (· (simp (disch:=omega) only [go_sem,i64_of,u32_of,u64_of,Nat.reduceLT,Nat.reduceLeDiff,Nat.reduceEqDiff,Nat.reduceAdd,Nat.reduceSub,Nat.reduceMul,Nat.reducePow,Nat.reduceBEq,Int.reduceLE,Int.reduceLT,Int.reduceToNat,Int.reduceEq,Int.reduceNeg,reduceIte,reduceCtorEq,hk0];rfl))
    ·(simp only [pb,Nat.reduceLT,Nat.reduceAdd,reduceIte];rfl))
  |(apply RunO.gcall (3 :: (List.range n).map (10+·)) rfl;· rfl
    ·(simp only [opsOf,valsOf,valOf,lkp,ofConst,ofCell,Array.toList,Option.toList,List.map_cons,List.map_nil,List.cons_append,List.nil_append,List.append_nil,Nat.reduceEqDiff,Nat.reducePow,Nat.reduceLT,Nat.reduceLeDiff,reduceIte,if_true,if_false,IntKind.min,IntKind.max,IntKind.bits,IntKind.signed,Int.reduceLE,Int.reduceNeg,Int.reducePow,Int.reduceSub,and_self,Bool.false_eq_true,Nat.reduceSub];rfl)
    ·exact hcl
    ·rfl
    ·exact hg5
    ·exact hg6
    ·exact hg7
    ·rfl
    ·(simp only [pb,Nat.reduceLT,Nat.reduceAdd,reduceIte];rfl))
  |(apply RunO.skip;· rfl
    ·(simp only [pb,Nat.reduceLT,Nat.reduceAdd,reduceIte];rfl)))
   exact RunO.nil
  ·repeat (first | exact Keep.nil | (apply Keep.take;· rfl) | (apply Keep.drop;· rfl))
  have ho0:=fun x (hx:x ∉ (3 :: (List.range n).map (10+·)))=>setRows_out (ρ:=nm (3 :: (List.range n).map (10+·))) (3 :: (List.range n).map (10+·)) (outR n (n+m) s :: (List.range n).map (famQ (n+m) R)) hp0 x hx
  have hnot:∀ x,x<3→x ∉ (3 :: (List.range n).map (10+·)):=fun x hx h=>by
   rcases List.mem_cons.1 h with h | h
   ·omega
   ·obtain ⟨a,_,e⟩:=List.mem_map.1 h
    omega
  have g0:=(ho0 0 (hnot 0 (by omega))).trans hk0
  have g1:=(ho0 1 (hnot 1 (by omega))).trans hk1
  have g2:=(ho0 2 (hnot 2 (by omega))).trans hk2
  have hin:=setRows_in (ρ:=nm (3 :: (List.range n).map (10+·))) (3 :: (List.range n).map (10+·)) (outR n (n+m) s :: (List.range n).map (famQ (n+m) R)) hp0 hg6 (by simp)
  have g3:=(hin 0 (by simp)).trans (congrArg some (hor s hs))
  have gf:∀ a,a<n→lkp (setRows (nm (3 :: (List.range n).map (10+·))) (3 :: (List.range n).map (10+·)) (outR n (n+m) s :: (List.range n).map (famQ (n+m) R)) hp0) (10+a)=some (famQ (n+m) R a):=fun a ha=>by
   have h1:=hin (a+1) (by simpa using ha)
   rw [List.getD_cons_succ,List.getD_cons_succ,range_getD _ ha,famQ_ren] at h1
   have h2:((List.range n).map (10+·)).getD a 0=10+a:=by simp [List.getD_eq_getElem?_getD,ha]
   rwa [h2] at h1
  have g3:lkp (setRows (nm (3 :: (List.range n).map (10+·))) (3 :: (List.range n).map (10+·)) (outR n (n+m) s :: (List.range n).map (famQ (n+m) R)) hp0) 3=some ⟨39,gl n fun i=>.own (10+s i) 0 (n+m) 3⟩:=g3
  obtain ⟨og,hog⟩:∃ x,(gl n fun i=>V.own (10+s i) 0 (n+m) 3)=x:=⟨_,rfl⟩
  have hog9:=hog
  have ogl:og.length=n:=by rw [← hog];exact gl_length ..
  have ogg:∀ i,i<n→og.getD i .junk=.own (10+s i) 0 (n+m) 3:=fun i hi=>by rw [← hog];exact gl_get _ hi
  have oglt:∀ k,70≤k→V.ltL k og=true:=fun k hk=>by
   rw [← hog]
   exact ltL_gln n fun i hi=>by
    have:=hs i hi
    simp only [V.lt,decide_eq_true_eq]
    omega
  rw [hog] at g3
  clear hin ho0 hnot hg7 hrm hor hg6 hg5 hcl
  generalize setRows (nm (3 :: (List.range n).map (10+·))) (3 :: (List.range n).map (10+·)) (outR n (n+m) s :: (List.range n).map (famQ (n+m) R)) hp0=hp1 at *
  have og1:=oglt 101 (by omega)
  have og3:=oglt 103 (by omega)
  have gg:=And.intro g0 (And.intro g1 (And.intro g2 (And.intro g3 og1)))
  refine AX.weaken id (st':=⟨[(10,.ptr 100 0),(6,.own 3 0 n 1),(4,.ptr 2 0),(3,.ptr 1 0),(2,.ptr 0 0)],(100,⟨54,[.b (decide (D.num<0)),dg (digits D.num.natAbs),dg (digits D.den)]⟩) :: (3,⟨39,og⟩) :: (2,⟨46,[.i .i64 0,.i .i64 0,.nl]⟩) :: (1,⟨46,[.i .i64 n,.i .i64 m,.sl Bc]⟩) :: (0,⟨46,[.i .i64 n,.i .i64 n,.sl Ac]⟩) :: fam 10 n (famQ (n+m) R),101⟩)
   (leG5
    (leQ8H gg)
    (Nat.zero_le _) (by omega) (fun a ha=>by
     show lkp ((100,_) :: hp1) _=_
     rw [lkp_ne (by omega)]
     exact gf a ha))
   ?_
  have cs:PCall Tryz.prog 34 [.agg [.b (decide (D.num<0)),dg (digits D.num.natAbs),dg (digits D.den)]] (.i .i64 (sgnR D)) []:=psign_ok (IsQ.of hlen.2) (by omega)
  have hz:¬ sgnR D=0:=fun e=>hD (sgnR_eq_zero.1 e)
  refine AX.seq ?_
  refine AX.sR (rgWV [2,3,4,6,67] (aI @hz oT) (aI cs oT)) ?_
  refine AX.condF ?_
  refine AX.keepA [2,3,4,6] ?_
  refine AX.skip ?_
  refine nmZ ?_
  refine AX.sR (rgAV [2,4,6,11]) ?_
  refine AX.own0c 101 2 54 3 rfl rfl (by show 2<3;decide) ?_
  refine AX.seq ?_
  refine AX.sR (rgWV [2,4,11,74,75,76] (aI @ogl oT) oT) ?_
  have hfd:=fun c=>dlt_fam (b:=10) (n:=n) (m:=102) (famQ (n+m) R) (by omega)
  refine AX.weaken id (st':=⟨[(76,.i .i64 (0:Nat)),(75,.i .i64 n),(74,.own 3 0 n 1),(11,.ptr 101 0),(4,.ptr 2 0),(2,.ptr 0 0)],(102,⟨54,qrow (mcells m X 0)⟩) :: (101,⟨46,[.i .i64 n,.i .i64 m,.own 102 0 0 3]⟩) :: (3,⟨39,og⟩) :: (2,⟨46,[.i .i64 0,.i .i64 0,.nl]⟩) :: (0,⟨46,[.i .i64 n,.i .i64 n,.sl Ac]⟩) :: fam 10 n (famQ (n+m) R),103⟩)
   (leG5
    (leQ8H og3)
    (Nat.zero_le _) (by omega) (fun a ha=>by
     show lkp ((102,_) :: (101,_) :: (100,_) :: (3,_) :: (2,_) :: (1,_) :: (0,_) :: fam 10 n _) _=_
     rw [lkp_ne (by omega),lkp_ne (by omega),lkp_ne (by omega),lkp_ne (by omega),lkp_ne (by omega),lkp_ne (by omega),lkp_ne (by omega)]
     exact lkp_fam _ ha))
   ?_
  clear gg og1 gf g0 g1 g2 g3 hk0 hk1 hk2 hk3 cs hz
  refine AX.block ?_
  refine AX.loop (fun N st=>∃ i K:Nat,i≤n∧N=n-i∧i*m=K∧st=⟨[(76,.i .i64 i),(75,.i .i64 n),(74,.own 3 0 n 1),(11,.ptr 101 0),(4,.ptr 2 0),(2,.ptr 0 0)],(102,⟨54,qrow (mcells m X K)⟩) :: (101,⟨46,[.i .i64 n,.i .i64 m,.own 102 0 K 3]⟩) :: (3,⟨39,og⟩) :: (2,⟨46,[.i .i64 0,.i .i64 0,.nl]⟩) :: (0,⟨46,[.i .i64 n,.i .i64 n,.sl Ac]⟩) :: fam 10 n (famQ (n+m) R),103⟩) n ⟨0,0,Nat.zero_le _,rfl,Nat.zero_mul _,rfl⟩ ?_
  rintro N st ⟨i,K,hi,rfl,hK,rfl⟩
  have hKb:K≤60*60:=by rw [← hK];exact Nat.mul_le_mul (by omega) hm
  by_cases h1:i<n
  ·have hsi:=hs i h1
   obtain ⟨c0,c1,c2,c3,c4,c5,c6,c7⟩:=pneS (p:=10+s i) (by omega) (by omega)
   have hog:=ogg i h1
   have hlk:lkp (fam 10 n (famQ (n+m) R)) (10+s i)=some ⟨54,qrow (vl (n+m) (R (s i)))⟩:=lkp_fam (famQ (n+m) R) hsi
   have ln:=vl_len3 (n+m) (R (s i))
   have htl:=vl_tail (n:=n) (m:=m) (v:=R (s i)) (x:=X i) fun c hc=>hsol i c h1 hc
   have lm:=vl_len3 m (X i)
   have lK:(qrow (mcells m X K)).length=K*3:=by rw [qrow_length,mcells_length]
   have hrow:=mcells_rowS m X i
   rw [hK] at hrow
   have hdl:=dlt_fam (b:=10) (n:=n) (m:=102) (famQ (n+m) R) (by omega)
   obtain ⟨p,hp⟩:∃ p,10+s i=p:=⟨_,rfl⟩
   rw [hp] at hog hlk c0 c1 c2 c3 c4 c5 c6 c7
   by_cases hm0:0<m
   ·refine AX.sR (rgAV [2,4,11,74,75,76,77]) ?_
    refine AX.seq ?_
    refine AX.condT ?_
    refine AX.keepA [2,4,11,74,75,76] ?_
    refine AX.skip ?_
    refine nmZ ?_
    refine AX.seq ?_
    refine AX.block ?_
    refine AX.sR (rgWV [2,4,11,13,74,75,76] (aI @ogl (aI @hog (aI @c0 (aI @c1 (aI @c2 (aI @c3 (aI @c4 (aI @c5 (aI @c6 (aI @c7 oT)))))))))) oT) ?_
    refine AX.rD (rgDWV [2,4,11,74,75,76] (aI hlk (aI ln (aI htl (aI lm (aI lK (aI hdl (aI flat_q (aI Nat.add_sub_cancel_left (aI c0 (aI c1 (aI c2 (aI c3 (aI c4 (aI c5 (aI c6 (aI c7 oT)))))))))))))))) oT (hok:=okDraw_of (by kernel_rfl))) ?_
    refine nmZ ?_
    rw [← qrow_app,hrow]
    refine AX.rR (rgWV [2,4,11,74,75,76] (aI @lit_add oT) oT) ?_
    refine nmZ ?_
    refine ⟨_,_,f23,?_,
     le23 hn hog9.symm hs (by simp [LeFr,lkp,V.ren,V.lt,f23])
     , ⟨i+1,K+m,by omega,rfl,by rw [Nat.succ_mul,hK],rfl⟩⟩
    omega
   ·obtain rfl:m=0:=by omega
    refine AX.sR (rgAV [2,4,11,74,75,76,77]) ?_
    refine AX.seq ?_
    refine AX.condT ?_
    refine AX.keepA [2,4,11,74,75,76] ?_
    refine AX.skip ?_
    refine nmZ ?_
    refine AX.seq ?_
    refine AX.block ?_
    refine AX.sR (rgWV [2,4,11,13,74,75,76] (aI @ogl (aI @hog (aI @c0 (aI @c1 (aI @c2 (aI @c3 (aI @c4 (aI @c5 (aI @c6 (aI @c7 oT)))))))))) oT) ?_
    apply AX.dreg [2,4,11,74,75,76] (by kernel_rfl) (by simp only [pq];rfl)
    ·repeat (first
    |(apply RunD.op rfl;· rfl
      ·(simp only [opsOf,valsOf,valOf,lkp,ofConst,ofCell,Array.toList,Option.toList,List.map_cons,List.map_nil,List.cons_append,List.nil_append,List.append_nil,Nat.reduceEqDiff,Nat.reducePow,Nat.reduceLT,Nat.reduceLeDiff,reduceIte,if_true,if_false,IntKind.min,IntKind.max,IntKind.bits,IntKind.signed,Int.reduceLE,Int.reduceNeg,Int.reducePow,Int.reduceSub,and_self,Bool.false_eq_true,Nat.reduceSub];rfl)
      iterate 2 (· (simp (disch:=omega) only [go_sem,i64_of,u32_of,u64_of,Nat.reduceLT,Nat.reduceLeDiff,Nat.reduceEqDiff,Nat.reduceAdd,Nat.reduceSub,Nat.reduceMul,Nat.reducePow,Nat.reduceBEq,Int.reduceLE,Int.reduceLT,Int.reduceToNat,Int.reduceEq,Int.reduceNeg,reduceIte,reduceCtorEq,lK,hdl,Nat.add_zero];rfl))
      ·(simp only [pb,Nat.reduceLT,Nat.reduceAdd,reduceIte];rfl)
      ·rfl)
    |(apply RunD.endSl (h:=p) (off:=0) (len:=n) (E:=3) rfl rfl;· rfl
      ·(simp only [opsOf,valsOf,valOf,lkp,ofConst,ofCell,Array.toList,Option.toList,List.map_cons,List.map_nil,List.cons_append,List.nil_append,List.append_nil,Nat.reduceEqDiff,Nat.reducePow,Nat.reduceLT,Nat.reduceLeDiff,reduceIte,if_true,if_false,IntKind.min,IntKind.max,IntKind.bits,IntKind.signed,Int.reduceLE,Int.reduceNeg,Int.reducePow,Int.reduceSub,and_self,Bool.false_eq_true,Nat.reduceSub];first | done | rfl)
      ·exact Tryz.underlying39
      ·exact lay_ratio
      ·(simp only [pb,Nat.reduceLT,Nat.reduceAdd,reduceIte];rfl)
      ·rfl)
    |(apply RunD.skip;· rfl
      ·(simp only [pb,Nat.reduceLT,Nat.reduceAdd,reduceIte];rfl)
      ·rfl))
     exact RunD.nil
    ·repeat (first | exact Keep.nil | (apply Keep.take;· rfl) | (apply Keep.drop;· rfl))
    ·exact okDraw_of (by kernel_rfl)
    refine nmZ ?_
    rw [show flatCells ([]:List V)=[] from rfl,List.append_nil,dlt_fam (b:=10) (n:=n) (m:=102) (famQ n R) (by omega)]
    refine AX.rR (rgWV [2,4,11,74,75,76] (aI @lit_add oT) oT) ?_
    refine nmZ ?_
    refine ⟨_,_,f23,?_,
     le23 (m:=0) (K:=K) (w:=n) (R:=R) hn hog9.symm hs (by simp [LeFr,lkp,V.ren,V.lt,f23])
     , ⟨i+1,K,by omega,rfl,by rw [← hK,Nat.mul_zero,Nat.mul_zero],rfl⟩⟩
    omega
  ·obtain rfl:n=i:=by omega
   refine AX.sR (rgAV [2,4,11,74,75,76,77]) ?_
   refine AX.seq ?_
   refine AX.condF ?_
   refine AX.exit ?_
   refine nmZ ?_
   rw [hK]
   refine AX.sR (rgAV [4,5]) ?_
   refine AX.ret ⟨.inl rfl,?_⟩
   exact Done.matS lay_mat19 rfl rfl rfl rfl (mcells_length ..).symm
set_option maxHeartbeats 8000000 in
theorem rzero_own (r c:Nat)(hr:r≤60)(hc:c≤60):PCall Tryz.prog 51 [.i .i64 r,.i .i64 c] (.tup [.agg [.i .i64 r,.i .i64 c,.own 0 0 (r*c) 3],.i .i64 0]) [⟨54,qrow (mcells c (fun _ _=>0) (r*c))⟩]:=by
 have cz:=wzeros_own r c hr hc
 refine PCall.of_ax Tryz.call51 Tryz.func51 rfl (by simp [Tryz.ntmps51]) fun O w0=>?_
 simp only [Tryz.ntmps51,Tryz.results51,argFr]
 generalize hK:r*c=K at *
 generalize mcells c (fun _ _=>0) K=zs at *
 refine AX.sR (rgAV [0,1,4]) ?_
 refine AX.seq ?_
 refine AX.block ?_
 refine AX.sR (rgAV [0,1,4,6]) ?_
 refine AX.condF ?_
 refine AX.sR (rgAV [0,1,4,14]) ?_
 refine AX.condF ?_
 refine AX.keepA [0,1,4] ?_
 refine AX.skip ?_
 refine nmZ ?_
 refine AX.sR (rgCV [4,5] (aI cz oT)) ?_
 refine AX.ret ⟨.inl rfl,?_⟩
 rw [ren_q]
 exact Done.matRowE lay_mat19 rfl rfl rfl rfl
def idM (t:Nat):Mx:=fun i k=>if i=k∧i<t then 1 else 0
set_option maxHeartbeats 8000000 in
theorem rone_own (n:Nat)(hn:n≤60):PCall Tryz.prog 155 [.i .i64 n] (.agg [.i .i64 n,.i .i64 n,.own 0 0 (n*n) 3]) [⟨54,qrow (mcells n (idM n) (n*n))⟩]:=by
 have cz:=wzeros_own n n hn hn
 have cone:PCall Tryz.prog 31 [] (.agg [.b (decide ((1:Rat).num<0)),dg (digits (1:Rat).num.natAbs),dg (digits (1:Rat).den)]) []:=pone_ok
 have hnn:n*n≤60*60:=Nat.mul_le_mul hn hn
 have e0:mcells n (fun _ _=>(0:Rat)) (n*n)=mcells n (idM 0) (n*n):=mcells_congr fun i k hi hk=>by
  unfold idM
  rw [if_neg (fun h=>Nat.not_lt_zero _ h.2)]
 rw [e0] at cz
 refine PCall.of_ax Tryz.call155 Tryz.func155 rfl (by simp [Tryz.ntmps155]) fun O w0=>?_
 simp only [Tryz.ntmps155,Tryz.results155,argFr]
 obtain ⟨K,hK⟩:∃ K,n*n=K:=⟨_,rfl⟩
 rw [hK] at cz hnn ⊢
 refine AX.sR (rgAV [0,2]) ?_
 refine AX.sR (rgCV [0,2,3] (aI cz oT)) ?_
 refine AX.seq ?_
 refine AX.sR (rgAV [0,2,3,4]) ?_
 refine AX.weaken id (st':=⟨[(4,.i .i64 (0:Nat)),(3,.ptr 2 0),(2,.ptr 0 0),(0,.i .i64 n)],[(2,⟨46,[.i .i64 n,.i .i64 n,.own 1 0 K 3]⟩),(1,⟨54,qrow (mcells n (idM 0) K)⟩),(0,⟨46,[.i .i64 0,.i .i64 0,.nl]⟩)],3⟩)
  leQ8
  ?_
 refine AX.block ?_
 refine AX.loop (fun N st=>∃ t:Nat,t≤n∧N=n-t∧st=⟨[(4,.i .i64 t),(3,.ptr 2 0),(2,.ptr 0 0),(0,.i .i64 n)],[(2,⟨46,[.i .i64 n,.i .i64 n,.own 1 0 K 3]⟩),(1,⟨54,qrow (mcells n (idM t) K)⟩),(0,⟨46,[.i .i64 0,.i .i64 0,.nl]⟩)],3⟩) n ⟨0,Nat.zero_le _,rfl,rfl⟩ ?_
 rintro N st ⟨t,ht,rfl,rfl⟩
 refine AX.seq ?_
 by_cases h1:t<n
 ·obtain ⟨z,hz⟩:∃ z,t*n+t=z:=⟨_,rfl⟩
  have m1:(t:Int)*(n:Int)=((t*n:Nat):Int):=(Int.natCast_mul t n).symm
  have a1:((t*n:Nat):Int)+(t:Int)=(z:Int):=by rw [← Int.natCast_add,hz]
  have hzK:z<K:=by
   rw [← hz,← hK]
   have:(t+1)*n≤n*n:=Nat.mul_le_mul_right _ h1
   rw [Nat.succ_mul] at this
   omega
  have hl:=qlen n n (idM t)
  have hset:=qset (n:=n) (idM t) 1 h1 h1 hz
  have hnext:mcells n (updM (idM t) t t 1) (n*n)=mcells n (idM (t+1)) (n*n):=mcells_congr fun i k hi hk=>by
   unfold updM idM
   by_cases e:i=t∧k=t
   ·rw [if_pos e,if_pos ⟨by omega,by omega⟩]
   ·rw [if_neg e]
    by_cases e2:i=k∧i<t
    ·rw [if_pos e2,if_pos ⟨e2.1,by omega⟩]
    ·rw [if_neg e2,if_neg (fun h=>e2 ⟨h.1,by
      by_cases e3:i=t
      ·exact absurd ⟨e3,by omega⟩ e
      ·omega⟩)]
  rw [hnext] at hset
  rw [hK] at hl hset
  refine AX.sR (rgAV [0,2,3,4,10]) ?_
  refine AX.condT ?_
  refine AX.keepA [0,2,3,4] ?_
  refine AX.skip ?_
  refine nmZ ?_
  refine AX.seq ?_
  refine AX.block ?_
  refine AX.rD (rgDWV [0,2,3,4] (aI @m1 (aI @a1 (aI @hl oT))) (aI cone oT)) ?_
  refine nmZ ?_
  rw [hset]
  refine AX.rR (rgWV [0,2,3,4] (aI @lit_add oT) oT) ?_
  refine nmZ ?_
  refine ⟨_,_,id,?_,
   leQ8
   , ⟨t+1,by omega,rfl,rfl⟩⟩
  omega
 ·obtain rfl:n=t:=by omega
  refine AX.sR (rgAV [0,2,3,4,10]) ?_
  refine AX.condF ?_
  refine AX.exit ?_
  refine nmZ ?_
  refine AX.sR (rgAV [2]) ?_
  refine AX.ret ⟨.inl rfl,?_⟩
  exact Done.matRow lay_mat19 rfl rfl rfl
set_option maxHeartbeats 8000000 in
theorem rident_own (n:Nat)(hn:n≤60):PCall Tryz.prog 138 [.i .i64 n] (.tup [.agg [.i .i64 n,.i .i64 n,.own 0 0 (n*n) 3],.i .i64 0]) [⟨54,qrow (mcells n (idM n) (n*n))⟩]:=by
 have cz:=rone_own n hn
 refine PCall.of_ax Tryz.call138 Tryz.func138 rfl (by simp [Tryz.ntmps138]) fun O w0=>?_
 simp only [Tryz.ntmps138,Tryz.results138,argFr]
 generalize hK:n*n=K at *
 generalize mcells n (idM n) K=zs at *
 refine AX.sR (rgAV [0,2]) ?_
 refine AX.seq ?_
 refine AX.block ?_
 refine AX.sR (rgAV [0,2,4]) ?_
 refine AX.condF ?_
 refine AX.sR (rgAV [0,2,8]) ?_
 refine AX.condF ?_
 refine AX.keepA [0,2] ?_
 refine AX.skip ?_
 refine nmZ ?_
 refine AX.sR (rgCV [2,3] (aI cz oT)) ?_
 refine AX.ret ⟨.inl rfl,?_⟩
 rw [ren_q]
 exact Done.matRowE lay_mat19 rfl rfl rfl rfl
noncomputable def rsN (n m:Nat) (A B:Mx) (i:Nat):Nat→Bool
 | 0=>false
 | k+1=>rsN n m A B i k || (toB n A i k && exN B k m)
theorem rsN_iff {n m:Nat} {A B:Mx} {i:Nat} (k:Nat):rsN n m A B i k=true↔∃ k',k' < k∧To n A i k'∧exN B k' m=true:=by
 induction k with
 | zero=>simp [rsN]
 | succ k ih=>
  rw [rsN,Bool.or_eq_true,ih,Bool.and_eq_true,toB_iff]
  constructor
  ·rintro (⟨k',h1,h2,h3⟩ | ⟨h2,h3⟩)
   ·exact ⟨k',by omega,h2,h3⟩
   ·exact ⟨k,by omega,h2,h3⟩
  ·rintro ⟨k',h1,h2,h3⟩
   by_cases e:k'=k
   ·subst e;exact .inr ⟨h2,h3⟩
   ·exact .inl ⟨k',by omega,h2,h3⟩
theorem Chn.Rch.from {n m:Nat} {A B:Mx} {i k:Nat} (h:To n A i k)(hr:(chn n m A B).Rch k):i<n→(chn n m A B).Rch i:=by
 intro hi
 induction h with
 | self _=>exact hr
 | move h1 h2 h3 ih=>exact ih (.move h1.lt h2 h3 hr)
theorem rch_to {n m:Nat} {A B:Mx} {i:Nat} (h:(chn n m A B).Rch i):∃ k,To n A i k∧∃ j,j<m∧0<B k j:=by
 induction h with
 | exit h1 h2 h3=>exact ⟨_,.self h1,_,h2,h3⟩
 | move h1 h2 h3 _ ih=>
  obtain ⟨k,h5,h6⟩:=ih
  exact ⟨k,(To.move (.self h1) h2 h3).trans h5,h6⟩
theorem rsN_rch {n m:Nat} {A B:Mx} (hC:isC n m A B=true) {i:Nat} (hi:i<n):rsN n m A B i n=rchB n m A B i:=by
 have hOk:=isC_ok hC
 have key:rsN n m A B i n=true↔rchB n m A B i=true:=by
  rw [rsN_iff,rchB_iff]
  constructor
  ·rintro ⟨k,h1,h2,h3⟩
   obtain ⟨j,h4,h5⟩:=(exN_iff _ _ _).1 h3
   exact Chn.Rch.from h2 (.exit h1 h4 (pos_of (hOk.E0 k j h1 h4) h5)) hi
  ·intro h
   obtain ⟨k,h2,j,h3,h4⟩:=rch_to h
   exact ⟨k,h2.lt,h2,(exN_iff _ _ _).2 ⟨j,h3,fun e=>by rw [e] at h4;exact absurd h4 (by decide)⟩⟩
 cases h1:rsN n m A B i n
 ·cases h2:rchB n m A B i
  ·rfl
  ·rw [key.2 h2] at h1;cases h1
 ·exact (key.1 h1).symm
set_option maxHeartbeats 16000000 in
theorem rreaches_ok (n m L:Nat) (hn:n≤60) (hm:m≤60) (A B:Mx) (hC:isC n m A B=true) (hA:∀ i k,i<n→k<n→rL (A i k)≤L) (hB:∀ i k,i<n→k<m→rL (B i k)≤L) (hL1:1≤L) (hL:120*(L+1)+1<2 ^ 33) :
  PCall Tryz.prog 137 [cV n m A B] (.sl (bl n (rchB n m A B))) []:=by
 have hOk:=isC_ok hC
 have cr:=r20right_ok n m L hn hm A B hA hB hL1 hL
 rw [hC] at cr
 have crr:=rreach_ok n m L hn A B hA (by omega)
 have cs:∀ i k,i<n→k<m→PCall Tryz.prog 34 [.agg [.b (decide ((B i k).num<0)),dg (digits (B i k).num.natAbs),dg (digits (B i k).den)]] (.i .i64 (sgnR (B i k))) []:=fun i k hi hk=>psign_ok (IsQ.of (hB i k hi hk)) (by omega)
 have ixB:=fun (i j:Nat) (hi:i<n) (hj:j<m)=>fun x y=>effIxM (x:=x) (y:=y) B hi hj rfl
 have hsg:∀ i k,i<n→k<m→(decide (B i k≠0)=true↔0<sgnR (B i k)):=fun i k hi hk=>by
  rw [decide_eq_true_eq,sgnR_pos]
  exact ⟨fun h=>pos_of (hOk.E0 i k hi hk) h,fun h e=>by rw [e] at h;exact absurd h (by decide)⟩
 have hnn:n*m≤60*60:=Nat.mul_le_mul hn hm
 have hfin:bl n (fun i=>rsN n m A B i n)=bl n (rchB n m A B):=bl_congr fun i hi=>rsN_rch hC hi
 have hlw:=bll_length n (toB n A)
 have hgw:=fun i (hi:i<n)=>bll_get (toB n A) hi
 have hs1:∀ i k,rsN n m A B i (k+1)=(rsN n m A B i k || (toB n A i k && exN B k m)):=fun _ _=>rfl
 have hs0:∀ i,rsN n m A B i 0=false:=fun _=>rfl
 rw [← hfin]
 clear hA hB hfin hC hOk
 obtain ⟨r,hr⟩:∃ r:Nat→Nat→Bool,rsN n m A B=r:=⟨_,rfl⟩
 rw [hr] at hs1 hs0 ⊢
 refine PCall.of_ax Tryz.call137 Tryz.func137 rfl (by simp [Tryz.ntmps137]) fun O w=>?_
 simp only [Tryz.ntmps137,Tryz.results137,argFr]
 unfold cV at *
 generalize (mcells n A (n*n)).map rV=Ac at *
 generalize (mcells m B (n*m)).map rV=Bc at *
 generalize bll n (toB n A)=Tw at *
 refine AX.sR (rgAV [1]) ?_
 refine AX.seq ?_
 refine AX.sR (rgCV [1,10] (aI cr oT)) ?_
 refine AX.condF ?_
 refine AX.keepA [1] ?_
 refine AX.skip ?_
 refine nmZ ?_
 refine AX.sR (rgCV [1,3] (aI crr oT)) ?_
 refine AX.sR (rgWV [1,3,4] (aI @bl_zero oT) oT) ?_
 refine AX.seq ?_
 refine AX.sR (rgAV [1,3,4,18,19]) ?_
 refine AX.weaken id (st':=⟨[(19,.i .i64 (0:Nat)),(18,.i .i64 n),(4,.own 1 0 n 1),(3,.sl Tw),(1,.ptr 0 0)],[(1,⟨4,bl n fun _=>false⟩),(0,⟨48,[.i .i64 n,.i .i64 n,.sl Ac,.i .i64 n,.i .i64 m,.sl Bc]⟩)],2⟩)
  leQ8
  ?_
 refine AX.block ?_
 refine AX.loop (fun N st=>∃ (i:Nat) (f:Nat→Bool),i≤n∧N=n-i∧(∀ i',f i'=if i' < i then r i' n else false)∧st=⟨[(19,.i .i64 i),(18,.i .i64 n),(4,.own 1 0 n 1),(3,.sl Tw),(1,.ptr 0 0)],[(1,⟨4,bl n f⟩),(0,⟨48,[.i .i64 n,.i .i64 n,.sl Ac,.i .i64 n,.i .i64 m,.sl Bc]⟩)],2⟩) n ⟨0,_,Nat.zero_le _,rfl,fun i'=>by rw [if_neg (Nat.not_lt_zero _)],rfl⟩ ?_
 rintro N st ⟨i,f,hi,rfl,hf,rfl⟩
 by_cases h1:i<n
 ·refine AX.sR (rgAV [1,3,4,18,19,20]) ?_
  refine AX.seq ?_
  refine AX.condT ?_
  refine AX.keepA [1,3,4,18,19] ?_
  refine AX.skip ?_
  refine nmZ ?_
  refine AX.seq ?_
  refine AX.block ?_
  refine AX.sR (rgAV [1,3,4,5,18,19]) ?_
  refine AX.sR (rgAV [1,3,4,5,18,19,23,24]) ?_
  refine AX.weaken id (st':=⟨[(24,.i .i64 (0:Nat)),(23,.i .i64 n),(19,.i .i64 i),(18,.i .i64 n),(5,.i .i64 i),(4,.own 1 0 n 1),(3,.sl Tw),(1,.ptr 0 0)],[(1,⟨4,bl n f⟩),(0,⟨48,[.i .i64 n,.i .i64 n,.sl Ac,.i .i64 n,.i .i64 m,.sl Bc]⟩)],2⟩)
   leQ8
   ?_
  refine AX.block ?_
  refine AX.loop (fun N st=>∃ (k:Nat) (f:Nat→Bool),k≤n∧N=n-k∧(∀ i',f i'=if i' < i then r i' n else if i'=i then r i k else false)∧st=⟨[(24,.i .i64 k),(23,.i .i64 n),(19,.i .i64 i),(18,.i .i64 n),(5,.i .i64 i),(4,.own 1 0 n 1),(3,.sl Tw),(1,.ptr 0 0)],[(1,⟨4,bl n f⟩),(0,⟨48,[.i .i64 n,.i .i64 n,.sl Ac,.i .i64 n,.i .i64 m,.sl Bc]⟩)],2⟩) n ⟨0,f,Nat.zero_le _,rfl,fun i'=>by
   rw [hf i',hs0]
   split
   ·rfl
   ·split<;>rfl,rfl⟩ ?_
  clear hf f
  rintro N st ⟨k,f,hk,rfl,hf,rfl⟩
  by_cases h2:k<n
  ·have hgk:=hgw i h1
   refine AX.sR (rgAV [1,3,4,5,18,19,23,24,25]) ?_
   refine AX.seq ?_
   refine AX.condT ?_
   refine AX.keepA [1,3,4,5,18,19,23,24] ?_
   refine AX.skip ?_
   refine nmZ ?_
   refine AX.seq ?_
   refine AX.block ?_
   refine AX.sR (rgAV [1,3,4,5,6,18,19,23,24]) ?_
   refine AX.sR (rgAV [1,3,4,5,6,7,18,19,23,24]) ?_
   refine AX.weaken id (st':=⟨[(24,.i .i64 k),(23,.i .i64 n),(19,.i .i64 i),(18,.i .i64 n),(7,.i .i64 (0:Nat)),(6,.i .i64 k),(5,.i .i64 i),(4,.own 1 0 n 1),(3,.sl Tw),(1,.ptr 0 0)],[(1,⟨4,bl n f⟩),(0,⟨48,[.i .i64 n,.i .i64 n,.sl Ac,.i .i64 n,.i .i64 m,.sl Bc]⟩)],2⟩)
    leQ8
    ?_
   refine AX.block ?_
   refine AX.loop (fun N st=>∃ (j:Nat) (f:Nat→Bool),j≤m∧N=m-j∧(∀ i',f i'=if i' < i then r i' n else if i'=i then r i k || (toB n A i k && exN B k j) else false)∧st=⟨[(24,.i .i64 k),(23,.i .i64 n),(19,.i .i64 i),(18,.i .i64 n),(7,.i .i64 j),(6,.i .i64 k),(5,.i .i64 i),(4,.own 1 0 n 1),(3,.sl Tw),(1,.ptr 0 0)],[(1,⟨4,bl n f⟩),(0,⟨48,[.i .i64 n,.i .i64 n,.sl Ac,.i .i64 n,.i .i64 m,.sl Bc]⟩)],2⟩) m ⟨0,f,Nat.zero_le _,rfl,fun i'=>by
    rw [hf i']
    split
    ·rfl
    ·split
     ·show r i k=(r i k || (toB n A i k && false))
      rw [Bool.and_false,Bool.or_false]
     ·rfl,rfl⟩ ?_
   clear hf f
   rintro N st ⟨j,f,hj,rfl,hf,rfl⟩
   refine AX.seq ?_
   by_cases h3:j<m
   ·have hl:=bl_length n f
    have hg:=bl_get f h1
    have hbk:=bl_get (toB n A i) h2
    have hbl:=bl_length n (toB n A i)
    have hfi:f i=(r i k || (toB n A i k && exN B k j)):=by rw [hf i,if_neg (Nat.lt_irrefl _),if_pos rfl]
    rw [hfi] at hg
    have hc:=cs k j h2 h3
    have ix:=ixB k j h2 h3
    have hd:=hsg k j h2 h3
    have m1:(k:Int)*(m:Int)=((k*m:Nat):Int):=(Int.natCast_mul k m).symm
    have a1:((k*m:Nat):Int)+(j:Int)=((k*m+j:Nat):Int):=(Int.natCast_add _ _).symm
    have b1:k*m≤60*60:=Nat.mul_le_mul (by omega) hm
    have hset:=fun b=>bl_set f b h1
    have hf':∀ b,b=(r i k || (toB n A i k && exN B k (j+1)))→∀ i',updB f i b i'=if i' < i then r i' n else if i'=i then r i k || (toB n A i k && exN B k (j+1)) else false:=by
     intro b hb i'
     unfold updB
     by_cases e:i'=i
     ·subst e
      rw [if_pos rfl,if_neg (Nat.lt_irrefl _),if_pos rfl]
      exact hb
     ·rw [if_neg e,hf i',if_neg e,if_neg e]
    have hex:exN B k (j+1)=(exN B k j || decide (B k j≠0)):=rfl
    clear cs ixB hsg hgw hs1 hs0
    generalize bl n (toB n A i)=Ti at *
    cases hv:(r i k || (toB n A i k && exN B k j))
    ·rw [hv] at hg
     cases ht:toB n A i k
     ·rw [ht] at hbk
      have hfb:=hf' false (by rw [ht] at hv ⊢;simpa using hv)
      have hset:=hset false
      clear hf hfi hf' hex
      generalize updB f i false=f2 at *
      refine AX.sR (rgAV [1,3,4,5,6,7,18,19,23,24,31]) ?_
      refine AX.condT ?_
      refine AX.keepA [1,3,4,5,6,7,18,19,23,24] ?_
      refine AX.skip ?_
      refine nmZ ?_
      refine AX.seq ?_
      refine AX.block ?_
      refine AX.rR (rgWV [1,3,4,5,6,7,18,19,23,24] (aI @hl (aI @hg (aI @hlw (aI @hgk (aI @hbl (aI @hbk oT)))))) oT) ?_
      refine nmZ ?_
      rw [hset]
      refine AX.rR (rgWV [1,3,4,5,6,7,18,19,23,24] (aI @lit_add oT) oT) ?_
      refine nmZ ?_
      refine ⟨_,_,id,?_,
       leQ8
       , ⟨j+1,f2,by omega,rfl,(fun i'=>by rw [hfb i',ht]),rfl⟩⟩
      omega
     ·rw [ht] at hbk
      have hv1:r i k=false∧exN B k j=false:=by rw [ht] at hv;simpa using hv
      by_cases hz:0<sgnR (B k j)
      ·have hfb:=hf' true (by rw [ht,hex,hd.2 hz];simp)
       have hset:=hset true
       clear hf hfi hf' hex hd hv hv1
       generalize updB f i true=f2 at *
       generalize sgnR (B k j)=sg at *
       generalize B k j=p at *
       generalize k*m+j=z at *
       generalize k*m=x1 at *
       refine AX.sR (rgAV [1,3,4,5,6,7,18,19,23,24,31]) ?_
       refine AX.condT ?_
       refine AX.keepA [1,3,4,5,6,7,18,19,23,24] ?_
       refine AX.skip ?_
       refine nmZ ?_
       refine AX.seq ?_
       refine AX.block ?_
       refine AX.rR (rgEV [1,3,4,5,6,7,18,19,23,24] (aI @hl (aI @hg (aI @hlw (aI @hgk (aI @hbl (aI @hbk (aI @m1 (aI @a1 oT)))))))) (aI hc oT) (aI ix oT)) ?_
       refine nmZ ?_
       rw [hset]
       refine AX.rR (rgWV [1,3,4,5,6,7,18,19,23,24] (aI @lit_add oT) oT) ?_
       refine nmZ ?_
       refine ⟨_,_,id,?_,
        leQ8
        , ⟨j+1,f2,by omega,rfl,(fun i'=>by rw [hfb i',ht]),rfl⟩⟩
       omega
      ·have hdf:decide (B k j≠0)=false:=by
        cases h:decide (B k j≠0)
        ·rfl
        ·exact absurd (hd.1 h) hz
       have hfb:=hf' false (by rw [ht,hex,hdf,hv1.1,hv1.2];rfl)
       have hset:=hset false
       clear hf hfi hf' hex hd hv hv1 hdf
       generalize updB f i false=f2 at *
       generalize sgnR (B k j)=sg at *
       generalize B k j=p at *
       generalize k*m+j=z at *
       generalize k*m=x1 at *
       refine AX.sR (rgAV [1,3,4,5,6,7,18,19,23,24,31]) ?_
       refine AX.condT ?_
       refine AX.keepA [1,3,4,5,6,7,18,19,23,24] ?_
       refine AX.skip ?_
       refine nmZ ?_
       refine AX.seq ?_
       refine AX.block ?_
       refine AX.rR (rgEV [1,3,4,5,6,7,18,19,23,24] (aI @hl (aI @hg (aI @hlw (aI @hgk (aI @hbl (aI @hbk (aI @m1 (aI @a1 (aI @hz oT))))))))) (aI hc oT) (aI ix oT)) ?_
       refine nmZ ?_
       rw [hset]
       refine AX.rR (rgWV [1,3,4,5,6,7,18,19,23,24] (aI @lit_add oT) oT) ?_
       refine nmZ ?_
       refine ⟨_,_,id,?_,
        leQ8
        , ⟨j+1,f2,by omega,rfl,(fun i'=>by rw [hfb i',ht]),rfl⟩⟩
       omega
    ·rw [hv] at hg
     have hfb:=hf' true (by
      rw [hex]
      cases h1:r i k
      ·rw [h1] at hv
       have h2:toB n A i k=true∧exN B k j=true:=by simpa using hv
       rw [h2.1,h2.2]
       rfl
      ·rfl)
     have hset:=hset true
     clear hf hfi hf' hex hd
     generalize updB f i true=f2 at *
     refine AX.sR (rgAV [1,3,4,5,6,7,18,19,23,24,31]) ?_
     refine AX.condT ?_
     refine AX.keepA [1,3,4,5,6,7,18,19,23,24] ?_
     refine AX.skip ?_
     refine nmZ ?_
     refine AX.seq ?_
     refine AX.block ?_
     refine AX.rR (rgWV [1,3,4,5,6,7,18,19,23,24] (aI @hl (aI @hg oT)) oT) ?_
     refine nmZ ?_
     rw [hset]
     refine AX.rR (rgWV [1,3,4,5,6,7,18,19,23,24] (aI @lit_add oT) oT) ?_
     refine nmZ ?_
     refine ⟨_,_,id,?_,
      leQ8
      , ⟨j+1,f2,by omega,rfl,hfb,rfl⟩⟩
     omega
   ·have e:j=m:=by omega
    subst e
    refine AX.sR (rgAV [1,3,4,5,6,7,18,19,23,24,31]) ?_
    refine AX.condF ?_
    refine AX.exit ?_
    refine nmZ ?_
    refine AX.rR (rgWV [1,3,4,5,18,19,23,24] (aI @lit_add oT) oT) ?_
    refine nmZ ?_
    refine ⟨_,_,id,?_,
     leQ8
     , ⟨k+1,f,by omega,rfl,(fun i'=>by rw [hf i',hs1]),rfl⟩⟩
    omega
  ·have e:k=n:=by omega
   subst e
   refine AX.sR (rgAV [1,3,4,5,18,19,23,24,25]) ?_
   refine AX.seq ?_
   refine AX.condF ?_
   refine AX.exit ?_
   refine nmZ ?_
   refine AX.rR (rgWV [1,3,4,18,19] (aI @lit_add oT) oT) ?_
   refine nmZ ?_
   refine ⟨_,_,id,?_,
    leQ8
    , ⟨i+1,f,by omega,rfl,(fun i'=>by
      rw [hf i']
      by_cases h:i' < i
      ·rw [if_pos h,if_pos (by omega)]
      ·rw [if_neg h]
       by_cases e:i'=i
       ·subst e
        rw [if_pos rfl,if_pos (by omega)]
       ·rw [if_neg e,if_neg (by omega)]),rfl⟩⟩
   omega
 ·have hbl:bl n f=bl n fun i=>r i n:=bl_congr fun i' hi'=>by rw [hf i',if_pos (by omega)]
  rw [hbl]
  refine AX.sR (rgAV [1,3,4,18,19,20]) ?_
  refine AX.seq ?_
  refine AX.condF ?_
  refine AX.exit ?_
  refine nmZ ?_
  refine AX.sR (rgAV [2]) ?_
  refine AX.ret ⟨.inl rfl,?_⟩
  exact Done.slB rfl rfl
def dlt1 (i k:Nat):Rat:=if i=k then 1 else 0
def eqA (r:Nat→Bool) (A:Mx) (i0 k0:Nat):Mx:=fun i k=>if (i<i0∨(i=i0∧k<k0))∧r i=true∧r k=true then dlt1 i k-A i k else dlt1 i k
def eqB (r:Nat→Bool) (B:Mx) (i0 k0:Nat):Mx:=fun i k=>if (i<i0∨(i=i0∧k<k0))∧r i=true then B i k else 0
theorem nleQ (a:Nat):(a≤a)=True:=eq_true (Nat.le_refl a)
theorem dlt1_len (i k:Nat):rL (dlt1 i k)≤1:=by
 unfold dlt1
 split
 ·decide +kernel
 ·decide +kernel
theorem eqA_len {n L:Nat} {r:Nat→Bool} {A:Mx} {i0 k0:Nat} (hA:∀ i k,i<n→k<n→rL (A i k)≤L):∀ i k,i<n→k<n→rL (eqA r A i0 k0 i k)≤L+2:=fun i k hi hk=>by
 unfold eqA
 split
 ·have:=rL_sub _ _ (dlt1_len i k) (hA i k hi hk)
  omega
 ·have:=dlt1_len i k
  omega
theorem eqB_len {n m L:Nat} {r:Nat→Bool} {B:Mx} {i0 k0:Nat} (hB:∀ i k,i<n→k<m→rL (B i k)≤L):∀ i k,i<n→k<m→rL (eqB r B i0 k0 i k)≤L+2:=fun i k hi hk=>by
 unfold eqB
 split
 ·have:=hB i k hi hk
  omega
 ·have:rL 0≤1:=by decide +kernel
  omega
theorem eq_rowA {n m:Nat} {A:Mx} {r:Nat→Bool} {y:Nat→Rat} (i:Nat)(hi:i<n)(h0:∀ k,k<n→r k=false→y k=0):(sumN n fun k=>eqA r A n 0 i k*y k)=if r i=true then y i-sumN n fun k=>A i k*y k else y i:=by
 have hd:(sumN n fun k=>dlt1 i k*y k)=y i:=by
  rw [sumN_single hi fun k hk hne=>by unfold dlt1;rw [if_neg (fun e=>hne e.symm),Rat.zero_mul]]
  unfold dlt1
  rw [if_pos rfl,Rat.one_mul]
 split
 ·rename_i hr
  rw [← hd,← sumN_sub]
  refine sumN_congr fun k hk=>?_
  unfold eqA
  cases hk':r k
  ·rw [if_neg (fun h=>by cases h.2.2),h0 k hk hk',Rat.mul_zero,Rat.mul_zero]
   grind
  ·rw [if_pos ⟨.inl hi,hr,rfl⟩]
   grind
 ·rename_i hr
  rw [← hd]
  refine sumN_congr fun k hk=>?_
  unfold eqA
  rw [if_neg (fun h=>hr h.2.1)]
theorem eq_nonsing {n m:Nat} {A B:Mx} (hC:isC n m A B=true):NonSing n (eqA (rchB n m A B) A n 0):=by
 intro y hy
 have h0:∀ k,k<n→rchB n m A B k=false→y k=0:=fun k hk hr=>by
  have h1:=hy k hk
  rw [sumN_congr (g:=fun j=>dlt1 k j*y j) (fun j hj=>by unfold eqA;rw [if_neg (fun h=>by rw [hr] at h;cases h.2.1)])] at h1
  rw [sumN_single hk fun j hj hne=>by unfold dlt1;rw [if_neg (fun e=>hne e.symm),Rat.zero_mul]] at h1
  unfold dlt1 at h1
  rwa [if_pos rfl,Rat.one_mul] at h1
 refine (chn n m A B).only (isC_ok hC) (x:=y) (fun i hi hr=>?_) (fun i hi hr=>?_)
 ·have hi:i<n:=hi
  have h1:=hy i hi
  rw [eq_rowA (m:=m) i hi h0,if_pos (rchB_iff.2 hr)] at h1
  show y i=sumN n fun k=>A i k*y k
  grind
 ·refine h0 i hi ?_
  cases hb:rchB n m A B i
  ·rfl
  ·exact absurd (rchB_iff.1 hb) hr
theorem eq_solX {n m:Nat} {A B X:Mx} (hX:(chn n m A B).IsEach X):∀ i c,i<n→c<m→(sumN n fun j=>eqA (rchB n m A B) A n 0 i j*X j c)=eqB (rchB n m A B) B n 0 i c:=by
 intro i c hi hc
 have hz:∀ k,k<n→rchB n m A B k=false→X k c=0:=fun k hk hr=>hX.z k c hk hc fun h=>by rw [rchB_iff.2 h] at hr;cases hr
 rw [eq_rowA (m:=m) (y:=fun j=>X j c) i hi hz]
 unfold eqB
 cases hr:rchB n m A B i
 ·rw [if_neg (by decide),if_neg (fun h=>by cases h.2)]
  exact hz i hi hr
 ·rw [if_pos rfl,if_pos ⟨.inl hi,rfl⟩]
  have:=hX.eq i c hi hc (rchB_iff.1 hr)
  have e:(sumN (chn n m A B).n fun k=>(chn n m A B).M i k*X k c)=sumN n fun k=>A i k*X k c:=rfl
  rw [e] at this
  have e2:(chn n m A B).E i c=B i c:=rfl
  rw [e2] at this
  grind
set_option maxHeartbeats 64000000 in
theorem r20each_ok (n m L:Nat) (hn:n≤60) (hm:m≤60) (A B X:Mx) (hC:isC n m A B=true) (hX:(chn n m A B).IsEach X) (hA:∀ i k,i<n→k<n→rL (A i k)≤L) (hB:∀ i k,i<n→k<m→rL (B i k)≤L) (hL1:1≤L) (hL:120*(L+1)+1<2 ^ 33) (hL2:5 ^ n*(L+2)<2 ^ 30) :
  PCall Tryz.prog 99 [cV n m A B] (.tup [qM n m X,.i .i64 0]) []:=by
 have cr:=r20right_ok n m L hn hm A B hA hB hL1 (by omega)
 rw [hC] at cr
 have crch:=rreaches_ok n m L hn hm A B hC hA hB hL1 hL
 have cid:=rident_own n hn
 have czr:=rzero_own n m hn hm
 have csv:=rsolve_ok n m (L+2) hn hm _ _ X (eq_nonsing hC) (eqA_len hA) (eqB_len hB) (by omega) hL2 (eq_solX hX)
 generalize rchB n m A B=r at *
 have e1:mcells n (idM n) (n*n)=mcells n (eqA r A 0 0) (n*n):=mcells_congr fun i k hi hk=>by
  unfold idM eqA dlt1
  rw [if_neg (fun h:(i<0∨_)∧_=>by omega)]
  by_cases e:i=k
  ·rw [if_pos ⟨e,hi⟩,if_pos e]
  ·rw [if_neg (fun h=>e h.1),if_neg e]
 have e2:mcells m (fun _ _=>(0:Rat)) (n*m)=mcells m (eqB r B 0 0) (n*m):=mcells_congr fun i k hi hk=>by
  unfold eqB
  rw [if_neg (fun h=>by omega)]
 rw [e1] at cid
 rw [e2] at czr
 have hnn:n*n≤60*60:=Nat.mul_le_mul hn hn
 have hnm:n*m≤60*60:=Nat.mul_le_mul hn hm
 have ixA:=fun (i j:Nat) (hi:i<n) (hj:j<n)=>fun x y=>effIxM (x:=x) (y:=y) A hi hj rfl
 have ixB:=fun (i j:Nat) (hi:i<n) (hj:j<m)=>fun x y=>effIxM (x:=x) (y:=y) B hi hj rfl
 refine PCall.of_ax Tryz.call99 Tryz.func99 rfl (by simp [Tryz.ntmps99]) fun O w0=>?_
 simp only [Tryz.ntmps99,Tryz.results99,argFr]
 unfold cV qM mV at *
 generalize (mcells n A (n*n)).map rV=Ac at *
 generalize (mcells m B (n*m)).map rV=Bc at *
 generalize (mcells m X (n*m)).map rV=Xc at *
 have qA:=fun i k=>qlen n n (eqA r A i k)
 have qB:=fun i k=>qlen m n (eqB r B i k)
 have ckA:chunks 3 (n*n) (qrow (mcells n (eqA r A n 0) (n*n)))=(mcells n (eqA r A n 0) (n*n)).map rV:=by
  have:=chunks_q (mcells n (eqA r A n 0) (n*n))
  rwa [mcells_length] at this
 have ckB:chunks 3 (n*m) (qrow (mcells m (eqB r B n 0) (n*m)))=(mcells m (eqB r B n 0) (n*m)).map rV:=by
  have:=chunks_q (mcells m (eqB r B n 0) (n*m))
  rwa [mcells_length] at this
 have tkA:List.take (n*n*3) (qrow (mcells n (eqA r A n 0) (n*n)))=qrow (mcells n (eqA r A n 0) (n*n)):=by rw [← qA n 0];exact List.take_length
 have tkB:List.take (n*m*3) (qrow (mcells m (eqB r B n 0) (n*m)))=qrow (mcells m (eqB r B n 0) (n*m)):=by rw [← qB n 0];exact List.take_length
 obtain ⟨Kn,hKn⟩:∃ K,n*n=K:=⟨_,rfl⟩
 obtain ⟨Km,hKm⟩:∃ K,n*m=K:=⟨_,rfl⟩
 rw [hKn] at cid csv qA ckA tkA hnn
 rw [hKm] at czr csv qB ckB tkB hnm
 have hbl:=bl_length n r
 have hbg:=fun (i:Nat) (hi:i<n)=>bl_get r hi
 obtain ⟨bs,hbs⟩:∃ x,bl n r=x:=⟨_,rfl⟩
 rw [hbs] at hbl hbg crch
 refine AX.sR (rgAV [1,2]) ?_
 refine AX.seq ?_
 refine AX.sR (rgCV [1,2,15] (aI cr oT)) ?_
 refine AX.condF ?_
 refine AX.keepA [1,2] ?_
 refine AX.skip ?_
 refine nmZ ?_
 refine AX.sR (rgCV [1,2,4] (aI crch oT)) ?_
 refine AX.sR (rgAV [1,2,4,5]) ?_
 refine AX.sR (rgCV [1,2,4,5,6] (aI cid oT)) ?_
 refine AX.sR (rgCV [1,2,4,5,6,8] (aI czr oT)) ?_
 refine AX.seq ?_
 refine AX.sR (rgAV [1,2,4,5,6,8,10]) ?_
 refine AX.weaken id (st':=⟨[(10,.i .i64 (0:Nat)),(8,.ptr 5 0),(6,.ptr 3 0),(5,.i .i64 n),(4,.sl bs),(2,.ptr 1 0),(1,.ptr 0 0)],[(5,⟨46,[.i .i64 n,.i .i64 m,.own 4 0 Km 3]⟩),(4,⟨54,qrow (mcells m (eqB r B 0 0) Km)⟩),(3,⟨46,[.i .i64 n,.i .i64 n,.own 2 0 Kn 3]⟩),(2,⟨54,qrow (mcells n (eqA r A 0 0) Kn)⟩),(1,⟨46,[.i .i64 0,.i .i64 0,.nl]⟩),(0,⟨48,[.i .i64 n,.i .i64 n,.sl Ac,.i .i64 n,.i .i64 m,.sl Bc]⟩)],6⟩)
  leQ8
  ?_
 refine AX.block ?_
 refine AX.loop (fun N st=>∃ i:Nat,i≤n∧N=n-i∧st=⟨[(10,.i .i64 i),(8,.ptr 5 0),(6,.ptr 3 0),(5,.i .i64 n),(4,.sl bs),(2,.ptr 1 0),(1,.ptr 0 0)],[(5,⟨46,[.i .i64 n,.i .i64 m,.own 4 0 Km 3]⟩),(4,⟨54,qrow (mcells m (eqB r B i 0) Km)⟩),(3,⟨46,[.i .i64 n,.i .i64 n,.own 2 0 Kn 3]⟩),(2,⟨54,qrow (mcells n (eqA r A i 0) Kn)⟩),(1,⟨46,[.i .i64 0,.i .i64 0,.nl]⟩),(0,⟨48,[.i .i64 n,.i .i64 n,.sl Ac,.i .i64 n,.i .i64 m,.sl Bc]⟩)],6⟩) n ⟨0,Nat.zero_le _,rfl,rfl⟩ ?_
 rintro N st ⟨i,hi,rfl,rfl⟩
 refine AX.seq ?_
 by_cases h1:i<n
 ·have hbi:=hbg i h1
  have nxtA:∀ Z:Nat,(r i=false∨Z=n)→mcells n (eqA r A i (if r i=true then Z else 0)) Kn=mcells n (eqA r A (i+1) 0) Kn:=fun Z hZ=>by
   rw [← hKn]
   refine mcells_congr fun a k ha hk=>?_
   unfold eqA
   by_cases e:a=i
   ·subst e
    cases hr:r a
    ·rw [if_neg (fun h=>by cases h.2.1),if_neg (fun h=>by cases h.2.1)]
    ·rcases hZ with h | h
     ·rw [hr] at h;cases h
     ·rw [if_pos rfl,h]
      have z1:(a<a∨a=a∧k<n):=.inr ⟨rfl,hk⟩
      have z2:(a<a+1∨a=a+1∧k<0):=.inl (Nat.lt_succ_self a)
      cases hrk:r k
      ·rw [if_neg (fun h=>by cases h.2.2),if_neg (fun h=>by cases h.2.2)]
      ·rw [if_pos ⟨z1,rfl,rfl⟩,if_pos ⟨z2,rfl,rfl⟩]
   ·have e3:(a<i∨a=i∧k<(if r i=true then Z else 0))=(a<i+1∨a=i+1∧k<0):=by
     apply propext
     constructor<;>intro h<;>omega
    simp only [e3]
  have nxtB:∀ Z:Nat,(r i=false∨Z=m)→mcells m (eqB r B i (if r i=true then Z else 0)) Km=mcells m (eqB r B (i+1) 0) Km:=fun Z hZ=>by
   rw [← hKm]
   refine mcells_congr fun a k ha hk=>?_
   unfold eqB
   by_cases e:a=i
   ·subst e
    cases hr:r a
    ·rw [if_neg (fun h=>by cases h.2),if_neg (fun h=>by cases h.2)]
    ·rcases hZ with h | h
     ·rw [hr] at h;cases h
     ·rw [if_pos rfl,h]
      rw [if_pos ⟨.inr ⟨rfl,hk⟩,rfl⟩,if_pos ⟨.inl (Nat.lt_succ_self a),rfl⟩]
   ·have e3:(a<i∨a=i∧k<(if r i=true then Z else 0))=(a<i+1∨a=i+1∧k<0):=by
     apply propext
     constructor<;>intro h<;>omega
    simp only [e3]
  refine AX.sR (rgAV [1,2,4,5,6,8,10,37]) ?_
  refine AX.condT ?_
  refine AX.keepA [1,2,4,5,6,8,10] ?_
  refine AX.skip ?_
  refine nmZ ?_
  refine AX.seq ?_
  refine AX.block ?_
  refine AX.seq ?_
  cases hri:r i
  ·have n1:=nxtA 0 (.inl hri)
   have n2:=nxtB 0 (.inl hri)
   rw [hri,if_neg (by decide)] at n1 n2
   rw [hri] at hbi
   rw [n1,n2]
   clear nxtA nxtB
   refine AX.sR (rgWV [1,2,4,5,6,8,10,44] (aI @hbl (aI @hbi oT)) oT) ?_
   refine AX.condT ?_
   refine AX.exit ?_
   refine nmZ ?_
   refine AX.rR (rgWV [1,2,4,5,6,8,10] (aI @lit_add oT) oT) ?_
   refine nmZ ?_
   refine ⟨_,_,id,?_,
    leQ8
    , ⟨i+1,by omega,rfl,rfl⟩⟩
   omega
  ·have n1:=nxtA n (.inr rfl)
   have n2:=nxtB m (.inr rfl)
   rw [hri,if_pos rfl] at n1 n2
   rw [hri] at hbi
   clear nxtA nxtB
   refine AX.sR (rgWV [1,2,4,5,6,8,10,44] (aI @hbl (aI @hbi oT)) oT) ?_
   refine AX.condF ?_
   refine AX.keepA [1,2,4,5,6,8,10] ?_
   refine AX.skip ?_
   refine nmZ ?_
   refine AX.seq ?_
   refine AX.sR (rgAV [1,2,4,5,6,8,10,11]) ?_
   refine AX.block ?_
   refine AX.loop (fun N st=>∃ k:Nat,k≤n∧N=n-k∧st=⟨[(11,.i .i64 k),(10,.i .i64 i),(8,.ptr 5 0),(6,.ptr 3 0),(5,.i .i64 n),(4,.sl bs),(2,.ptr 1 0),(1,.ptr 0 0)],[(5,⟨46,[.i .i64 n,.i .i64 m,.own 4 0 Km 3]⟩),(4,⟨54,qrow (mcells m (eqB r B i 0) Km)⟩),(3,⟨46,[.i .i64 n,.i .i64 n,.own 2 0 Kn 3]⟩),(2,⟨54,qrow (mcells n (eqA r A i k) Kn)⟩),(1,⟨46,[.i .i64 0,.i .i64 0,.nl]⟩),(0,⟨48,[.i .i64 n,.i .i64 n,.sl Ac,.i .i64 n,.i .i64 m,.sl Bc]⟩)],6⟩) n ⟨0,Nat.zero_le _,rfl,rfl⟩ ?_
   rintro N st ⟨k,hk,rfl,rfl⟩
   refine AX.seq ?_
   by_cases h2:k<n
   ·have hbk:=hbg k h2
    have ix:=ixA i k h1 h2
    obtain ⟨z,hz⟩:∃ z,i*n+k=z:=⟨_,rfl⟩
    rw [hz] at ix
    have m1:(i:Int)*(n:Int)=((i*n:Nat):Int):=(Int.natCast_mul i n).symm
    have a1:((i*n:Nat):Int)+(k:Int)=(z:Int):=by rw [← Int.natCast_add,hz]
    have hzK:z<Kn:=by
     rw [← hz,← hKn]
     have:(i+1)*n≤n*n:=Nat.mul_le_mul_right _ h1
     rw [Nat.succ_mul] at this
     omega
    have bz:i*n≤60*60:=by
     have:i*n≤n*n:=Nat.mul_le_mul_right _ hi
     omega
    have hl:=qA i k
    have hg:=qget (n:=n) (eqA r A i k) h1 h2 hz
    have ev:eqA r A i k i k=dlt1 i k:=by
     unfold eqA
     rw [if_neg (fun h=>by omega)]
    rw [ev] at hg
    have hset:=qset (n:=n) (eqA r A i k) (dlt1 i k-A i k) h1 h2 hz
    rw [hKn] at hg hset
    refine AX.sR (rgAV [1,2,4,5,6,8,10,11,47]) ?_
    refine AX.condT ?_
    refine AX.keepA [1,2,4,5,6,8,10,11] ?_
    refine AX.skip ?_
    refine nmZ ?_
    refine AX.seq ?_
    refine AX.block ?_
    cases hrk:r k
    ·have hnext:mcells n (eqA r A i k) Kn=mcells n (eqA r A i (k+1)) Kn:=by
      rw [← hKn]
      refine mcells_congr fun a b ha hb=>?_
      unfold eqA
      by_cases e:a=i∧b=k
      ·rw [if_neg (fun h=>by rw [e.2,hrk] at h;cases h.2.2),if_neg (fun h=>by rw [e.2,hrk] at h;cases h.2.2)]
      ·have e3:(a<i∨a=i∧b<k)=(a<i∨a=i∧b<k+1):=by
        apply propext
        constructor<;>intro h<;>omega
       simp only [e3]
     rw [hrk] at hbk
     rw [hnext]
     refine AX.sR (rgWV [1,2,4,5,6,8,10,11,53] (aI @hbl (aI @hbk oT)) oT) ?_
     refine AX.condF ?_
     refine AX.keepA [1,2,4,5,6,8,10,11] ?_
     refine AX.skip ?_
     refine nmZ ?_
     refine AX.rR (rgWV [1,2,4,5,6,8,10,11] (aI @lit_add oT) oT) ?_
     refine nmZ ?_
     refine ⟨_,_,id,?_,
      leQ8
      , ⟨k+1,by omega,rfl,rfl⟩⟩
     omega
    ·have hnext:mcells n (updM (eqA r A i k) i k (dlt1 i k-A i k)) Kn=mcells n (eqA r A i (k+1)) Kn:=by
      rw [← hKn]
      refine mcells_congr fun a b ha hb=>?_
      unfold updM eqA
      by_cases e:a=i∧b=k
      ·rw [if_pos e,if_pos ⟨.inr ⟨e.1,by omega⟩,by rw [e.1];exact hri,by rw [e.2];exact hrk⟩,e.1,e.2]
      ·rw [if_neg e]
       have e3:(a<i∨a=i∧b<k)=(a<i∨a=i∧b<k+1):=by
        apply propext
        constructor<;>intro h<;>omega
       simp only [e3]
     rw [hnext] at hset
     rw [hrk] at hbk
     have cb:PCall Tryz.prog 73 [.agg [.b (decide (((dlt1 i k)).num<0)),dg (digits ((dlt1 i k)).num.natAbs),dg (digits ((dlt1 i k)).den)],.agg [.b (decide (((A i k)).num<0)),dg (digits ((A i k)).num.natAbs),dg (digits ((A i k)).den)]] (.agg [.b (decide (((dlt1 i k-A i k)).num<0)),dg (digits ((dlt1 i k-A i k)).num.natAbs),dg (digits ((dlt1 i k-A i k)).den)]) []:=psub_ok (L:=L+1) (IsQ.of (Nat.le_trans (dlt1_len i k) (by omega))) (IsQ.of (Nat.le_trans (hA i k h1 h2) (by omega))) (by omega) (by omega)
     clear hnext ev
     generalize dlt1 i k-A i k=q1 at *
     generalize dlt1 i k=q2 at *
     generalize A i k=q3 at *
     refine AX.sR (rgWV [1,2,4,5,6,8,10,11,53] (aI @hbl (aI @hbk oT)) oT) ?_
     refine AX.condT ?_
     refine AX.rD (rgDEV [1,2,4,5,6,8,10,11] (aI @m1 (aI @a1 (aI @hl (aI @hg oT)))) (aI cb oT) (aI ix oT)) ?_
     refine nmZ ?_
     rw [hset]
     refine AX.rR (rgWV [1,2,4,5,6,8,10,11] (aI @lit_add oT) oT) ?_
     refine nmZ ?_
     refine ⟨_,_,id,?_,
      leQ8
      , ⟨k+1,by omega,rfl,rfl⟩⟩
     omega
   ·obtain rfl:n=k:=by omega
    refine AX.sR (rgAV [1,2,4,5,6,8,10,11,47]) ?_
    refine AX.condF ?_
    refine AX.exit ?_
    refine nmZ ?_
    rw [n1]
    refine AX.sR (rgAV [1,2,4,5,6,8,10,12]) ?_
    refine AX.block ?_
    refine AX.loop (fun N st=>∃ k:Nat,k≤m∧N=m-k∧st=⟨[(12,.i .i64 k),(10,.i .i64 i),(8,.ptr 5 0),(6,.ptr 3 0),(5,.i .i64 n),(4,.sl bs),(2,.ptr 1 0),(1,.ptr 0 0)],[(5,⟨46,[.i .i64 n,.i .i64 m,.own 4 0 Km 3]⟩),(4,⟨54,qrow (mcells m (eqB r B i k) Km)⟩),(3,⟨46,[.i .i64 n,.i .i64 n,.own 2 0 Kn 3]⟩),(2,⟨54,qrow (mcells n (eqA r A (i+1) 0) Kn)⟩),(1,⟨46,[.i .i64 0,.i .i64 0,.nl]⟩),(0,⟨48,[.i .i64 n,.i .i64 n,.sl Ac,.i .i64 n,.i .i64 m,.sl Bc]⟩)],6⟩) m ⟨0,Nat.zero_le _,rfl,rfl⟩ ?_
    rintro N st ⟨k,hk,rfl,rfl⟩
    refine AX.seq ?_
    by_cases h3:k<m
    ·have ix:=ixB i k h1 h3
     obtain ⟨z,hz⟩:∃ z,i*m+k=z:=⟨_,rfl⟩
     rw [hz] at ix
     have m1:(i:Int)*(m:Int)=((i*m:Nat):Int):=(Int.natCast_mul i m).symm
     have a1:((i*m:Nat):Int)+(k:Int)=(z:Int):=by rw [← Int.natCast_add,hz]
     have hzK:z<Km:=by
      rw [← hz,← hKm]
      have:(i+1)*m≤n*m:=Nat.mul_le_mul_right _ h1
      rw [Nat.succ_mul] at this
      omega
     have bz:i*m≤60*60:=by
      have:i*m≤n*m:=Nat.mul_le_mul_right _ hi
      omega
     have hl:=qB i k
     have hset:=qset (n:=n) (eqB r B i k) (B i k) h1 h3 hz
     have hnext:mcells m (updM (eqB r B i k) i k (B i k)) Km=mcells m (eqB r B i (k+1)) Km:=by
      rw [← hKm]
      refine mcells_congr fun a b ha hb=>?_
      unfold updM eqB
      by_cases e:a=i∧b=k
      ·rw [if_pos e,if_pos ⟨.inr ⟨e.1,by omega⟩,by rw [e.1];exact hri⟩,e.1,e.2]
      ·rw [if_neg e]
       have e3:(a<i∨a=i∧b<k)=(a<i∨a=i∧b<k+1):=by
        apply propext
        constructor<;>intro h<;>omega
       simp only [e3]
     rw [hKm] at hset
     rw [hnext] at hset
     clear hnext
     generalize B i k=q3 at *
     refine AX.sR (rgAV [1,2,4,5,6,8,10,12,86]) ?_
     refine AX.condT ?_
     refine AX.keepA [1,2,4,5,6,8,10,12] ?_
     refine AX.skip ?_
     refine nmZ ?_
     refine AX.seq ?_
     refine AX.block ?_
     refine AX.rD (rgDEV [1,2,4,5,6,8,10,12] (aI @m1 (aI @a1 (aI @hl oT))) oT (aI ix oT)) ?_
     refine nmZ ?_
     rw [hset]
     refine AX.rR (rgWV [1,2,4,5,6,8,10,12] (aI @lit_add oT) oT) ?_
     refine nmZ ?_
     refine ⟨_,_,id,?_,
      leQ8
      , ⟨k+1,by omega,rfl,rfl⟩⟩
     omega
    ·obtain rfl:m=k:=by omega
     refine AX.sR (rgAV [1,2,4,5,6,8,10,12,86]) ?_
     refine AX.condF ?_
     refine AX.exit ?_
     refine nmZ ?_
     rw [n2]
     refine AX.rR (rgWV [1,2,4,5,6,8,10] (aI @lit_add oT) oT) ?_
     refine nmZ ?_
     refine ⟨_,_,id,?_,
      leQ8
      , ⟨i+1,by omega,rfl,rfl⟩⟩
     omega
 ·obtain rfl:n=i:=by omega
  have lA:=qA n 0
  have lB:=qB n 0
  refine AX.sR (rgAV [1,2,4,5,6,8,10,37]) ?_
  refine AX.condF ?_
  refine AX.exit ?_
  refine nmZ ?_
  clear hbl hbg
  generalize mcells n (eqA r A n 0) Kn=xs at *
  generalize mcells m (eqB r B n 0) Km=ys at *
  have f1:=flat_q xs
  have f2:=hf_q xs
  have f3:=flat_q ys
  have f4:=hf_q ys
  apply AX.sreg [2,3] (by simp only [pq];rfl)
  ·repeat (first
  |(apply RunO.op rfl;· rfl
    ·(simp only [opsOf,valsOf,valOf,lkp,ofConst,ofCell,Array.toList,Option.toList,List.map_cons,List.map_nil,List.cons_append,List.nil_append,List.append_nil,Nat.reduceEqDiff,Nat.reducePow,Nat.reduceLT,Nat.reduceLeDiff,reduceIte,if_true,if_false,IntKind.min,IntKind.max,IntKind.bits,IntKind.signed,Int.reduceLE,Int.reduceNeg,Int.reducePow,Int.reduceSub,and_self,Bool.false_eq_true,Nat.reduceSub];rfl)
    iterate 2 (· (simp (disch:=omega) only [go_sem,i64_of,u32_of,u64_of,Nat.reduceLT,Nat.reduceLeDiff,Nat.reduceEqDiff,Nat.reduceAdd,Nat.reduceSub,Nat.reduceMul,Nat.reducePow,Nat.reduceBEq,Int.reduceLE,Int.reduceLT,Int.reduceToNat,Int.reduceEq,Int.reduceNeg,↓reduceIte,reduceCtorEq,lA,tkA,ckA,f1,f2,lB,tkB,ckB,f3,f4,nleQ,List.not_mem_nil];rfl))
    ·(simp only [pb,Nat.reduceLT,Nat.reduceAdd,reduceIte];rfl))
  |(apply RunO.call rfl;· rfl
    ·(simp only [opsOf,valsOf,valOf,lkp,ofConst,ofCell,Array.toList,Option.toList,List.map_cons,List.map_nil,List.cons_append,List.nil_append,List.append_nil,Nat.reduceEqDiff,Nat.reducePow,Nat.reduceLT,Nat.reduceLeDiff,reduceIte,if_true,if_false,IntKind.min,IntKind.max,IntKind.bits,IntKind.signed,Int.reduceLE,Int.reduceNeg,Int.reducePow,Int.reduceSub,and_self,Bool.false_eq_true,Nat.reduceSub];rfl)
    ·(simp (disch:=omega) only [go_sem,i64_of,u32_of,u64_of,Nat.reduceLT,Nat.reduceLeDiff,Nat.reduceEqDiff,Nat.reduceAdd,Nat.reduceSub,Nat.reduceMul,Nat.reducePow,Nat.reduceBEq,Int.reduceLE,Int.reduceLT,Int.reduceToNat,Int.reduceEq,Int.reduceNeg,↓reduceIte,reduceCtorEq,lA,tkA,ckA,f1,f2,lB,tkB,ckB,f3,f4,nleQ,List.not_mem_nil];rfl)
    ·rfl
    ·(first | exact csv)
    ·(simp (disch:=omega) only [go_sem,i64_of,u32_of,u64_of,Nat.reduceLT,Nat.reduceLeDiff,Nat.reduceEqDiff,Nat.reduceAdd,Nat.reduceSub,Nat.reduceMul,Nat.reducePow,Nat.reduceBEq,Int.reduceLE,Int.reduceLT,Int.reduceToNat,Int.reduceEq,Int.reduceNeg,↓reduceIte,reduceCtorEq,lA,tkA,ckA,f1,f2,lB,tkB,ckB,f3,f4,nleQ,List.not_mem_nil];rfl)
    ·(simp only [pb,Nat.reduceLT,Nat.reduceAdd,reduceIte];rfl))
  |(apply RunO.skip;· rfl
    ·(simp only [pb,Nat.reduceLT,Nat.reduceAdd,reduceIte];rfl)))
   exact RunO.nil
  ·repeat (first | exact Keep.nil | (apply Keep.take;· rfl) | (apply Keep.drop;· rfl))
  refine AX.ret ⟨.inl rfl,?_⟩
  exact dnQ8
end Go.Proofs.YteidabibgjokkaaGreatDoor
