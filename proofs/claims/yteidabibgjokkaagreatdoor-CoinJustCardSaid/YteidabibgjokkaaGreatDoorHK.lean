import Derived.Test.YteidabibgjokkaaGreatDoorGN
import Derived.Test.YteidabibgjokkaaGreatDoorGV
import Derived.Test.YteidabibgjokkaaGreatDoorGW
import Derived.Test.YteidabibgjokkaaGreatDoorGS
import Derived.Test.YteidabibgjokkaaGreatDoorGP
import Derived.Test.YteidabibgjokkaaGreatDoorGB
import Derived.Test.YteidabibgjokkaaGreatDoorHA
set_option maxRecDepth 20000
set_option linter.all false
namespace Go.Proofs.YteidabibgjokkaaGreatDoor
open Go Go.Proofs.YteidabibgjokkaaGreatDoor.Lift
attribute [local irreducible] Lift.PCall Lift.HCall
theorem bits_n (m:Nat)(hm:(digits m).length<2 ^ 40):PCall Tryz.prog 182 [nv m] (.i .i64 (blen m)) []:=by
 have:=bits_ok (digits m) (Dg_digits _) hm
 rwa [val_digits] at this
theorem tk0 (l:List V):List.take 0 l=[]:=rfl
theorem tkS (n:Nat)(a:V)(l:List V):List.take (n+1) (a :: l)=a :: List.take n l:=rfl
attribute [go_sem] List.set_cons_zero List.set_cons_succ
def qrow (xs:List Rat):List V:=xs.flatMap fun q=>(rV q).cells
theorem qrow_nil:qrow []=[]:=rfl
theorem qrow_cons (q:Rat)(xs:List Rat):qrow (q :: xs)=(rV q).cells++qrow xs:=rfl
theorem qrow_app (xs ys:List Rat):qrow (xs++ys)=qrow xs++qrow ys:=by simp [qrow]
theorem qrow_length (xs:List Rat):(qrow xs).length=xs.length*3:=by
 induction xs with
 | nil=>rfl
 | cons q xs ih=>
  rw [qrow_cons,List.length_append,ih,List.length_cons]
  show 3+xs.length*3=_
  omega
theorem qrow_drop (xs:List Rat):∀ j,(qrow xs).drop (j*3)=qrow (xs.drop j):=by
 induction xs with
 | nil=>intro j;simp [qrow]
 | cons q xs ih=>
  intro j
  cases j with
  | zero=>rfl
  | succ j=>
   rw [qrow_cons,List.drop_succ_cons,← ih j,show (j+1)*3=j*3+3 by omega]
   rfl
theorem qrow_get {xs:List Rat} {j:Nat} (h:j<xs.length):((qrow xs).drop (j*3)).take 3=(rV (xs.getD j 0)).cells:=by
 rw [qrow_drop]
 have e:xs.drop j=xs.getD j 0 :: xs.drop (j+1):=by
  have e0:xs.getD j 0=xs[j]:=by rw [List.getD_eq_getElem?_getD,List.getElem?_eq_getElem h];rfl
  rw [e0,List.getElem_cons_drop]
 rw [e,qrow_cons]
 rfl
theorem chunks_q (xs:List Rat):chunks 3 xs.length (qrow xs)=xs.map rV:=by
 unfold chunks
 rw [if_neg (by omega)]
 apply List.ext_getElem?
 intro j
 by_cases h:j<xs.length
 ·have e0:xs.getD j 0=xs[j]:=by rw [List.getD_eq_getElem?_getD,List.getElem?_eq_getElem h];rfl
  simp only [List.getElem?_map,List.getElem?_range h,List.getElem?_eq_getElem h,Option.map_some]
  rw [qrow_get h,e0]
  rfl
 ·rw [List.getElem?_eq_none (by simp;omega),List.getElem?_eq_none (by simp;omega)]
theorem flat_q (xs:List Rat):(qrow xs).all V.flat=true:=by
 rw [List.all_eq_true]
 intro v hv
 obtain ⟨q,_,hq⟩:=List.mem_flatMap.1 hv
 have hq:v ∈ [V.b (decide (q.num<0)),dg (digits q.num.natAbs),dg (digits q.den)]:=hq
 simp only [List.mem_cons,List.not_mem_nil,or_false] at hq
 rcases hq with rfl | rfl | rfl<;>rfl
theorem hfL_app (l l':List V):V.hfL (l++l')=(V.hfL l && V.hfL l'):=by
 induction l with
 | nil=>simp [V.hfL]
 | cons v l ih=>simp only [List.cons_append,V.hfL,ih,Bool.and_assoc]
theorem renL_app (f:Nat→Nat)(l l':List V):V.renL f (l++l')=V.renL f l++V.renL f l':=by
 induction l with
 | nil=>simp [V.renL]
 | cons v l ih=>simp only [List.cons_append,V.renL,ih]
theorem ltL_app (n:Nat)(l l':List V):V.ltL n (l++l')=(V.ltL n l && V.ltL n l'):=by
 induction l with
 | nil=>simp [V.ltL]
 | cons v l ih=>simp only [List.cons_append,V.ltL,ih,Bool.and_assoc]
theorem hf_q (xs:List Rat):V.hfL (qrow xs)=true:=by
 induction xs with
 | nil=>rfl
 | cons q xs ih=>
  rw [qrow_cons,hfL_app,ih]
  rfl
theorem ren_q (f:Nat→Nat)(xs:List Rat):V.renL f (qrow xs)=qrow xs:=by
 induction xs with
 | nil=>simp only [qrow_nil,V.renL]
 | cons q xs ih=>
  rw [qrow_cons,renL_app,ih]
  have e:V.renL f (rV q).cells=(rV q).cells:=by
   show V.renL f [V.b (decide (q.num<0)),dg (digits q.num.natAbs),dg (digits q.den)]=[V.b (decide (q.num<0)),dg (digits q.num.natAbs),dg (digits q.den)]
   simp only [V.renL,V.ren]
  rw [e]
theorem lt_q (n:Nat)(xs:List Rat):V.ltL n (qrow xs)=true:=by
 induction xs with
 | nil=>simp only [qrow_nil,V.ltL]
 | cons q xs ih=>
  rw [qrow_cons,ltL_app,ih]
  show (V.ltL n [V.b (decide (q.num<0)),dg (digits q.num.natAbs),dg (digits q.den)] && true)=true
  simp only [V.ltL,V.lt]
  rfl
theorem leQ1 {g:Nat} {f:Nat→Nat} {st' st:St} (h1:LeFr f st.fr st'.nx st'.fr:=by simp only [ren_q,renL_u,lt_q,ltL_u,LeFr,LeHp,lkp,V.ren,V.renL,Row.ren,V.lt,V.ltL,renL_u,ltL_u,List.length_append,List.length_cons,List.length_nil,List.length_set,id_eq,Option.some.injEq,V.i.injEq,V.b.injEq,V.own.injEq,Row.mk.injEq,decide_true,decide_eq_true_eq,true_and,and_true,Bool.and_true,Bool.true_and,if_true,if_false,and_self,Nat.reduceLT,Nat.reduceLeDiff,Nat.reduceEqDiff,Nat.reduceAdd,Nat.reduceSub,Nat.reduceMul,Nat.reducePow,Nat.reduceBEq,Int.reduceLE,Int.reduceLT,Int.reduceToNat,Int.reduceEq,Int.reduceNeg,↓reduceIte,reduceCtorEq] <;> (first | done | trivial | (and_intros<;>first | trivial | omega | assumption)))
  (h2:LeHp f st.hp st'.nx st'.hp:=by simp only [ren_q,renL_u,lt_q,ltL_u,LeFr,LeHp,lkp,V.ren,V.renL,Row.ren,V.lt,V.ltL,renL_u,ltL_u,List.length_append,List.length_cons,List.length_nil,List.length_set,id_eq,Option.some.injEq,V.i.injEq,V.b.injEq,V.own.injEq,Row.mk.injEq,decide_true,decide_eq_true_eq,true_and,and_true,Bool.and_true,Bool.true_and,if_true,if_false,and_self,Nat.reduceLT,Nat.reduceLeDiff,Nat.reduceEqDiff,Nat.reduceAdd,Nat.reduceSub,Nat.reduceMul,Nat.reducePow,Nat.reduceBEq,Int.reduceLE,Int.reduceLT,Int.reduceToNat,Int.reduceEq,Int.reduceNeg,↓reduceIte,reduceCtorEq] <;> (first | done | trivial | (and_intros<;>first | trivial | omega | assumption)))
  (h3:Apart f st'.hp:=by simp [Apart]) (h4:g≤st'.nx:=by first | exact Nat.zero_le _ | simp) (h5:∀ n,n<g→f n=n:=by intro n hn;first | rfl | exact absurd hn (Nat.not_lt_zero _) | (have h0:n=0:=Nat.lt_one_iff.1 hn;subst h0;rfl)):Le g f st' st:=⟨h1,h2,h3,h4,h5⟩
theorem leQ1H {g:Nat} {f:Nat→Nat} {st' st:St} {H:Prop} (hh:H) (h1:H→LeFr f st.fr st'.nx st'.fr:=by intro hh;simp only [ren_q,renL_u,lt_q,ltL_u,LeFr,LeHp,lkp,V.ren,V.renL,Row.ren,V.lt,V.ltL,renL_u,ltL_u,List.length_append,List.length_cons,List.length_nil,List.length_set,id_eq,Option.some.injEq,V.i.injEq,V.b.injEq,V.own.injEq,Row.mk.injEq,decide_true,decide_eq_true_eq,true_and,and_true,Bool.and_true,Bool.true_and,if_true,if_false,and_self,Nat.reduceLT,Nat.reduceLeDiff,Nat.reduceEqDiff,Nat.reduceAdd,Nat.reduceSub,Nat.reduceMul,Nat.reducePow,Nat.reduceBEq,Int.reduceLE,Int.reduceLT,Int.reduceToNat,Int.reduceEq,Int.reduceNeg,↓reduceIte,reduceCtorEq] <;> (first | done | trivial | (and_intros<;>first | trivial | omega | rw [hh] | (simp only [hh];done) | assumption)))
  (h2:H→LeHp f st.hp st'.nx st'.hp:=by intro hh;simp only [ren_q,renL_u,lt_q,ltL_u,LeFr,LeHp,lkp,V.ren,V.renL,Row.ren,V.lt,V.ltL,renL_u,ltL_u,List.length_append,List.length_cons,List.length_nil,List.length_set,id_eq,Option.some.injEq,V.i.injEq,V.b.injEq,V.own.injEq,Row.mk.injEq,decide_true,decide_eq_true_eq,true_and,and_true,Bool.and_true,Bool.true_and,if_true,if_false,and_self,Nat.reduceLT,Nat.reduceLeDiff,Nat.reduceEqDiff,Nat.reduceAdd,Nat.reduceSub,Nat.reduceMul,Nat.reducePow,Nat.reduceBEq,Int.reduceLE,Int.reduceLT,Int.reduceToNat,Int.reduceEq,Int.reduceNeg,↓reduceIte,reduceCtorEq] <;> (first | done | trivial | (and_intros<;>first | trivial | omega | rw [hh] | (simp only [hh];done) | assumption)))
  (h3:Apart f st'.hp:=by simp [Apart]) (h4:g≤st'.nx:=by first | exact Nat.zero_le _ | simp) (h5:∀ n,n<g→f n=n:=by intro n hn;first | rfl | exact absurd hn (Nat.not_lt_zero _) | (have h0:n=0:=Nat.lt_one_iff.1 hn;subst h0;rfl)):Le g f st' st:=⟨h1 hh,h2 hh,h3,h4,h5⟩
theorem dnQ1 {P:Program} {rs:Array ResultVar} {vs:List V} {r v:V} {st:St} {hp:List (Nat × Row)} (h1:resVs P st rs.toList=some vs:=by simp (disch:=omega) only [resVs,resV,go_sem,i64_of,u32_of,u64_of,Nat.reduceLT,Nat.reduceLeDiff,Nat.reduceEqDiff,Nat.reduceAdd,Nat.reduceSub,Nat.reduceMul,Nat.reducePow,Nat.reduceBEq,Int.reduceLE,Int.reduceLT,Int.reduceToNat,Int.reduceEq,Int.reduceNeg,↓reduceIte,reduceCtorEq];rfl)(h2:frz [] (packV vs) st.hp=some (v,hp):=by simp only [packV,frz,frzL];rfl) (h:v=r:=by rfl)
  (h3:r.lt 0=true:=by simp only [V.lt,V.ltL,ltL_u,lt_q,ltL_u];first | done | rfl) (h4:r.ren id=r:=by simp only [V.ren,V.renL,renL_u,ren_q,renL_u];first | done | rfl):Done P rs r [] st:=Lift.Done.of h1 h2 h h3 h4
theorem okFrz_q (xs:List Rat):okFrz 0 xs.length 3 (qrow xs)=true:=by
 unfold okFrz
 have e:(List.drop 0 (qrow xs)).take (xs.length*3)=qrow xs:=by rw [List.drop_zero,← qrow_length,List.take_length]
 rw [e,flat_q,hf_q,qrow_length]
 simp
theorem take_q (xs:List Rat):(List.drop 0 (qrow xs)).take (xs.length*3)=qrow xs:=by rw [List.drop_zero,← qrow_length,List.take_length]
theorem set_q {xs:List Rat} (q:Rat):∀ {j:Nat},j<xs.length→setR (qrow xs) (j*3) (rV q).cells=qrow (xs.set j q):=by
 have app:∀ (vs l l':List V) (off:Nat),setR (l++l') (l.length+off) vs=l++setR l' off vs:=by
  intro vs
  induction vs with
  | nil=>intro l l' off;rfl
  | cons v vs ih=>
   intro l l' off
   show setR ((l++l').set (l.length+off) v) (l.length+off+1) vs=_
   rw [List.set_append_right _ _ (by omega),Nat.add_sub_cancel_left,Nat.add_assoc,ih]
   rfl
 induction xs with
 | nil=>intro j h;simp at h
 | cons p xs ih=>
  intro j h
  cases j with
  | zero=>
   rw [List.set_cons_zero,qrow_cons,qrow_cons]
   rfl
  | succ j=>
   rw [List.set_cons_succ,qrow_cons,qrow_cons,← ih (by simpa using h),← app,show (rV p).cells.length+j*3=(j+1)*3 by show 3+j*3=_;omega]
def mcells (c:Nat) (f:Nat→Nat→Rat) (m:Nat):List Rat:=(List.range m).map fun j=>f (j / c) (j % c)
theorem mcells_length (c:Nat)(f:Nat→Nat→Rat)(m:Nat):(mcells c f m).length=m:=by simp [mcells]
theorem mcells_succ {c i k:Nat} (f:Nat→Nat→Rat)(hk:k<c):mcells c f (i*c+(k+1))=mcells c f (i*c+k)++[f i k]:=by
 unfold mcells
 rw [← Nat.add_assoc,List.range_succ,List.map_append]
 have h1:(i*c+k) / c=i:=by
  rw [Nat.add_comm,Nat.add_mul_div_right _ _ (by omega),Nat.div_eq_of_lt hk,Nat.zero_add]
 have h2:(i*c+k) % c=k:=by
  rw [Nat.add_comm,Nat.add_mul_mod_self_right,Nat.mod_eq_of_lt hk]
 simp only [List.map_cons,List.map_nil,h1,h2]
theorem mcells_get {c r i k:Nat} (f:Nat→Nat→Rat)(hi:i<r)(hk:k<c):i*c+k<r*c∧(mcells c f (r*c)).getD (i*c+k) 0=f i k:=by
 have hlt:i*c+k<r*c:=by
  have:(i+1)*c≤r*c:=Nat.mul_le_mul_right _ hi
  rw [Nat.succ_mul] at this
  omega
 refine ⟨hlt,?_⟩
 have h1:(i*c+k) / c=i:=by
  rw [Nat.add_comm,Nat.add_mul_div_right _ _ (by omega),Nat.div_eq_of_lt hk,Nat.zero_add]
 have h2:(i*c+k) % c=k:=by
  rw [Nat.add_comm,Nat.add_mul_mod_self_right,Nat.mod_eq_of_lt hk]
 simp only [mcells,List.getD_eq_getElem?_getD,List.getElem?_map,List.getElem?_range hlt,Option.map_some,Option.getD_some,h1,h2]
theorem mcells_congr {c r:Nat} {f g:Nat→Nat→Rat} (h:∀ i k,i<r→k<c→f i k=g i k):mcells c f (r*c)=mcells c g (r*c):=by
 unfold mcells
 apply List.map_congr_left
 intro j hj
 have hj:j<r*c:=by simpa using hj
 have hc:0<c:=Nat.pos_of_ne_zero fun e=>by subst e;simp at hj
 exact h _ _ ((Nat.div_lt_iff_lt_mul hc).2 hj) (Nat.mod_lt _ hc)
abbrev mV (R C:Int) (els:List V):V:=.agg [.i .i64 R,.i .i64 C,.sl els]
abbrev qM (r c:Nat) (f:Nat→Nat→Rat):V:=mV r c ((mcells c f (r*c)).map rV)
theorem lay_mat:lay Tryz.prog 41=some ⟨3,true,40,[.i .i64 0,.i .i64 0,.nl]⟩:=by kernel_rfl
theorem lay_mat19:lay Tryz.prog 46=some ⟨3,true,40,[.i .i64 0,.i .i64 0,.nl]⟩:=by kernel_rfl
theorem lay_intt:lay Tryz.prog 3=some ⟨1,false,8,[.i .i64 0]⟩:=by kernel_rfl
theorem lay_qs:lay Tryz.prog 39=some ⟨1,false,24,[.nl]⟩:=by kernel_rfl
attribute [go_sem] Tryz.underlying41 Tryz.underlying46 lay_mat lay_mat19 lay_intt lay_qs
theorem getD_rV {xs:List Rat} {j:Nat} (h:j<xs.length):(xs.map rV).getD j .junk=rV (xs.getD j 0):=by
 simp [List.getD_eq_getElem?_getD,h]
theorem effIxQ {xs:List Rat} {j:Nat} {x y:Operand} (hj:j<xs.length):eff Tryz.prog (.indexAddr 39 x y) [.sl (xs.map rV),.i .i64 (j:Int)]=some (.val (.rp [.b (decide ((xs.getD j 0).num<0)),dg (digits (xs.getD j 0).num.natAbs),dg (digits (xs.getD j 0).den)])):=
 effIxR (by simpa using hj) (getD_rV hj)
theorem take3 (a b c:V):List.take 3 [a,b,c]=[a,b,c]:=rfl
theorem take36 (a b c d e f:V):List.take 3 [a,b,c,d,e,f]=[a,b,c]:=rfl
theorem take66 (a b c d e f:V):List.take 6 [a,b,c,d,e,f]=[a,b,c,d,e,f]:=rfl
theorem drop36 (a b c d e f:V):List.drop 3 [a,b,c,d,e,f]=[d,e,f]:=rfl
attribute [go_sem] take3 take36 take66 drop36
def isR3 (x:RT):Bool:=isR x.1 x.2.1 x.2.2
def isM (R C:Int) (xs:List RT):Bool:=decide (0≤R∧R≤60∧0≤C∧C≤60∧(xs.length:Int)=R*C) && xs.all isR3
def okX (xs:List RT):Prop:=∀ x ∈ xs,Dg x.2.1∧Dg x.2.2∧x.2.1.length<2 ^ 36∧x.2.2.length<2 ^ 36
theorem getD_mem_RT {xs:List RT} {i:Nat} (h:i<xs.length):xs.getD i d0 ∈ xs:=by
 rw [List.getD_eq_getElem?_getD,List.getElem?_eq_getElem h]
 exact List.getElem_mem _
theorem mR3_ok (x:RT)(d1:Dg x.2.1)(d2:Dg x.2.2)(d3:x.2.1.length<2 ^ 36)(d4:x.2.2.length<2 ^ 36):PCall Tryz.prog 110 [rR x.1 x.2.1 x.2.2] (.b (isR3 x)) []:=qright_raw _ _ _ d1 d2 d3 d4
set_option maxHeartbeats 4000000 in
theorem mright_raw (R C:Int) (xs:List RT) (hR:-9223372036854775808≤R∧R≤9223372036854775807) (hC:-9223372036854775808≤C∧C≤9223372036854775807) (hx:okX xs) (hl:xs.length<2 ^ 40) :
  PCall Tryz.prog 105 [mV R C (xs.map fR)] (.b (isM R C xs)) []:=by
 refine PCall.of_ax Tryz.call105 Tryz.func105 rfl (by simp [Tryz.ntmps105]) fun O w=>?_
 simp only [Tryz.ntmps105,Tryz.results105,argFr]
 have hml:(xs.map fR).length=xs.length:=List.length_map ..
 have no:¬ (0≤R∧R≤60∧0≤C∧C≤60∧(xs.length:Int)=R*C)→isM R C xs=false:=by
  intro h
  unfold isM
  rw [decide_eq_false h]
  rfl
 refine AX.sR (rgAV [1]) ?_
 refine AX.seq ?_
 by_cases h1:R<0
 ·rw [no (by omega)]
  refine AX.sR (rgAV [1,33]) ?_
  refine AX.condT ?_
  refine AX.sR (rgAV [2]) ?_
  refine AX.ret ⟨.inl rfl,?_⟩
  exact Done.one rfl rfl rfl rfl
 by_cases h2:60<R
 ·rw [no (by omega)]
  refine AX.sR (rgAV [1,33]) ?_
  refine AX.condT ?_
  refine AX.sR (rgAV [2]) ?_
  refine AX.ret ⟨.inl rfl,?_⟩
  exact Done.one rfl rfl rfl rfl
 by_cases h3:C<0
 ·rw [no (by omega)]
  refine AX.sR (rgAV [1,33]) ?_
  refine AX.condT ?_
  refine AX.sR (rgAV [2]) ?_
  refine AX.ret ⟨.inl rfl,?_⟩
  exact Done.one rfl rfl rfl rfl
 by_cases h4:60<C
 ·rw [no (by omega)]
  refine AX.sR (rgAV [1,33]) ?_
  refine AX.condT ?_
  refine AX.sR (rgAV [2]) ?_
  refine AX.ret ⟨.inl rfl,?_⟩
  exact Done.one rfl rfl rfl rfl
 obtain ⟨r,rfl⟩:∃ r:Nat,R=r:=⟨R.toNat,by omega⟩
 obtain ⟨c,rfl⟩:∃ c:Nat,C=c:=⟨C.toNat,by omega⟩
 have hrc:r*c≤60*60:=Nat.mul_le_mul (by omega) (by omega)
 have hrc':(r:Int)*(c:Int)=((r*c:Nat):Int):=(Int.natCast_mul r c).symm
 by_cases h5:xs.length=r*c
 ·have e:isM r c xs=xs.all isR3:=by
   unfold isM
   rw [decide_eq_true ⟨by omega,by omega,by omega,by omega,by rw [hrc'];omega⟩]
   rfl
  rw [e]
  clear no e
  generalize r*c=z at *
  refine AX.sR (rgWV [1,33] (aI @hml (aI @hrc' oT)) oT) ?_
  refine AX.condF ?_
  refine AX.keepA [1] ?_
  refine AX.skip ?_
  refine nmZ ?_
  refine AX.seq ?_
  refine AX.sR (rgWV [35,36,37] (aI @hml oT) oT) ?_
  refine AX.weaken id (st':=⟨[(37,.i .i64 0),(36,.i .i64 xs.length),(35,.sl (xs.map fR))],[],0⟩)
   leA
   ?_
  refine AX.block ?_
  refine AX.loop (fun n st=>∃ i:Nat,i≤xs.length∧n=xs.length-i∧(∀ j,j<i→isR3 (xs.getD j d0)=true)∧st=⟨[(37,.i .i64 i),(36,.i .i64 xs.length),(35,.sl (xs.map fR))],[],0⟩) xs.length ⟨0,Nat.zero_le _,rfl,fun j hj=>absurd hj (Nat.not_lt_zero _),rfl⟩ ?_
  rintro n st ⟨i,hi,rfl,hij,rfl⟩
  by_cases h:i<xs.length
  ·have hm:=getD_mem_RT h
   obtain ⟨d1,d2,d3,d4⟩:=hx _ hm
   have hix:=fun x y=>effIxR (x:=x) (y:=y) (by rw [hml];exact h) (getD_fR h)
   have cr:=mR3_ok (xs.getD i d0) d1 d2 d3 d4
   refine AX.sR (rgAV [35,36,37,38]) ?_
   refine AX.seq ?_
   refine AX.condT ?_
   refine AX.keepA [35,36,37] ?_
   refine AX.skip ?_
   refine nmZ ?_
   refine AX.seq ?_
   refine AX.block ?_
   cases hb:isR3 (xs.getD i d0)
   ·rw [hb] at cr
    generalize xs.getD i d0=y at *
    refine AX.sR (rgEV [4,35,36,37] oT oT (aI hix oT)) ?_
    refine AX.sR (rgCV [35,36,37,43] (aI cr oT)) ?_
    refine AX.condT ?_
    refine AX.sR (rgAV [2]) ?_
    refine AX.ret ⟨.inl rfl,?_⟩
    have:xs.all isR3=false:=by
     rw [List.all_eq_false]
     exact ⟨_,hm,by rw [hb];exact Bool.false_ne_true⟩
    rw [this]
    exact Done.one rfl rfl rfl rfl
   ·rw [hb] at cr
    have hyy:∀ j,j<i+1→isR3 (xs.getD j d0)=true:=by
     intro j hj
     by_cases e:j=i
     ·subst e;exact hb
     ·exact hij j (by omega)
    generalize xs.getD i d0=y at *
    refine AX.sR (rgEV [4,35,36,37] oT oT (aI hix oT)) ?_
    refine AX.sR (rgCV [35,36,37,43] (aI cr oT)) ?_
    refine AX.condF ?_
    refine AX.keepA [35,36,37] ?_
    refine AX.skip ?_
    refine nmZ ?_
    refine AX.rR (rgWV [35,36,37] (aI @lit_add oT) oT) ?_
    refine nmZ ?_
    refine ⟨_,_,id,?_,
     leA
     , ⟨i+1,by omega,rfl,hyy,rfl⟩⟩
    omega
  ·refine AX.sR (rgAV [35,36,37,38]) ?_
   refine AX.seq ?_
   refine AX.condF ?_
   refine AX.exit ?_
   refine nmZ ?_
   refine AX.sR (rgAV [2]) ?_
   refine AX.ret ⟨.inl rfl,?_⟩
   have:xs.all isR3=true:=by
    rw [List.all_eq_true]
    intro x hx
    obtain ⟨j,hj,rfl⟩:=List.getElem_of_mem hx
    have:=hij j (by omega)
    rwa [List.getD_eq_getElem?_getD,List.getElem?_eq_getElem hj] at this
   rw [this]
   exact Done.one rfl rfl rfl rfl
 ·rw [no (by rw [hrc'];omega)]
  generalize r*c=z at *
  refine AX.sR (rgWV [1,33] (aI @hml (aI @hrc' oT)) oT) ?_
  refine AX.condT ?_
  refine AX.sR (rgAV [2]) ?_
  refine AX.ret ⟨.inl rfl,?_⟩
  exact Done.one rfl rfl rfl rfl
mutual
theorem hf_name (f:Nat→Nat)(n:Nat):∀ v:V,V.hf v=true→v.ren f=v∧v.lt n=true
 | .agg cs,h=>by
  obtain ⟨h1,h2⟩:=hf_names f n cs (by simpa only [V.hf] using h)
  exact ⟨by simp only [V.ren,h1],by simp only [V.lt,h2]⟩
 | .tup cs,h=>by
  obtain ⟨h1,h2⟩:=hf_names f n cs (by simpa only [V.hf] using h)
  exact ⟨by simp only [V.ren,h1],by simp only [V.lt,h2]⟩
 | .fn g cs,h=>by
  obtain ⟨h1,h2⟩:=hf_names f n cs (by simpa only [V.hf] using h)
  exact ⟨by simp only [V.ren,h1],by simp only [V.lt,h2]⟩
 | .ptr _ _,h=>by simp [V.hf] at h
 | .own _ _ _ _,h=>by simp [V.hf] at h
 | .mp _,h=>by simp [V.hf] at h
 | .tab _,_=>⟨by simp only [V.ren],by simp only [V.lt]⟩
 | .junk,_=>⟨by simp only [V.ren],by simp only [V.lt]⟩
 | .b _,_=>⟨by simp only [V.ren],by simp only [V.lt]⟩
 | .i _ _,_=>⟨by simp only [V.ren],by simp only [V.lt]⟩
 | .s _,_=>⟨by simp only [V.ren],by simp only [V.lt]⟩
 | .nl,_=>⟨by simp only [V.ren],by simp only [V.lt]⟩
 | .sl _,_=>⟨by simp only [V.ren],by simp only [V.lt]⟩
 | .rp _,_=>⟨by simp only [V.ren],by simp only [V.lt]⟩
theorem hf_names (f:Nat→Nat)(n:Nat):∀ l:List V,V.hfL l=true→V.renL f l=l∧V.ltL n l=true
 | [],_=>⟨by simp only [V.renL],by simp only [V.ltL]⟩
 | v :: l,h=>by
  simp only [V.hfL,Bool.and_eq_true] at h
  obtain ⟨h1,h2⟩:=hf_name f n v h.1
  obtain ⟨h3,h4⟩:=hf_names f n l h.2
  exact ⟨by simp only [V.renL,h1,h3],by simp only [V.ltL,h2,h4,Bool.and_self]⟩
end
theorem msized_ok (r c:Nat)(hr:r≤60)(hc:c≤60):PCall Tryz.prog 80 [.i .i64 r,.i .i64 c] (.i .i64 0) []:=by
 refine PCall.of_ax Tryz.call80 Tryz.func80 rfl (by simp [Tryz.ntmps80]) fun O w=>?_
 simp only [Tryz.ntmps80,Tryz.results80,argFr]
 refine AX.sR (rgAV [0,1]) ?_
 refine AX.seq ?_
 refine AX.block ?_
 refine AX.sR (rgAV [0,1,5]) ?_
 refine AX.condF ?_
 refine AX.sR (rgAV [12]) ?_
 refine AX.condF ?_
 refine AX.keepA [] ?_
 refine AX.skip ?_
 refine nmZ ?_
 refine AX.sR (rgAV [4]) ?_
 refine AX.ret ⟨.inl rfl,?_⟩
 exact Done.one rfl rfl rfl rfl
theorem Lift.Done.cellOO {st:St} {a:Tmp} {h h1 h2 lx ly:Nat} {T T1 T2:TypeId} {s:Bool} {x y:List Nat} (g:lkp st.fr a=some (.ptr h 0)) (g0:lkp st.hp h=some ⟨T,[.b s,.own h1 0 lx 1,.own h2 0 ly 1]⟩) (g1:lkp st.hp h1=some ⟨T1,x.map u⟩) (g2:lkp st.hp h2=some ⟨T2,y.map u⟩) (hne:h2≠h1) (hx:lx=x.length) (hy:ly=y.length) :
  Done Tryz.prog #[.cell a 54] (rR s x y) [] st:=by
 subst hx hy
 have e2:lkp (dlt st.hp h1) h2=some ⟨T2,y.map u⟩:=by rw [lkp_dlt,upd_ne _ _ hne];exact g2
 have t1:∀ l:List Nat,List.take l.length (List.drop 0 (l.map u))=l.map u:=fun l=>by rw [List.drop_zero];exact List.take_of_length_le (by simp)
 refine Done.of (vs:=[.agg [.b s,.own h1 0 x.length 1,.own h2 0 y.length 1]]) (hp:=dlt (dlt st.hp h1) h2) ?_ ?_ rfl ?_ ?_
 ·simp only [resVs,resV,g,g0,lay_ratio];rfl
 ·simp only [packV,frz,frzL,g1,e2,t1,flat_u,hfL_u,List.not_mem_nil,if_false,List.length_map,Nat.zero_add,Nat.mul_one,Nat.le_refl,and_self,if_true,chunks_one,Nat.lt_succ_self,Nat.zero_lt_one,true_and]
 ·simp only [rR,V.lt,V.ltL,ltL_u];rfl
 ·simp only [rR,V.ren,V.renL,renL_u]
set_option maxHeartbeats 2000000 in
theorem copied_ok (s:Bool)(a b:List Nat)(hla:a.length<2 ^ 38)(hlb:b.length<2 ^ 38):PCall Tryz.prog 173 [rR s a b] (rR s a b) []:=by
 refine PCall.of_ax Tryz.call173 Tryz.func173 rfl (by simp [Tryz.ntmps173]) fun O w=>?_
 simp only [Tryz.ntmps173,Tryz.results173,argFr]
 refine AX.sR (rgAV [1,2]) ?_
 refine AX.sD (rgDAV [2]) ?_
 refine AX.ret ⟨.inl rfl,?_⟩
 exact Done.cellOO rfl rfl rfl rfl (by decide) rfl rfl
set_option maxHeartbeats 2000000 in
theorem ccell_ok (r c i k:Nat)(xs:List Rat)(hc:c≤60)(hi:i<2 ^ 20)(hk:k<2 ^ 20)(hj:i*c+k<xs.length):PCall Tryz.prog 106 [mV r c (xs.map rV),.i .i64 i,.i .i64 k] (rV (xs.getD (i*c+k) 0)) []:=by
 refine PCall.of_ax Tryz.call106 Tryz.func106 rfl (by simp [Tryz.ntmps106]) fun O w=>?_
 simp only [Tryz.ntmps106,Tryz.results106,argFr]
 have hic:i*c≤2 ^ 20*60:=Nat.mul_le_mul (by omega) hc
 have hic':(i:Int)*(c:Int)=((i*c:Nat):Int):=(Int.natCast_mul i c).symm
 have hix:=fun x y=>effIxQ (x:=x) (y:=y) hj
 generalize i*c=z at *
 have e:(z:Int)+(k:Int)=((z+k:Nat):Int):=(Int.natCast_add z k).symm
 generalize z+k=j at *
 generalize xs.getD j 0=q at *
 refine AX.sR (rgAV [1,2,3,6]) ?_
 refine AX.sR (rgEV [6] (aI @hic' (aI @e oT)) oT (aI hix oT)) ?_
 refine AX.ret ⟨.inl rfl,?_⟩
 exact Done.cell rfl rfl
theorem Lift.AX.fzM {P:Program} {C:Ctx} {st:St} {Q:Exit→St→Prop} (n h:Nat) (fr':List (Nat × V)) {T T':TypeId} {xs:List Rat} {x y:V} {c:Code} (h0:FzFr n (qrow xs) st.fr fr') (hr:lkp st.hp n=some ⟨T,qrow xs⟩) (hq:lkp st.hp h=some ⟨T',[x,y,.own n 0 xs.length 3]⟩) (hne:h≠n)
  (hc:AX P C c ⟨fr',[(h,⟨T',[x,y,.sl (xs.map rV)]⟩)],st.nx⟩ Q):AX P C c st Q:=by
 refine AX.fz n (hp':=[(h,⟨T',[x,y,.sl (xs.map rV)]⟩)]) hr (hf_q xs) h0 (.cons hne hq rfl rfl ?_ .nil) hc
 intro k hk
 have:k=0∨k=1∨k=2:=by simp at hk;omega
 rcases this with rfl | rfl | rfl
 ·exact .same
 ·exact .same
 ·exact .own (okFrz_q xs) (by rw [take_q,chunks_q])
theorem zerosV_1 (z:List V):zerosV 1 z=z:=by simp [zerosV]
def resF (b:Bool) (r c:Nat) (f:Nat→Nat→Rat):V:=if b=true then .agg [.i .i64 r,.i .i64 c,.own 0 0 (r*c) 3] else qM r c f
def rowsF (b:Bool) (r c:Nat) (f:Nat→Nat→Rat):List Row:=if b=true then [⟨54,qrow (mcells c f (r*c))⟩] else []
theorem Lift.Done.matRow {st:St} {t:Tmp} {h h2:Nat} {T T' T2:TypeId} {z:List V} {K:Nat} {xs:List Rat} {k1 k2:IntKind} {n1 n2:Int} (hL:lay Tryz.prog T'=some ⟨3,true,40,z⟩) (h1:lkp st.fr t=some (.ptr h 0)) (g1:lkp st.hp h=some ⟨T,[.i k1 n1,.i k2 n2,.own h2 0 K 3]⟩) (g2:lkp st.hp h2=some ⟨T2,qrow xs⟩) :
  Done Tryz.prog #[.cell t T'] (.agg [.i k1 n1,.i k2 n2,.own 0 0 K 3]) [⟨T2,qrow xs⟩] st:=by
 refine ⟨[.agg [.i k1 n1,.i k2 n2,.own h2 0 K 3]],?_,[h2],fun _=>h2,.agg [.i k1 n1,.i k2 n2,.own h2 0 K 3],st.hp,?_,?_,?_,?_,?_⟩
 ·simp only [resVs,resV,h1,g1,hL];rfl
 ·simp only [packV,frz,frzL,List.mem_singleton,if_true]
 ·simp only [V.ren,V.renL]
 ·simp only [V.lt,V.ltL];rfl
 ·intro h q hq
  match h,hq with
  | 0,hq=>
   cases hq
   refine ⟨?_,lt_q _ _⟩
   rw [g2]
   simp only [Row.ren,ren_q]
 ·intro a b ha hb _
  simp at ha hb
  omega
set_option maxHeartbeats 4000000 in
theorem filledB (own? : Bool) (r c:Nat) (hr:r≤200) (hc:c≤200) (g:FuncId) (caps:List V) (f:Nat→Nat→Rat) (hh:V.hfL caps=true) (hf:∀ i k,i<r→k<c→PCall Tryz.prog g (.i .i64 i :: .i .i64 k :: cnlL caps) (rV (f i k)) []) :
  PCall Tryz.prog 81 [.i .i64 r,.i .i64 c,.fn g caps] (resF own? r c f) (rowsF own? r c f):=by
 refine PCall.of_ax Tryz.call81 Tryz.func81 rfl (by simp [Tryz.ntmps81]) fun O w=>?_
 simp only [Tryz.ntmps81,Tryz.results81,argFr]
 have hren:∀ f,V.renL f caps=caps:=fun f=>(hf_names f 0 caps hh).1
 have hlt:∀ n,V.ltL n caps=true:=fun n=>(hf_names id n caps hh).2
 refine AX.sR (rgAV [0,1,2,6]) ?_
 refine AX.sR (rgAV [0,1,2,6,7]) ?_
 refine AX.own0c 1 2 54 3 rfl rfl (by show 2<3;decide) ?_
 refine AX.seq ?_
 refine AX.sR (rgAV [1,2,6,7,13,14]) ?_
 refine AX.weaken id (st':=⟨[(14,.i .i64 0),(13,.i .i64 r),(7,.ptr 1 0),(6,.ptr 0 0),(2,.fn g caps),(1,.i .i64 c)],[(0,⟨41,[.i .i64 0,.i .i64 0,.nl]⟩),(1,⟨41,[.i .i64 r,.i .i64 c,.own 2 0 0 3]⟩),(2,⟨54,qrow []⟩)],3⟩)
  (leQ1H (And.intro hren hlt))
  ?_
 refine AX.block ?_
 refine AX.loop (fun n st=>∃ (i m:Nat) (xs:List Rat),i≤r∧n=r-i∧m=i*c+0∧xs=mcells c f m∧st=⟨[(14,.i .i64 i),(13,.i .i64 r),(7,.ptr 1 0),(6,.ptr 0 0),(2,.fn g caps),(1,.i .i64 c)],[(0,⟨41,[.i .i64 0,.i .i64 0,.nl]⟩),(1,⟨41,[.i .i64 r,.i .i64 c,.own 2 0 m 3]⟩),(2,⟨54,qrow xs⟩)],3⟩) r ⟨0,0,[],Nat.zero_le _,rfl,by omega,rfl,rfl⟩ ?_
 rintro n st ⟨i,m,xs,hi,rfl,hm,hxs,rfl⟩
 by_cases h1:i<r
 ·refine AX.sR (rgAV [1,2,6,7,13,14,15]) ?_
  refine AX.seq ?_
  refine AX.condT ?_
  refine AX.keepA [1,2,6,7,13,14] ?_
  refine AX.skip ?_
  refine nmZ ?_
  refine AX.seq ?_
  refine AX.block ?_
  refine AX.sR (rgAV [1,2,6,7,8,13,14]) ?_
  refine AX.sR (rgAV [1,2,6,7,8,13,14,17,18]) ?_
  refine AX.block ?_
  refine AX.loop (fun n st=>∃ (k m:Nat) (xs:List Rat),k≤c∧n=c-k∧m=i*c+k∧xs=mcells c f m∧st=⟨[(18,.i .i64 k),(17,.i .i64 c),(8,.i .i64 i),(14,.i .i64 i),(13,.i .i64 r),(7,.ptr 1 0),(6,.ptr 0 0),(2,.fn g caps),(1,.i .i64 c)],[(0,⟨41,[.i .i64 0,.i .i64 0,.nl]⟩),(1,⟨41,[.i .i64 r,.i .i64 c,.own 2 0 m 3]⟩),(2,⟨54,qrow xs⟩)],3⟩) c ⟨0,m,xs,Nat.zero_le _,rfl,hm,hxs,rfl⟩ ?_
  clear hxs hm xs m
  rintro n st ⟨k,m,xs,hk,rfl,hm,hxs,rfl⟩
  by_cases h2:k<c
  ·have hmb:m≤200*200+200:=by
    have:i*c≤200*200:=Nat.mul_le_mul (by omega) hc
    omega
   have hcall:=hf i k h1 h2
   have hlen:(qrow xs).length=m*3:=by rw [qrow_length,hxs,mcells_length]
   have hrow:qrow xs++[.b (decide ((f i k).num<0)),dg (digits (f i k).num.natAbs),dg (digits (f i k).den)]=qrow (mcells c f (i*c+(k+1))):=by
    rw [mcells_succ f h2,qrow_app,hxs,hm]
    rfl
   have hm1:m+1=i*c+(k+1):=by omega
   clear hf hxs
   generalize f i k=q at hcall hrow ⊢
   obtain ⟨ys,hys⟩:∃ ys,mcells c f (i*c+(k+1))=ys:=⟨_,rfl⟩
   rw [hys] at hrow
   refine AX.sR (rgAV [1,2,6,7,8,13,14,17,18,19]) ?_
   refine AX.seq ?_
   refine AX.condT ?_
   refine AX.keepA [1,2,6,7,8,13,14,17,18] ?_
   refine AX.skip ?_
   refine nmZ ?_
   refine AX.seq ?_
   refine AX.block ?_
   refine AX.sR (rgAV [1,2,6,7,8,9,13,14,17,18]) ?_
   refine AX.rD (rgDWV [1,2,6,7,8,13,14,17,18] (aI @hlen (aI @zerosV_1 (aI @tkS (aI @tk0 oT)))) (aI hcall oT)) ?_
   refine nmZ ?_
   rw [hrow]
   refine AX.rR (rgWV [1,2,6,7,8,13,14,17,18] (aI @lit_add oT) oT) ?_
   refine nmZ ?_
   refine ⟨_,_,fun n=>if n=2 then 4 else n,?_,
    (leQ1H (And.intro hren hlt))
    , ⟨k+1,m+1,ys,by omega,rfl,hm1,by rw [hm1,hys],rfl⟩⟩
   omega
  ·refine AX.sR (rgAV [1,2,6,7,8,13,14,17,18,19]) ?_
   refine AX.seq ?_
   refine AX.condF ?_
   refine AX.exit ?_
   refine nmZ ?_
   refine AX.rR (rgWV [1,2,6,7,13,14] (aI @lit_add oT) oT) ?_
   refine nmZ ?_
   refine ⟨_,_,id,?_,
    (leQ1H (And.intro hren hlt))
    , ⟨i+1,m,xs,by omega,rfl,(by rw [hm,Nat.succ_mul];omega),hxs,rfl⟩⟩
   omega
 ·refine AX.sR (rgAV [1,2,6,7,13,14,15]) ?_
  refine AX.seq ?_
  refine AX.condF ?_
  refine AX.exit ?_
  refine nmZ ?_
  have hml:m=xs.length:=by rw [hxs,mcells_length]
  have e:i=r:=by omega
  subst e
  have hxs':xs=mcells c f (i*c):=by rw [hxs,hm,Nat.add_zero]
  subst hml
  refine AX.sR (rgAV [6]) ?_
  cases own?
  ·refine AX.fzM 2 0 [(6,.ptr 0 0)] (.cons rfl .same .nil) rfl rfl (by decide) ?_
   rw [hxs']
   refine AX.ret ⟨.inl rfl,?_⟩
   show Done _ _ (qM i c f) [] _
   exact dnQ1
  ·refine AX.ret ⟨.inl rfl,?_⟩
   have e2:xs.length=i*c:=by omega
   show Done _ _ (.agg [.i .i64 i,.i .i64 c,.own 0 0 (i*c) 3]) [⟨54,qrow (mcells c f (i*c))⟩] _
   rw [← hxs',← e2]
   exact Done.matRow lay_mat rfl rfl rfl
theorem filled_ok (r c:Nat) (hr:r≤200) (hc:c≤200) (g:FuncId) (caps:List V) (f:Nat→Nat→Rat) (hh:V.hfL caps=true) (hf:∀ i k,i<r→k<c→PCall Tryz.prog g (.i .i64 i :: .i .i64 k :: cnlL caps) (rV (f i k)) []) :
  PCall Tryz.prog 81 [.i .i64 r,.i .i64 c,.fn g caps] (qM r c f) []:=filledB false r c hr hc g caps f hh hf
theorem filled_own (r c:Nat) (hr:r≤200) (hc:c≤200) (g:FuncId) (caps:List V) (f:Nat→Nat→Rat) (hh:V.hfL caps=true) (hf:∀ i k,i<r→k<c→PCall Tryz.prog g (.i .i64 i :: .i .i64 k :: cnlL caps) (rV (f i k)) []) :
  PCall Tryz.prog 81 [.i .i64 r,.i .i64 c,.fn g caps] (.agg [.i .i64 r,.i .i64 c,.own 0 0 (r*c) 3]) [⟨54,qrow (mcells c f (r*c))⟩]:=filledB true r c hr hc g caps f hh hf
def wq (q:Rat):Nat:=blen q.num.natAbs+blen q.den
set_option maxHeartbeats 2000000 in
theorem weight_ok (q:Rat)(h:rL q<2 ^ 36):PCall Tryz.prog 181 [rV q] (.i .i64 (wq q:Nat)) []:=by
 refine PCall.of_ax Tryz.call181 Tryz.func181 rfl (by simp [Tryz.ntmps181]) fun O w=>?_
 simp only [Tryz.ntmps181,Tryz.results181,argFr]
 have h1:(digits q.num.natAbs).length≤rL q:=Nat.le_max_left _ _
 have h2:(digits q.den).length≤rL q:=Nat.le_max_right _ _
 have c1:=bits_n q.num.natAbs (by omega)
 have c2:=bits_n q.den (by omega)
 have b1:=blen_digits_le q.num.natAbs
 have b2:=blen_digits_le q.den
 have hg:rV q=.agg [.b (decide (q.num<0)),nv q.num.natAbs,nv q.den]:=rfl
 unfold wq
 rw [hg]
 generalize q.num.natAbs=N at *
 generalize q.den=D at *
 generalize decide (q.num<0)=s at *
 generalize blen N=x at *
 generalize blen D=y at *
 have e:(x:Int)+(y:Int)=((x+y:Nat):Int):=(Int.natCast_add x y).symm
 refine AX.sR (rgAV [1]) ?_
 refine AX.sD (rgDWV [2] (aI @e oT) (aI c1 (aI c2 oT))) ?_
 refine AX.ret ⟨.inl rfl,?_⟩
 exact Done.one rfl rfl rfl rfl
def updM (A:Mx) (i k:Nat) (q:Rat):Mx:=fun i' k'=>if i'=i∧k'=k then q else A i' k'
theorem mcells_set {c r i k:Nat} (A:Mx)(q:Rat)(hi:i<r)(hk:k<c):(mcells c A (r*c)).set (i*c+k) q=mcells c (updM A i k q) (r*c):=by
 apply List.ext_getElem?
 intro j
 have hc:0<c:=by omega
 rw [List.getElem?_set]
 unfold mcells
 simp only [List.length_map,List.length_range]
 by_cases hj:j<r*c
 ·simp only [List.getElem?_map,List.getElem?_range hj,Option.map_some]
  by_cases e:i*c+k=j
  ·subst e
   have h1:(i*c+k) / c=i:=by
    rw [Nat.add_comm,Nat.add_mul_div_right _ _ (by omega),Nat.div_eq_of_lt hk,Nat.zero_add]
   have h2:(i*c+k) % c=k:=by
    rw [Nat.add_comm,Nat.add_mul_mod_self_right,Nat.mod_eq_of_lt hk]
   rw [if_pos rfl,if_pos hj,h1,h2]
   unfold updM
   rw [if_pos ⟨rfl,rfl⟩]
  ·rw [if_neg e]
   unfold updM
   rw [if_neg]
   rintro ⟨h1,h2⟩
   apply e
   rw [← h1,← h2]
   exact Nat.div_add_mod' j c
 ·have h1:(List.map (fun j=>A (j / c) (j % c)) (List.range (r*c)))[j]? = none:=List.getElem?_eq_none (by simp;omega)
  have h2:(List.map (fun j=>updM A i k q (j / c) (j % c)) (List.range (r*c)))[j]? = none:=List.getElem?_eq_none (by simp;omega)
  rw [h1,h2]
  split
  ·rename_i e
   have:=(mcells_get (r:=r) (c:=c) A hi hk).1
   omega
  ·rfl
theorem Lift.DoneG.row {st:St} {T:TypeId} {xs:List Rat} (h:lkp st.hp 0=some ⟨T,qrow xs⟩):DoneG Tryz.prog #[] (.tup []) [⟨T,qrow xs⟩] st:=by
 refine ⟨[],rfl,rfl,rfl,rfl,fun n hn=>?_⟩
 obtain rfl:n=0:=by simpa using hn
 exact ⟨h,lt_q _ _,ren_q _ _⟩
theorem qget {w n i j:Nat} (B:Mx)(hi:i<n)(hj:j<w) {z:Nat} (hz:i*w+j=z):(List.drop (z*3) (qrow (mcells w B (n*w)))).take 3=[.b (decide ((B i j).num<0)),dg (digits (B i j).num.natAbs),dg (digits (B i j).den)]:=by
 obtain ⟨h1,h2⟩:=mcells_get (r:=n) (c:=w) B hi hj
 subst hz
 rw [qrow_get (by rw [mcells_length];exact h1),h2]
 rfl
theorem qset {w n i j:Nat} (B:Mx) (q:Rat) (hi:i<n) (hj:j<w) {z:Nat} (hz:i*w+j=z) :
  (((qrow (mcells w B (n*w))).set (z*3) (.b (decide (q.num<0)))).set (z*3+1) (dg (digits q.num.natAbs))).set (z*3+1+1) (dg (digits q.den))=qrow (mcells w (updM B i j q) (n*w)):=by
 obtain ⟨h1,_⟩:=mcells_get (r:=n) (c:=w) B hi hj
 subst hz
 have:=set_q (xs:=mcells w B (n*w)) q (j:=i*w+j) (by rw [mcells_length];exact h1)
 rw [mcells_set B q hi hj] at this
 exact this
theorem qlen (w n:Nat)(B:Mx):(qrow (mcells w B (n*w))).length=n*w*3:=by rw [qrow_length,mcells_length]
set_option maxHeartbeats 8000000 in
theorem swap_ok (n w p r:Nat)(hn:n≤200)(hw:w≤200)(A:Mx)(hp:p<n)(hr:r<n):GCall Tryz.prog 180 [.agg [.i .i64 n,.i .i64 w,.own 0 0 (n*w) 3],.i .i64 p,.i .i64 r] [⟨54,qrow (mcells w A (n*w))⟩] [⟨54,qrow (mcells w (swapM A p r) (n*w))⟩] (.tup []):=by
 refine GCall.of_ax rfl Tryz.call180 Tryz.func180 rfl (by simp [Tryz.ntmps180]) fun O M w0 G=>?_
 simp only [Tryz.ntmps180,Tryz.results180,argFr,rowsFr,List.length_cons,List.length_nil,Nat.zero_add,Nat.reduceAdd]
 refine AX.sR (rgAV [1,2,3]) ?_
 refine AX.sR (rgAV [1,2,3,8,9]) ?_
 refine AX.block ?_
 refine AX.loop (fun N st=>∃ (j:Nat) (B:Mx),j≤w∧N=w-j∧(∀ i' j',i' < n→j' < w→B i' j'=if j' < j then swapM A p r i' j' else A i' j')∧st=⟨[(9,.i .i64 j),(8,.i .i64 w),(3,.ptr 1 0),(1,.i .i64 p),(2,.i .i64 r)],[(1,⟨41,[.i .i64 n,.i .i64 w,.own 0 0 (n*w) 3]⟩),(0,⟨54,qrow (mcells w B (n*w))⟩)],2⟩) w ⟨0,A,Nat.zero_le _,rfl,fun _ _ _ _=>by rw [if_neg (Nat.not_lt_zero _)],rfl⟩ ?_
 rintro N st ⟨j,B,hj,rfl,hB,rfl⟩
 by_cases h1:j<w
 ·obtain ⟨z1,e1⟩:∃ z,p*w+j=z:=⟨_,rfl⟩
  obtain ⟨z2,e2⟩:∃ z,r*w+j=z:=⟨_,rfl⟩
  have l1:=(mcells_get (r:=n) (c:=w) B hp h1).1
  have l2:=(mcells_get (r:=n) (c:=w) B hr h1).1
  have g1:=qget B hp h1 e1
  have g2:=qget B hr h1 e2
  have s1:=qset B (B r j) hp h1 e1
  have s2:=qset (updM B p j (B r j)) (B p j) hr h1 e2
  have hl:=qlen w n B
  have hl2:=qlen w n (updM B p j (B r j))
  have kb:n*w≤200*200:=Nat.mul_le_mul hn hw
  have m1:(p:Int)*(w:Int)=((p*w:Nat):Int):=(Int.natCast_mul p w).symm
  have m2:(r:Int)*(w:Int)=((r*w:Nat):Int):=(Int.natCast_mul r w).symm
  have a1:((p*w:Nat):Int)+(j:Int)=(z1:Int):=by rw [← Int.natCast_add,e1]
  have a2:((r*w:Nat):Int)+(j:Int)=(z2:Int):=by rw [← Int.natCast_add,e2]
  have hfin:mcells w (updM (updM B p j (B r j)) r j (B p j)) (n*w)=mcells w (fun i' j'=>if j' < j+1 then swapM A p r i' j' else A i' j') (n*w):=by
   refine mcells_congr fun i' j' hi' hj'=>?_
   have b1:=hB r j hr h1
   have b2:=hB p j hp h1
   rw [if_neg (Nat.lt_irrefl _)] at b1 b2
   have b3:=hB i' j' hi' hj'
   unfold updM
   by_cases ej:j'=j
   ·subst ej
    rw [if_pos (Nat.lt_succ_self _)]
    unfold swapM
    by_cases er:i'=r
    ·subst er
     rw [if_pos ⟨rfl,rfl⟩,b2]
     by_cases ep:i'=p
     ·subst ep;rw [if_pos rfl]
     ·rw [if_neg ep,if_pos rfl]
    ·rw [if_neg (fun h=>er h.1)]
     by_cases ep:i'=p
     ·subst ep
      rw [if_pos ⟨rfl,rfl⟩,if_pos rfl,b1]
     ·rw [if_neg (fun h=>ep h.1),if_neg ep,if_neg er,b3,if_neg (Nat.lt_irrefl _)]
   ·rw [if_neg (fun h=>ej h.2),if_neg (fun h=>ej h.2),b3]
    by_cases hlt:j' < j
    ·rw [if_pos hlt,if_pos (by omega)]
    ·rw [if_neg hlt,if_neg (by omega)]
  rw [hfin] at s2
  have l1':z1<n*w:=by omega
  have l2':z2<n*w:=by omega
  have xb1:p*w≤n*w:=Nat.mul_le_mul_right _ (by omega)
  have xb2:r*w≤n*w:=Nat.mul_le_mul_right _ (by omega)
  clear hB hfin l1 l2
  generalize p*w=x1 at *
  generalize r*w=x2 at *
  obtain ⟨F,hF⟩:∃ F,mcells w (fun i' j'=>if j' < j+1 then swapM A p r i' j' else A i' j') (n*w)=F:=⟨_,rfl⟩
  rw [hF] at s2
  generalize mcells w (updM B p j (B r j)) (n*w)=F1 at *
  generalize mcells w B (n*w)=F0 at *
  generalize B r j=q1 at *
  generalize B p j=q2 at *
  generalize n*w=K at *
  refine AX.sR (rgAV [1,2,3,8,9,10]) ?_
  refine AX.seq ?_
  refine AX.condT ?_
  refine AX.keepA [1,2,3,8,9] ?_
  refine AX.skip ?_
  refine nmZ ?_
  refine AX.seq ?_
  refine AX.block ?_
  refine AX.sR (rgAV [1,2,3,6,8,9]) ?_
  refine AX.rD (rgDWV [1,2,3,8,9] (aI @m1 (aI @m2 (aI @a1 (aI @a2 (aI @hl (aI @hl2 (aI @g1 (aI @g2 (aI @s1 (aI @s2 oT)))))))))) oT) ?_
  refine nmZ ?_
  refine AX.rR (rgWV [1,2,3,8,9] (aI @lit_add oT) oT) ?_
  refine nmZ ?_
  subst hF
  refine ⟨_,_,id,?_,
   leQ1
   , ⟨j+1,fun i' j'=>if j' < j+1 then swapM A p r i' j' else A i' j',by omega,rfl,fun _ _ _ _=>rfl,rfl⟩⟩
  omega
 ·refine AX.sR (rgAV [1,2,3,8,9,10]) ?_
  refine AX.seq ?_
  refine AX.condF ?_
  refine AX.exit ?_
  refine nmZ ?_
  refine ⟨.inr (by simp),?_⟩
  have e:mcells w B (n*w)=mcells w (swapM A p r) (n*w):=mcells_congr fun i' j' hi' hj'=>by
   rw [hB i' j' hi' hj',if_pos (by omega)]
  rw [e]
  exact DoneG.row rfl
theorem clear_step {A B:Mx} {fm to:Nat} {f:Rat} {j:Nat} (hne:fm≠to)(hB:∀ i' j',B i' j'=if i'=to∧j' < j then A to j' - f*A fm j' else A i' j'):∀ i' j',updM B to j (B to j-f*B fm j) i' j'=if i'=to∧j' < j+1 then A to j' - f*A fm j' else A i' j':=by
 intro i' j'
 unfold updM
 have b1:=hB to j
 have b2:=hB fm j
 rw [if_neg (fun h=>Nat.lt_irrefl _ h.2)] at b1
 rw [if_neg (fun h=>hne h.1)] at b2
 by_cases e:i'=to∧j'=j
 ·rw [if_pos e,if_pos ⟨e.1,by omega⟩,b1,b2,e.2]
 ·rw [if_neg e,hB]
  by_cases h:i'=to∧j' < j
  ·rw [if_pos h,if_pos ⟨h.1,by omega⟩]
  ·rw [if_neg h,if_neg (fun h2=>h ⟨h2.1,by have:j'≠j:=fun e2=>e ⟨h2.1,e2⟩;omega⟩)]
set_option maxHeartbeats 16000000 in
theorem clear_ok (n w fm to col L:Nat) (hn:n≤200) (hw:w≤200) (A:Mx) (hf:fm<n) (ht:to<n) (hc:col<w) (hne:fm≠to) (h0:A fm col≠0) (hL:∀ i j,i<n→j<w→rL (A i j)≤L) (hL1:1≤L) (hL2:4*L<2 ^ 33) :
  GCall Tryz.prog 175 [.agg [.i .i64 n,.i .i64 w,.own 0 0 (n*w) 3],.i .i64 fm,.i .i64 to,.i .i64 col] [⟨54,qrow (mcells w A (n*w))⟩] [⟨54,qrow (mcells w (clearM A fm to (A to col / A fm col)) (n*w))⟩] (.tup []):=by
 refine GCall.of_ax rfl Tryz.call175 Tryz.func175 rfl (by simp [Tryz.ntmps175]) fun O M w0 G=>?_
 simp only [Tryz.ntmps175,Tryz.results175,argFr,rowsFr,List.length_cons,List.length_nil,Nat.zero_add,Nat.reduceAdd]
 have kb:n*w≤200*200:=Nat.mul_le_mul hn hw
 have m1:(fm:Int)*(w:Int)=((fm*w:Nat):Int):=(Int.natCast_mul fm w).symm
 have m2:(to:Int)*(w:Int)=((to*w:Nat):Int):=(Int.natCast_mul to w).symm
 have xb1:fm*w≤n*w:=Nat.mul_le_mul_right _ (by omega)
 have xb2:to*w≤n*w:=Nat.mul_le_mul_right _ (by omega)
 obtain ⟨z1,e1⟩:∃ z,fm*w+col=z:=⟨_,rfl⟩
 obtain ⟨z2,e2⟩:∃ z,to*w+col=z:=⟨_,rfl⟩
 have l1:=(mcells_get (r:=n) (c:=w) A hf hc).1
 have l2:=(mcells_get (r:=n) (c:=w) A ht hc).1
 have g1:=qget A hf hc e1
 have g2:=qget A ht hc e2
 have hl:=qlen w n A
 have a1:((fm*w:Nat):Int)+(col:Int)=(z1:Int):=by rw [← Int.natCast_add,e1]
 have a2:((to*w:Nat):Int)+(col:Int)=(z2:Int):=by rw [← Int.natCast_add,e2]
 have hLt:=hL to col ht hc
 have hLf:=hL fm col hf hc
 have cd:=qdiv_ok (IsQ.of hLt) (IsQ.of hLf) (by omega)
 unfold qdivV at cd
 rw [if_neg h0] at cd
 have lf:=rL_div (A to col) (A fm col) hLt hLf (by omega)
 have cd':PCall Tryz.prog 116 [.agg [.b (decide ((A to col).num<0)),dg (digits (A to col).num.natAbs),dg (digits (A to col).den)],.agg [.b (decide ((A fm col).num<0)),dg (digits (A fm col).num.natAbs),dg (digits (A fm col).den)]]
   (.tup [.agg [.b (decide ((A to col / A fm col).num<0)),dg (digits (A to col / A fm col).num.natAbs),dg (digits (A to col / A fm col).den)],.i .i64 0]) []:=cd
 clear cd
 rw [e1] at l1
 rw [e2] at l2
 have zf:(digits (A to col / A fm col).num.natAbs).length=0↔A to col / A fm col=0:=by
  rw [digits_len_zero,Int.natAbs_eq_zero,Rat.num_eq_zero]
 generalize A to col / A fm col=f at *
 clear hLt hLf
 generalize A to col=q2 at g2 cd'
 generalize A fm col=q1 at g1 cd'
 refine AX.sR (rgAV [1,2,3,4]) ?_
 refine AX.sD (rgDWV [1,2,4,8] (aI @m1 (aI @m2 (aI @a1 (aI @a2 (aI @hl (aI @g1 (aI @g2 oT))))))) (aI cd' oT)) ?_
 by_cases hz:f=0
 ·have hz':=zf.2 hz
  have e:mcells w (clearM A fm to f) (n*w)=mcells w A (n*w):=mcells_congr fun i' j' _ _=>by
   unfold clearM
   split
   ·rename_i e;rw [e,hz];grind
   ·rfl
  rw [e]
  refine AX.seq ?_
  refine AX.sR (rgWV [1,2,4,8,39] (aI @hz' oT) oT) ?_
  refine AX.condT ?_
  refine AX.ret ⟨.inl rfl,?_⟩
  exact DoneG.row rfl
 have hz':(digits f.num.natAbs).length≠0:=fun e=>hz (zf.1 e)
 refine AX.seq ?_
 refine AX.sR (rgAV [1,2,4,8,39]) ?_
 refine AX.condF ?_
 refine AX.keepA [1,2,4,8] ?_
 refine AX.skip ?_
 refine nmZ ?_
 refine AX.sR (rgAV [1,2,4,8,41,42]) ?_
 clear hz' g1 g2 cd' l1 l2 e1 e2 a1 a2 hl
 refine AX.weaken id (st':=⟨[(42,.i .i64 0),(41,.i .i64 w),(8,.ptr 2 0),(4,.ptr 1 0),(2,.i .i64 to),(1,.i .i64 fm)],[(2,⟨54,[.b (decide (f.num<0)),dg (digits f.num.natAbs),dg (digits f.den)]⟩),(1,⟨41,[.i .i64 n,.i .i64 w,.own 0 0 (n*w) 3]⟩),(0,⟨54,qrow (mcells w A (n*w))⟩)],3⟩)
  leQ1
  ?_
 refine AX.block ?_
 refine AX.loop (fun N st=>∃ (j:Nat) (B:Mx),j≤w∧N=w-j∧(∀ i' j',B i' j'=if i'=to∧j' < j then A to j' - f*A fm j' else A i' j')∧st=⟨[(42,.i .i64 j),(41,.i .i64 w),(8,.ptr 2 0),(4,.ptr 1 0),(2,.i .i64 to),(1,.i .i64 fm)],[(2,⟨54,[.b (decide (f.num<0)),dg (digits f.num.natAbs),dg (digits f.den)]⟩),(1,⟨41,[.i .i64 n,.i .i64 w,.own 0 0 (n*w) 3]⟩),(0,⟨54,qrow (mcells w B (n*w))⟩)],3⟩) w ⟨0,A,Nat.zero_le _,rfl,fun _ _=>by rw [if_neg (fun h=>Nat.not_lt_zero _ h.2)],rfl⟩ ?_
 rintro N st ⟨j,B,hj,rfl,hB,rfl⟩
 by_cases h1:j<w
 ·have hstep:=clear_step hne hB
  have b1:=hB to j
  have b2:=hB fm j
  rw [if_neg (fun h=>Nat.lt_irrefl _ h.2)] at b1
  rw [if_neg (fun h=>hne h.1)] at b2
  have hLt:=hL to j ht h1
  have hLf:=hL fm j hf h1
  rw [← b1] at hLt
  rw [← b2] at hLf
  obtain ⟨z1,e1⟩:∃ z,fm*w+j=z:=⟨_,rfl⟩
  obtain ⟨z2,e2⟩:∃ z,to*w+j=z:=⟨_,rfl⟩
  have l1:=(mcells_get (r:=n) (c:=w) B hf h1).1
  have l2:=(mcells_get (r:=n) (c:=w) B ht h1).1
  have g1:=qget B hf h1 e1
  have g2:=qget B ht h1 e2
  have hl:=qlen w n B
  have s1:=qset B (B to j-f*B fm j) ht h1 e2
  have a1:((fm*w:Nat):Int)+(j:Int)=(z1:Int):=by rw [← Int.natCast_add,e1]
  have a2:((to*w:Nat):Int)+(j:Int)=(z2:Int):=by rw [← Int.natCast_add,e2]
  rw [e1] at l1
  rw [e2] at l2
  clear b1 b2 hB
  obtain ⟨B',hB'⟩:∃ B',updM B to j (B to j-f*B fm j)=B':=⟨_,rfl⟩
  rw [hB'] at s1 hstep
  by_cases hx:B fm j=0
  ·have hx':(digits (B fm j).num.natAbs).length=0:=by rw [digits_len_zero,Int.natAbs_eq_zero,Rat.num_eq_zero];exact hx
   have e:mcells w B (n*w)=mcells w B' (n*w):=mcells_congr fun i' j' _ _=>by
    rw [← hB']
    unfold updM
    split
    ·rename_i e;rw [e.1,e.2,hx];grind
    ·rfl
   rw [e]
   rw [e] at g1 g2 hl
   clear e s1 hB' hx
   generalize B fm j=q1 at *
   generalize fm*w=x1 at *
   generalize to*w=x2 at *
   refine AX.sR (rgAV [1,2,4,8,41,42,43]) ?_
   refine AX.seq ?_
   refine AX.condT ?_
   refine AX.keepA [1,2,4,8,41,42] ?_
   refine AX.skip ?_
   refine nmZ ?_
   refine AX.seq ?_
   refine AX.block ?_
   refine AX.sR (rgAV [1,2,4,8,10,41,42]) ?_
   refine AX.sR (rgWV [1,2,4,8,10,11,41,42] (aI @m1 (aI @a1 (aI @hl (aI @g1 oT)))) oT) ?_
   refine AX.sR (rgWV [1,2,4,8,10,11,41,42,58] (aI @hx' oT) oT) ?_
   refine AX.condF ?_
   refine AX.keepA [1,2,4,8,41,42] ?_
   refine AX.skip ?_
   refine nmZ ?_
   refine AX.rR (rgWV [1,2,4,8,41,42] (aI @lit_add oT) oT) ?_
   refine nmZ ?_
   refine ⟨_,_,id,?_,
    leQ1
    , ⟨j+1,B',by omega,rfl,hstep,rfl⟩⟩
   omega
  ·have hx':0<(digits (B fm j).num.natAbs).length:=Nat.pos_of_ne_zero fun e=>hx (by rwa [digits_len_zero,Int.natAbs_eq_zero,Rat.num_eq_zero] at e)
   have lm:=rL_mul f (B fm j) lf hLf (by omega)
   have cm:PCall Tryz.prog 111 [.agg [.b (decide (f.num<0)),dg (digits f.num.natAbs),dg (digits f.den)],.agg [.b (decide ((B fm j).num<0)),dg (digits (B fm j).num.natAbs),dg (digits (B fm j).den)]] (.agg [.b (decide ((f*B fm j).num<0)),dg (digits (f*B fm j).num.natAbs),dg (digits (f*B fm j).den)]) []:=qmul_ok (L:=2*L) (IsQ.of (by omega)) (IsQ.of (by omega)) (by omega)
   have cs:PCall Tryz.prog 94 [.agg [.b (decide ((B to j).num<0)),dg (digits (B to j).num.natAbs),dg (digits (B to j).den)],.agg [.b (decide ((f*B fm j).num<0)),dg (digits (f*B fm j).num.natAbs),dg (digits (f*B fm j).den)]] (.agg [.b (decide ((B to j-f*B fm j).num<0)),dg (digits (B to j-f*B fm j).num.natAbs),dg (digits (B to j-f*B fm j).den)]) []:=qsub_ok (L:=4*L) (IsQ.of (by omega)) (IsQ.of (by omega)) (by omega) (by omega)
   clear hB' hx lm hLf hLt
   generalize B to j-f*B fm j=q4 at *
   generalize f*B fm j=q3 at *
   generalize B fm j=q1 at *
   generalize B to j=q2 at *
   generalize fm*w=x1 at *
   generalize to*w=x2 at *
   refine AX.sR (rgAV [1,2,4,8,41,42,43]) ?_
   refine AX.seq ?_
   refine AX.condT ?_
   refine AX.keepA [1,2,4,8,41,42] ?_
   refine AX.skip ?_
   refine nmZ ?_
   refine AX.seq ?_
   refine AX.block ?_
   refine AX.sR (rgAV [1,2,4,8,10,41,42]) ?_
   refine AX.sR (rgWV [1,2,4,8,10,11,41,42] (aI @m1 (aI @a1 (aI @hl (aI @g1 oT)))) oT) ?_
   refine AX.sR (rgAV [1,2,4,8,10,11,41,42,58]) ?_
   refine AX.condT ?_
   refine AX.rD (rgDWV [1,2,4,8,41,42] (aI @m2 (aI @a2 (aI @hl (aI @g2 (aI @s1 oT))))) (aI cm (aI cs oT))) ?_
   refine nmZ ?_
   refine AX.rR (rgWV [1,2,4,8,41,42] (aI @lit_add oT) oT) ?_
   refine nmZ ?_
   refine ⟨_,_,id,?_,
    leQ1
    , ⟨j+1,B',by omega,rfl,hstep,rfl⟩⟩
   omega
 ·refine AX.sR (rgAV [1,2,4,8,41,42,43]) ?_
  refine AX.seq ?_
  refine AX.condF ?_
  refine AX.exit ?_
  refine nmZ ?_
  refine ⟨.inr (by simp),?_⟩
  have e:mcells w B (n*w)=mcells w (clearM A fm to f) (n*w):=mcells_congr fun i' j' hi' hj'=>by
   rw [hB]
   unfold clearM
   by_cases e:i'=to
   ·rw [if_pos ⟨e,by omega⟩,if_pos e]
   ·rw [if_neg (fun h=>e h.1),if_neg e]
  rw [e]
  exact DoneG.row rfl
def pivS (wt:Nat→Nat) (nz:Nat→Bool) (a:Nat):Nat→Int
 | 0=>-1
 | t+1=>if nz (a+t)=true∧(pivS wt nz a t<0∨wt (a+t)<wt (pivS wt nz a t).toNat) then ((a+t:Nat):Int) else pivS wt nz a t
theorem pivS_spec (wt:Nat→Nat)(nz:Nat→Bool)(a:Nat):∀ t,(pivS wt nz a t=-1∧∀ i,a≤i→i<a+t→nz i=false)∨(∃ p:Nat,pivS wt nz a t=p∧a≤p∧p<a+t∧nz p=true):=by
 intro t
 induction t with
 | zero=>exact .inl ⟨rfl,fun i h1 h2=>by omega⟩
 | succ t ih=>
  unfold pivS
  by_cases h:nz (a+t)=true∧(pivS wt nz a t<0∨wt (a+t)<wt (pivS wt nz a t).toNat)
  ·rw [if_pos h]
   exact .inr ⟨a+t,rfl,by omega,by omega,h.1⟩
  ·rw [if_neg h]
   rcases ih with ⟨h1,h2⟩ | ⟨p,h1,h2,h3,h4⟩
   ·refine .inl ⟨h1,fun i g1 g2=>?_⟩
    by_cases e:i=a+t
    ·subst e
     cases hz:nz (a+t)
     ·rfl
     ·exact absurd ⟨hz,.inl (by rw [h1];decide)⟩ h
    ·exact h2 i g1 (by omega)
   ·exact .inr ⟨p,h1,h2,by omega,h4⟩
theorem effIxM {w n i j:Nat} {x y:Operand} (B:Mx) (hi:i<n) (hj:j<w) {z:Nat} (hz:i*w+j=z) :
  eff Tryz.prog (.indexAddr 39 x y) [.sl ((mcells w B (n*w)).map rV),.i .i64 (z:Int)]=some (.val (.rp [.b (decide ((B i j).num<0)),dg (digits (B i j).num.natAbs),dg (digits (B i j).den)])):=by
 obtain ⟨h1,h2⟩:=mcells_get (r:=n) (c:=w) B hi hj
 subst hz
 rw [effIxQ (by rw [mcells_length];exact h1),h2]
def pivI (n:Nat) (A:Mx) (at' col:Nat):Int:=pivS (fun i=>wq (A i col)) (fun i=>decide (A i col≠0)) at' (n-at')
set_option maxHeartbeats 16000000 in
theorem pivot_ok (n w at' col L:Nat) (hn:n≤200) (hw:w≤200) (A:Mx) (ha:at'≤n) (hc:col<w) (hL:∀ i,i<n→rL (A i col)≤L) (hL2:L<2 ^ 36) :
  PCall Tryz.prog 179 [mV n w ((mcells w A (n*w)).map rV),.i .i64 at',.i .i64 col] (.i .i64 (pivI n A at' col)) []:=by
 refine PCall.of_ax Tryz.call179 Tryz.func179 rfl (by simp [Tryz.ntmps179]) fun O w0=>?_
 simp only [Tryz.ntmps179,Tryz.results179,argFr]
 unfold pivI
 have spec:=pivS_spec (fun i=>wq (A i col)) (fun i=>decide (A i col≠0)) at'
 have kb:n*w≤200*200:=Nat.mul_le_mul hn hw
 refine AX.sR (rgAV [1,2,3]) ?_
 refine AX.sR (rgAV [1,2,3,7]) ?_
 refine AX.seq ?_
 refine AX.sR (rgAV [2,3,7,8]) ?_
 refine AX.block ?_
 refine AX.loop (fun N st=>∃ t:Nat,at'+t≤n∧N=n-(at'+t)∧st=⟨[(8,.i .i64 (at'+t:Nat)),(7,.i .i64 (pivS (fun i=>wq (A i col)) (fun i=>decide (A i col≠0)) at' t)),(3,.ptr 0 0),(2,.i .i64 col)],[(0,⟨41,[.i .i64 n,.i .i64 w,.sl ((mcells w A (n*w)).map rV)]⟩)],1⟩) (n-at') ⟨0,by omega,rfl,rfl⟩ ?_
 rintro N st ⟨t,ht,rfl,rfl⟩
 refine AX.seq ?_
 by_cases h1:at'+t<n
 ·have spec:=spec t
  have hs0:pivS (fun i=>wq (A i col)) (fun i=>decide (A i col≠0)) at' (t+1)=if A (at'+t) col≠0∧(pivS (fun i=>wq (A i col)) (fun i=>decide (A i col≠0)) at' t<0∨wq (A (at'+t) col)<wq (A (pivS (fun i=>wq (A i col)) (fun i=>decide (A i col≠0)) at' t).toNat col)) then ((at'+t:Nat):Int) else pivS (fun i=>wq (A i col)) (fun i=>decide (A i col≠0)) at' t:=by
   rw [pivS]
   simp only [decide_eq_true_eq]
  obtain ⟨i,hi⟩:∃ i,at'+t=i:=⟨_,rfl⟩
  obtain ⟨b,hb⟩:∃ b,pivS (fun i=>wq (A i col)) (fun i=>decide (A i col≠0)) at' t=b:=⟨_,rfl⟩
  rw [hi,hb] at hs0
  rw [hi] at h1 spec
  rw [hb] at spec
  rw [hi,hb]
  obtain ⟨z1,e1⟩:∃ z,i*w+col=z:=⟨_,rfl⟩
  have m1:(i:Int)*(w:Int)=((i*w:Nat):Int):=(Int.natCast_mul i w).symm
  have a1:((i*w:Nat):Int)+(col:Int)=(z1:Int):=by rw [← Int.natCast_add,e1]
  have hix:=fun x y=>effIxM (x:=x) (y:=y) A h1 hc e1
  have l1:=(mcells_get (r:=n) (c:=w) A h1 hc).1
  have xb1:i*w≤n*w:=Nat.mul_le_mul_right _ (by omega)
  have cw1:PCall Tryz.prog 181 [.agg [.b (decide ((A i col).num<0)),dg (digits (A i col).num.natAbs),dg (digits (A i col).den)]] (.i .i64 (wq (A i col):Nat)) []:=weight_ok _ (Nat.lt_of_le_of_lt (hL i h1) hL2)
  rw [e1] at l1
  by_cases hz:A i col=0
  ·have hz':(digits (A i col).num.natAbs).length=0:=by rw [digits_len_zero,Int.natAbs_eq_zero,Rat.num_eq_zero];exact hz
   rw [if_neg (fun h=>h.1 hz)] at hs0
   clear cw1
   generalize A i col=q1 at hix hz'
   generalize i*w=x1 at *
   refine AX.sR (rgAV [2,3,7,8,14]) ?_
   refine AX.condT ?_
   refine AX.keepA [2,3,7,8] ?_
   refine AX.skip ?_
   refine nmZ ?_
   refine AX.seq ?_
   refine AX.block ?_
   refine AX.sR (rgEV [2,3,7,8,9] (aI @m1 (aI @a1 oT)) oT (aI hix oT)) ?_
   refine AX.sD (rgDWV [2,3,7,8,50] (aI @hz' oT) oT) ?_
   refine AX.condF ?_
   refine AX.keepA [2,3,7,8] ?_
   refine AX.skip ?_
   refine nmZ ?_
   refine AX.rR (rgWV [2,3,7,8] (aI @lit_add oT) oT) ?_
   refine nmZ ?_
   refine ⟨_,_,id,?_,
    (leQ1H hs0)
    , ⟨t+1,by omega,rfl,rfl⟩⟩
   omega
  have hz':0<(digits (A i col).num.natAbs).length:=Nat.pos_of_ne_zero fun e=>hz (by rwa [digits_len_zero,Int.natAbs_eq_zero,Rat.num_eq_zero] at e)
  rcases spec with ⟨hb1,_⟩ | ⟨p,hb1,hp1,hp2,_⟩
  ·rw [if_pos ⟨hz,.inl (by omega)⟩] at hs0
   subst hb1
   clear cw1
   generalize A i col=q1 at hix hz'
   generalize i*w=x1 at *
   refine AX.sR (rgAV [2,3,7,8,14]) ?_
   refine AX.condT ?_
   refine AX.keepA [2,3,7,8] ?_
   refine AX.skip ?_
   refine nmZ ?_
   refine AX.seq ?_
   refine AX.block ?_
   refine AX.sR (rgEV [2,3,7,8,9] (aI @m1 (aI @a1 oT)) oT (aI hix oT)) ?_
   refine AX.sD (rgDAV [2,3,7,8,50]) ?_
   refine AX.condT ?_
   refine AX.rR (rgAV [2,3,7,8]) ?_
   refine nmZ ?_
   refine AX.rR (rgWV [2,3,7,8] (aI @lit_add oT) oT) ?_
   refine nmZ ?_
   refine ⟨_,_,id,?_,
    (leQ1H hs0)
    , ⟨t+1,by omega,rfl,rfl⟩⟩
   omega
  ·subst hb1
   have hpn:p<n:=by omega
   obtain ⟨z2,e2⟩:∃ z,p*w+col=z:=⟨_,rfl⟩
   have m2:(p:Int)*(w:Int)=((p*w:Nat):Int):=(Int.natCast_mul p w).symm
   have a2:((p*w:Nat):Int)+(col:Int)=(z2:Int):=by rw [← Int.natCast_add,e2]
   have hix2:=fun x y=>effIxM (x:=x) (y:=y) A hpn hc e2
   have l2:=(mcells_get (r:=n) (c:=w) A hpn hc).1
   have xb2:p*w≤n*w:=Nat.mul_le_mul_right _ (by omega)
   rw [e2] at l2
   have cw2:PCall Tryz.prog 181 [.agg [.b (decide ((A p col).num<0)),dg (digits (A p col).num.natAbs),dg (digits (A p col).den)]] (.i .i64 (wq (A p col):Nat)) []:=weight_ok _ (Nat.lt_of_le_of_lt (hL p hpn) hL2)
   rw [Int.toNat_natCast] at hs0
   by_cases hlt:wq (A i col)<wq (A p col)
   ·rw [if_pos ⟨hz,.inr hlt⟩] at hs0
    generalize wq (A i col)=w1 at *
    generalize wq (A p col)=w2 at *
    generalize A i col=q1 at hix hz' cw1
    generalize A p col=q2 at hix2 cw2
    generalize i*w=x1 at *
    generalize p*w=x2 at *
    refine AX.sR (rgAV [2,3,7,8,14]) ?_
    refine AX.condT ?_
    refine AX.keepA [2,3,7,8] ?_
    refine AX.skip ?_
    refine nmZ ?_
    refine AX.seq ?_
    refine AX.block ?_
    refine AX.sR (rgEV [2,3,7,8,9] (aI @m1 (aI @a1 oT)) oT (aI hix oT)) ?_
    refine AX.sD (rgDEV [2,3,7,8,50] (aI @m2 (aI @a2 oT)) (aI cw1 (aI cw2 oT)) (aI hix2 oT)) ?_
    refine AX.condT ?_
    refine AX.rR (rgAV [2,3,7,8]) ?_
    refine nmZ ?_
    refine AX.rR (rgWV [2,3,7,8] (aI @lit_add oT) oT) ?_
    refine nmZ ?_
    refine ⟨_,_,id,?_,
     (leQ1H hs0)
     , ⟨t+1,by omega,rfl,rfl⟩⟩
    omega
   ·rw [if_neg (fun h=>h.2.elim (by omega) hlt)] at hs0
    generalize wq (A i col)=w1 at *
    generalize wq (A p col)=w2 at *
    generalize A i col=q1 at hix hz' cw1
    generalize A p col=q2 at hix2 cw2
    generalize i*w=x1 at *
    generalize p*w=x2 at *
    refine AX.sR (rgAV [2,3,7,8,14]) ?_
    refine AX.condT ?_
    refine AX.keepA [2,3,7,8] ?_
    refine AX.skip ?_
    refine nmZ ?_
    refine AX.seq ?_
    refine AX.block ?_
    refine AX.sR (rgEV [2,3,7,8,9] (aI @m1 (aI @a1 oT)) oT (aI hix oT)) ?_
    refine AX.sD (rgDEV [2,3,7,8,50] (aI @m2 (aI @a2 oT)) (aI cw1 (aI cw2 oT)) (aI hix2 oT)) ?_
    refine AX.condF ?_
    refine AX.keepA [2,3,7,8] ?_
    refine AX.skip ?_
    refine nmZ ?_
    refine AX.rR (rgWV [2,3,7,8] (aI @lit_add oT) oT) ?_
    refine nmZ ?_
    refine ⟨_,_,id,?_,
     (leQ1H hs0)
     , ⟨t+1,by omega,rfl,rfl⟩⟩
    omega
 ·refine AX.sR (rgAV [2,3,7,8,14]) ?_
  refine AX.condF ?_
  refine AX.exit ?_
  refine nmZ ?_
  have e:n-at'=t:=by omega
  rw [e]
  refine AX.sR (rgAV [6]) ?_
  refine AX.ret ⟨.inl rfl,?_⟩
  exact Done.one rfl rfl rfl rfl
end Go.Proofs.YteidabibgjokkaaGreatDoor
