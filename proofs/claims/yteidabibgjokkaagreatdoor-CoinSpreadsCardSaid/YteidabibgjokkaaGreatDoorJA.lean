import Derived.Test.YteidabibgjokkaaGreatDoorLiftR
import Derived.Test.YteidabibgjokkaaGreatDoorHD
import Derived.Test.YteidabibgjokkaaGreatDoorJH
import Derived.Test.YteidabibgjokkaaGreatDoorHI
set_option maxRecDepth 20000
set_option linter.all false
namespace Go.Proofs.YteidabibgjokkaaGreatDoor
open Go Go.Proofs.YteidabibgjokkaaGreatDoor.Lift
attribute [local irreducible] Lift.PCall Lift.HCall
theorem leFm {g:Nat} {f:Nat→Nat} {st:St} {fr':List (Nat × V)} {pre:List (Nat × Row)} {b n nx':Nat} {F:Nat→Row} (h:Le g f ⟨fr',pre,nx'⟩ st)
  (h3:∀ a,a<n→b+a<nx'∧lkp st.hp (f (b+a))=some ((F a).ren f)∧V.ltL nx' (F a).cells=true) (h4:Apart f (pre++fam b n F)):Le g f ⟨fr',pre++fam b n F,nx'⟩ st:=leF h.fr h.hp h3 h4 h.nx h.id
def famQ (w:Nat) (X:Mx):Nat→Row:=fun a=>⟨54,qrow (vl w (X a))⟩
theorem famQ_ren (w:Nat)(X:Mx)(f:Nat→Nat)(a:Nat):(famQ w X a).ren f=famQ w X a:=by
 unfold famQ Row.ren
 rw [ren_q]
theorem famQ_lt (w n:Nat)(X:Mx)(a:Nat):V.ltL n (famQ w X a).cells=true:=lt_q _ _
theorem leFq {g:Nat} {st:St} {fr':List (Nat × V)} {pre:List (Nat × Row)} {b n w nx':Nat} {X:Mx} (h:Le g id ⟨fr',pre,nx'⟩ st) (hb:b+n≤nx')
  (h3:∀ a,a<n→lkp st.hp (b+a)=some (famQ w X a)):Le g id ⟨fr',pre++fam b n (famQ w X),nx'⟩ st:=
 leFm h (fun a ha=>⟨by omega,by rw [famQ_ren];exact h3 a ha,famQ_lt _ _ _ _⟩) (fun p _ q _ h=>h)
theorem leFq2 {g:Nat} {st:St} {fr':List (Nat × V)} {k0 k1:Nat} {q0 q1:Row} {b n w nx':Nat} {X:Mx} (h:Le g id ⟨fr',[(k1,q1),(k0,q0)],nx'⟩ st) (hb:b+n≤nx')
  (h3:∀ a,a<n→lkp st.hp (b+a)=some (famQ w X a)):Le g id ⟨fr',(k1,q1) :: (k0,q0) :: fam b n (famQ w X),nx'⟩ st:=leFq (pre:=[(k1,q1),(k0,q0)]) h hb h3
def ogR (n c i:Nat):List V:=gl n fun a=>if a<i then .own (10+a) 0 c 3 else .nl
theorem ogR_length (n c i:Nat):(ogR n c i).length=n:=gl_length ..
theorem ogR_zero (n c:Nat):List.replicate n V.nl=ogR n c 0:=by
 rw [gl_rep]
 exact gl_congr fun i hi=>(if_neg (Nat.not_lt_zero _)).symm
theorem renL_glf (f:Nat→Nat)(n:Nat)(G:Nat→V):V.renL f (gl n G)=gl n fun a=>(G a).ren f:=by
 unfold gl
 generalize List.range n=l
 induction l with
 | nil=>rfl
 | cons a l ih=>simp only [List.map_cons,V.renL,ih]
theorem ltL_gln {k:Nat}:∀ (n:Nat) {G:Nat→V},(∀ i,i<n→(G i).lt k=true)→V.ltL k (gl n G)=true:=by
 intro n G h
 have h':∀ i,i ∈ List.range n→(G i).lt k=true:=fun i hi=>h i (by simpa using hi)
 unfold gl
 generalize List.range n=l at h'
 induction l with
 | nil=>rfl
 | cons a l ih=>simp only [List.map_cons,V.ltL,ih fun i hi=>h' i (List.mem_cons_of_mem _ hi),h' a (List.mem_cons_self ..),Bool.and_self]
theorem ogR_lt (n c i:Nat)(hi:i≤60):V.ltL 100 (ogR n c i)=true:=ltL_gln n fun a ha=>by
 split
 ·simp only [V.lt,decide_eq_true_eq];omega
 ·simp only [V.lt]
theorem ogR_next {n c i:Nat} (hi:i<n)(f:Nat→Nat)(h1:f (10+i)=101)(h2:∀ x,x≠10+i→f x=x):V.renL f (ogR n c (i+1))=(ogR n c i).set i (.own 101 0 c 3):=by
 unfold ogR
 rw [renL_glf,gl_set _ _ hi]
 refine gl_congr fun a ha=>?_
 show V.ren f (if a<i+1 then .own (10+a) 0 c 3 else .nl)=if a=i then .own 101 0 c 3 else if a<i then .own (10+a) 0 c 3 else .nl
 by_cases e:a=i
 ·subst e
  rw [if_pos rfl,if_pos (by omega)]
  simp only [V.ren,h1]
 ·rw [if_neg e]
  by_cases h:a<i
  ·rw [if_pos h,if_pos (by omega)]
   simp only [V.ren,h2 (10+a) (by omega)]
  ·rw [if_neg h,if_neg (by omega)]
   simp only [V.ren]
attribute [go_sem] Tryz.underlying182
def outR (n w:Nat) (s:Nat→Nat):Row:=⟨39,gl n fun i=>.own (1+s i) 0 w 3⟩
set_option maxHeartbeats 8000000 in
theorem rrows_ok (n c:Nat)(hn:n≤60)(hc:c≤60)(X:Mx):PCall Tryz.prog 156 [qM n c X] (.own 0 0 n 1) (outR n c id :: (List.range n).map (famQ c X)):=by
 refine PCall.of_ax Tryz.call156 Tryz.func156 rfl (by simp [Tryz.ntmps156]) fun O w=>?_
 simp only [Tryz.ntmps156,Tryz.results156,argFr]
 have hsl:=fun (i:Nat) (hi:i<n)=>effSliceSeg (p:=n) (m:=c) (i:=i) (o:=0) (t:=c) X hi (by omega) (Nat.mul_le_mul hn hc)
 have hXl:((mcells c X (n*c)).map rV).length=n*c:=by rw [List.length_map,mcells_length]
 have hnc:n*c≤60*60:=Nat.mul_le_mul hn hc
 unfold qM mV
 generalize (mcells c X (n*c)).map rV=Xc at *
 refine AX.sR (rgAV [1]) ?_
 refine AX.sR (rgAV [1,3]) ?_
 refine AX.seq ?_
 refine AX.sR (rgAV [1,3,9,10]) ?_
 have e0:=ogR_zero n c
 have hl0:=ogR_lt n c 0 (by omega)
 refine AX.weaken id (st':=⟨[(10,.i .i64 (0:Nat)),(9,.i .i64 n),(3,.own 1 0 n 1),(1,.ptr 0 0)],(1,⟨39,ogR n c 0⟩) :: (0,⟨46,[.i .i64 n,.i .i64 c,.sl Xc]⟩) :: fam 10 0 (famQ c X),100⟩)
  (leFq2
   (leQ8H (And.intro e0 hl0))
   (by omega) (fun a ha=>absurd ha (Nat.not_lt_zero a)))
  ?_
 refine AX.block ?_
 refine AX.loop (fun N st=>∃ i:Nat,i≤n∧N=n-i∧st=⟨[(10,.i .i64 i),(9,.i .i64 n),(3,.own 1 0 n 1),(1,.ptr 0 0)],(1,⟨39,ogR n c i⟩) :: (0,⟨46,[.i .i64 n,.i .i64 c,.sl Xc]⟩) :: fam 10 i (famQ c X),100⟩) n ⟨0,Nat.zero_le _,rfl,rfl⟩ ?_
 rintro N st ⟨i,hi,rfl,rfl⟩
 by_cases h1:i<n
 ·have hs:=hsl i h1
  have eA:(vl c fun k=>X i (0+k))=vl c (X i):=vl_congr fun k _=>by rw [Nat.zero_add]
  rw [eA] at hs
  have m1:(i:Int)*(c:Int)=((i*c:Nat):Int):=(Int.natCast_mul i c).symm
  have m2:((i+1:Nat):Int)*(c:Int)=((i*c+c:Nat):Int):=by rw [← Int.natCast_mul,Nat.succ_mul]
  have hs:=fun x lo hi'=>hs x lo hi' (a:=((i*c:Nat):Int)) (b:=((i*c+c:Nat):Int)) rfl rfl
  have bn:i*c≤60*60:=Nat.mul_le_mul (by omega) hc
  have hol:=ogR_length n c i
  have hdl:=dlt_fam (b:=10) (n:=i) (m:=100) (famQ c X) (by omega)
  obtain ⟨z,hz⟩:∃ z,i*c=z:=⟨_,rfl⟩
  rw [hz] at m1 m2 hs bn
  refine AX.sR (rgAV [1,3,9,10,11]) ?_
  refine AX.seq ?_
  refine AX.condT ?_
  refine AX.keepA [1,3,9,10] ?_
  refine AX.skip ?_
  refine nmZ ?_
  refine AX.seq ?_
  refine AX.block ?_
  refine AX.sR (rgAV [1,3,4,9,10]) ?_
  refine AX.rR (rgEV [1,3,9,10] (aI @lit_add (aI @m1 (aI @m2 (aI @hol (aI @hdl (aI @vl_mlen (aI @flatCells_q (aI @vl_len3 (aI @flat_q (aI @vl_one oT)))))))))) oT (aI (hs _) oT)) ?_
  refine nmZ ?_
  refine AX.rR (rgWV [1,3,9,10] (aI @lit_add oT) oT) ?_
  refine nmZ ?_
  obtain ⟨f,hf⟩:∃ f:Nat→Nat,f=fun x=>if x=10+i then 101 else x:=⟨_,rfl⟩
  have hf1:f (10+i)=101:=by rw [hf];exact if_pos rfl
  have hfo:∀ x,x≠10+i→f x=x:=fun x hx=>by rw [hf];exact if_neg hx
  have hf0:=hfo 0 (by omega)
  have hf9:=hfo 1 (by omega)
  have hog:=ogR_next (c:=c) h1 f hf1 hfo
  have hlt:=ogR_lt n c (i+1) (by omega)
  refine ⟨_,_,f,?_,
   leFm (pre:=[(1,⟨39,ogR n c (i+1)⟩),(0,⟨46,[.i .i64 n,.i .i64 c,.sl Xc]⟩)]) ⟨?_,?_,?_,?_,?_⟩ ?_ ?_
   , ⟨i+1,by omega,rfl,rfl⟩⟩
  ·omega
  ·simp [LeFr,lkp,V.ren,V.lt,hf9,hf0]
  ·simp [LeHp,lkp,Row.ren,V.ren,V.renL,hf9,hf0,hog,hlt,V.ltL,V.lt]
  ·simp [Apart,hf0,hf9]
  ·exact Nat.zero_le _
  ·exact fun n hn=>absurd hn (Nat.not_lt_zero _)
  ·intro a ha
   refine ⟨by omega,?_,famQ_lt _ _ _ _⟩
   rw [famQ_ren]
   by_cases e:a=i
   ·subst e
    rw [hf1]
    rfl
   ·rw [hfo _ (by omega)]
    rw [lkp_ne (by omega),lkp_ne (by omega),lkp_ne (by omega)]
    exact lkp_fam _ (by omega)
  ·have hlt9:∀ p ∈ [(1,(⟨39,ogR n c (i+1)⟩:Row)),(0,⟨46,[.i .i64 n,.i .i64 c,.sl Xc]⟩)]++fam 10 (i+1) (famQ c X),p.1<101:=fun p hp=>by
    rcases List.mem_append.1 hp with h | h
    ·simp at h
     rcases h with h | h<;>(rw [h];omega)
    ·have:=fam_mem h
     omega
   intro p hp q hq he
   have a1:=hlt9 p hp
   have a2:=hlt9 q hq
   rw [hf] at he
   simp only at he
   split at he<;>split at he<;>omega
 ·have e:i=n:=by omega
  subst e
  refine AX.sR (rgAV [1,3,9,10,11]) ?_
  refine AX.seq ?_
  refine AX.condF ?_
  refine AX.exit ?_
  refine nmZ ?_
  refine AX.sR (rgAV [2]) ?_
  refine AX.ret ⟨.inl rfl,?_⟩
  refine ⟨[.own 1 0 i 1],rfl,[1],fun x=>if x=0 then 1 else 9+x,.own 1 0 i 1,_,rfl,rfl,by simp [V.lt],fun h q hq=>?_,fun h h' _ _ e=>by dsimp only at e;split at e<;>split at e<;>omega⟩
  cases h with
  | zero=>
   cases hq
   refine ⟨?_,?_⟩
   ·show lkp _ 1=_
    unfold outR Row.ren ogR
    rw [renL_glf]
    show some (⟨39,_⟩:Row)=_
    congr 2
    refine gl_congr fun a ha=>?_
    rw [if_pos ha]
    show V.own (10+a) 0 c 3=.own (if 1+a=0 then 1 else 9+(1+a)) 0 c 3
    rw [if_neg (by omega),show 9+(1+a)=10+a by omega]
   ·refine ltL_gln i fun a ha=>?_
    simp only [V.lt,decide_eq_true_eq,List.length_cons,List.length_map,List.length_range]
    show 1+a < _
    omega
  | succ h=>
   rw [List.getElem?_cons_succ] at hq
   have hh:h<i:=by
    have:=(List.getElem?_eq_some_iff.1 hq).1
    simpa using this
   have eq:q=famQ c X h:=by
    rw [List.getElem?_map,List.getElem?_range hh] at hq
    cases hq
    rfl
   subst eq
   refine ⟨?_,famQ_lt _ _ _ _⟩
   rw [famQ_ren]
   show lkp _ (if h+1=0 then 1 else 9+(h+1))=_
   rw [if_neg (by omega),show 9+(h+1)=10+h by omega,lkp_ne (by omega),lkp_ne (by omega)]
   exact lkp_fam _ hh
def sgR (n c i:Nat) (X:Mx):List V:=gl n fun a=>if a<i then .sl ((vl c (X a)).map rV) else .nl
theorem sgR_length (n c i:Nat)(X:Mx):(sgR n c i X).length=n:=gl_length ..
theorem sgR_zero (n c:Nat)(X:Mx):List.replicate n V.nl=sgR n c 0 X:=by
 rw [gl_rep]
 exact gl_congr fun i hi=>(if_neg (Nat.not_lt_zero _)).symm
theorem sgR_lt (n c i k:Nat)(X:Mx):V.ltL k (sgR n c i X)=true:=ltL_gln n fun a ha=>by split<;>simp only [V.lt]
theorem sgR_fz {n c i:Nat} {X:Mx} (hi:i<n):∀ k,k<(sgR n c (i+1) X).length→FzV 3 (qrow (vl c (X i))) (((sgR n c i X).set i (.own 3 0 c 3)).getD k .junk) ((sgR n c (i+1) X).getD k .junk):=by
 intro k hk
 rw [sgR_length] at hk
 unfold sgR
 rw [gl_set _ _ hi,gl_get _ hk,gl_get _ hk]
 unfold updG
 by_cases h2:k=i
 ·subst h2
  rw [if_pos rfl,if_pos (by omega)]
  refine .own (by have:=okFrz_q (vl c (X k));rw [vl_length] at this;exact this) ?_
  have h1:=take_q (vl c (X k))
  have h2:=chunks_q (vl c (X k))
  rw [vl_length] at h1 h2
  rw [h1,h2]
 ·rw [if_neg h2]
  dsimp only
  by_cases h1:k<i
  ·rw [if_pos h1,if_pos (by omega)]
   exact .same
  ·rw [if_neg h1,if_neg (by omega)]
   exact .same
def slRows (n c:Nat) (X:Mx):List V:=gl n fun a=>.sl ((vl c (X a)).map rV)
theorem sgR_end (n c:Nat)(X:Mx):sgR n c n X=slRows n c X:=gl_congr fun a ha=>if_pos ha
theorem slRows_length (n c:Nat)(X:Mx):(slRows n c X).length=n:=gl_length ..
theorem slRows_hf (n c:Nat)(X:Mx):V.hfL (slRows n c X)=true∧(slRows n c X).all V.flat=true:=hfL_map _ (fun j=>⟨by simp only [V.hf],rfl⟩) _
theorem Lift.Done.slR {P:Program} {st:St} {t:Tmp} {h n c:Nat} {X:Mx} {T:TypeId} (h1:lkp st.fr t=some (.own h 0 n 1))(h2:lkp st.hp h=some ⟨T,slRows n c X⟩):Done P #[.tmp t] (.sl (slRows n c X)) [] st:=by
 have e:List.take n (List.drop 0 (slRows n c X))=slRows n c X:=by rw [List.drop_zero];exact List.take_of_length_le (by rw [slRows_length];exact Nat.le_refl _)
 refine Done.of (vs:=[.own h 0 n 1]) (hp:=dlt st.hp h) ?_ ?_ rfl ?_ ?_
 ·simp only [resVs,resV,h1]
 ·simp only [packV,frz,h2,List.not_mem_nil,if_false,Nat.mul_one,Nat.zero_add,slRows_length,Nat.le_refl,e,(slRows_hf n c X).1,(slRows_hf n c X).2,and_self,if_true,Nat.lt_succ_self,Nat.zero_lt_one,true_and,chunks_one]
 ·simp only [V.lt]
 ·simp only [V.ren]
set_option maxHeartbeats 8000000 in
theorem rrows_sl (n c:Nat)(hn:n≤60)(hc:c≤60)(X:Mx):PCall Tryz.prog 156 [qM n c X] (.sl (slRows n c X)) []:=by
 refine PCall.of_ax Tryz.call156 Tryz.func156 rfl (by simp [Tryz.ntmps156]) fun O w=>?_
 simp only [Tryz.ntmps156,Tryz.results156,argFr]
 have hsl:=fun (i:Nat) (hi:i<n)=>effSliceSeg (p:=n) (m:=c) (i:=i) (o:=0) (t:=c) X hi (by omega) (Nat.mul_le_mul hn hc)
 have hnc:n*c≤60*60:=Nat.mul_le_mul hn hc
 have hlt:=fun i k=>sgR_lt n c i k X
 unfold qM mV
 generalize (mcells c X (n*c)).map rV=Xc at *
 refine AX.sR (rgAV [1]) ?_
 refine AX.sR (rgAV [1,3]) ?_
 refine AX.seq ?_
 refine AX.sR (rgAV [1,3,9,10]) ?_
 have e0:=sgR_zero n c X
 have hl0:=hlt 0 2
 refine AX.weaken id (st':=⟨[(10,.i .i64 (0:Nat)),(9,.i .i64 n),(3,.own 1 0 n 1),(1,.ptr 0 0)],[(1,⟨39,sgR n c 0 X⟩),(0,⟨46,[.i .i64 n,.i .i64 c,.sl Xc]⟩)],2⟩)
  (leQ8H (And.intro e0 hl0))
  ?_
 refine AX.block ?_
 refine AX.loop (fun N st=>∃ i:Nat,i≤n∧N=n-i∧st=⟨[(10,.i .i64 i),(9,.i .i64 n),(3,.own 1 0 n 1),(1,.ptr 0 0)],[(1,⟨39,sgR n c i X⟩),(0,⟨46,[.i .i64 n,.i .i64 c,.sl Xc]⟩)],2⟩) n ⟨0,Nat.zero_le _,rfl,rfl⟩ ?_
 rintro N st ⟨i,hi,rfl,rfl⟩
 by_cases h1:i<n
 ·have hs:=hsl i h1
  have eA:(vl c fun k=>X i (0+k))=vl c (X i):=vl_congr fun k _=>by rw [Nat.zero_add]
  rw [eA] at hs
  have m1:(i:Int)*(c:Int)=((i*c:Nat):Int):=(Int.natCast_mul i c).symm
  have m2:((i+1:Nat):Int)*(c:Int)=((i*c+c:Nat):Int):=by rw [← Int.natCast_mul,Nat.succ_mul]
  have hs:=fun x lo hi'=>hs x lo hi' (a:=((i*c:Nat):Int)) (b:=((i*c+c:Nat):Int)) rfl rfl
  have bn:i*c≤60*60:=Nat.mul_le_mul (by omega) hc
  have hol:=sgR_length n c i X
  have hfz:=sgR_fz (c:=c) (X:=X) h1
  have hl2:=sgR_length n c (i+1) X
  have hll:=hlt (i+1) 2
  obtain ⟨z,hz⟩:∃ z,i*c=z:=⟨_,rfl⟩
  rw [hz] at m1 m2 hs bn
  refine AX.sR (rgAV [1,3,9,10,11]) ?_
  refine AX.seq ?_
  refine AX.condT ?_
  refine AX.keepA [1,3,9,10] ?_
  refine AX.skip ?_
  refine nmZ ?_
  refine AX.seq ?_
  refine AX.block ?_
  refine AX.sR (rgAV [1,3,4,9,10]) ?_
  refine AX.rR (rgEV [1,3,9,10] (aI @lit_add (aI @m1 (aI @m2 (aI @hol (aI @vl_mlen (aI @flatCells_q (aI @vl_len3 (aI @flat_q (aI @vl_one oT))))))))) oT (aI (hs _) oT)) ?_
  refine nmZ ?_
  refine AX.fz 3 (fr':=[(10,.i .i64 i),(9,.i .i64 n),(3,.own 1 0 n 1),(1,.ptr 0 0)]) (hp':=[(1,⟨39,sgR n c (i+1) X⟩),(0,⟨46,[.i .i64 n,.i .i64 c,.sl Xc]⟩)]) rfl (hf_q _) (.cons rfl .same (.cons rfl .same (.cons rfl .same (.cons rfl .same .nil)))) (.cons (by decide) rfl rfl (by rw [hl2,List.length_set,hol]) hfz (.keep (by decide) rfl .nil)) ?_
  refine AX.rR (rgWV [1,3,9,10] (aI @lit_add oT) oT) ?_
  refine nmZ ?_
  refine ⟨_,_,id,?_,
   (leQ8H hll)
   , ⟨i+1,by omega,rfl,rfl⟩⟩
  omega
 ·obtain rfl:n=i:=by omega
  refine AX.sR (rgAV [1,3,9,10,11]) ?_
  refine AX.seq ?_
  refine AX.condF ?_
  refine AX.exit ?_
  refine nmZ ?_
  rw [sgR_end]
  refine AX.sR (rgAV [2]) ?_
  refine AX.ret ⟨.inl rfl,?_⟩
  exact Done.slR rfl rfl
def sw (p k i:Nat):Nat:=if i=p then k else if i=k then p else i
theorem sw_sw (p k i:Nat):sw p k (sw p k i)=i:=by
 unfold sw
 grind
theorem sw_lt {p k i n:Nat} (hp:p<n)(hk:k<n)(hi:i<n):sw p k i<n:=by
 unfold sw
 grind
theorem sw_k (p k:Nat):sw p k k=p:=by
 unfold sw
 grind
theorem sw_id (k i:Nat):sw k k i=i:=by
 unfold sw
 grind
structure GJ where
 R:Mx
 s:Nat→Nat
 t:Nat→Nat
 D:Rat
def pivA (M:Mx) (k:Nat):Nat→Nat→Nat
 | 0,at'=>at'
 | f+1,at'=>if M at' k=0 then pivA M k f (at'+1) else at'
def piv (n k:Nat) (g:GJ):Nat:=pivA (fun i=>g.R (g.s i)) k (n-k) k
def elimG (q k:Nat) (R:Mx):Mx:=fun a j=>if a=q then R q j / R q k else R a j-R a k*(R q j / R q k)
def GJ.step (n k:Nat) (g:GJ):GJ where
 R:=elimG (g.s (piv n k g)) k g.R
 s:=fun i=>g.s (sw (piv n k g) k i)
 t:=fun a=>sw (piv n k g) k (g.t a)
 D:=(if piv n k g=k then g.D else -g.D)*g.R (g.s (piv n k g)) k
def gj (n:Nat) (A:Mx):Nat→GJ
 | 0=>⟨A,id,id,1⟩
 | k+1=>(gj n A k).step n k
theorem pivA_spec (M:Mx)(k:Nat):∀ (f at':Nat),at'≤pivA M k f at'∧pivA M k f at'≤at'+f∧(pivA M k f at' < at'+f→M (pivA M k f at') k≠0)∧∀ i,at'≤i→i<pivA M k f at'→M i k=0:=by
 intro f
 induction f with
 | zero=>exact fun at'=>⟨Nat.le_refl _,Nat.le_refl _,fun h=>absurd h (Nat.lt_irrefl _),fun i h1 h2=>absurd h2 (by show ¬ i<at';omega)⟩
 | succ f ih=>
  intro at'
  by_cases h:M at' k=0
  ·have e:pivA M k (f+1) at'=pivA M k f (at'+1):=if_pos h
   obtain ⟨h1,h2,h3,h4⟩:=ih (at'+1)
   rw [e]
   refine ⟨by omega,by omega,fun h5=>h3 (by omega),fun i h5 h6=>?_⟩
   by_cases e2:i=at'
   ·subst e2;exact h
   ·exact h4 i (by omega) h6
  ·have e:pivA M k (f+1) at'=at':=if_neg h
   rw [e]
   exact ⟨Nat.le_refl _,by omega,fun _=>h,fun i h1 h2=>absurd h2 (by omega)⟩
structure GJ.Ok (n w k:Nat) (A:Mx) (g:GJ):Prop where
 s:∀ i,i<n→g.s i<n∧g.t (g.s i)=i
 t:∀ a,a<n→g.t a<n∧g.s (g.t a)=a
 D:g.D≠0
 y:∀ y:Nat→Rat,(∀ a,a<n→(sumN w fun j=>g.R a j*y j)=0)↔∀ a,a<n→(sumN w fun j=>A a j*y j)=0
 u:∀ j i,j<k→i<n→g.R (g.s i) j=if i=j then 1 else 0
theorem GJ.Ok.piv {n w k:Nat} {A:Mx} {g:GJ} (h:g.Ok n w k A)(hA:NonSing n A)(hk:k<n)(hw:n≤w):k≤piv n k g∧piv n k g<n∧g.R (g.s (piv n k g)) k≠0∧∀ i,k≤i→i<piv n k g→g.R (g.s i) k=0:=by
 obtain ⟨h1,h2,h3,h4⟩:=pivA_spec (fun i=>g.R (g.s i)) k (n-k) k
 change k≤Go.Proofs.YteidabibgjokkaaGreatDoor.piv n k g at h1
 change Go.Proofs.YteidabibgjokkaaGreatDoor.piv n k g≤_ at h2
 change Go.Proofs.YteidabibgjokkaaGreatDoor.piv n k g < _→g.R (g.s (Go.Proofs.YteidabibgjokkaaGreatDoor.piv n k g)) k≠0 at h3
 change ∀ i,k≤i→i<Go.Proofs.YteidabibgjokkaaGreatDoor.piv n k g→g.R (g.s i) k=0 at h4
 by_cases hlt:Go.Proofs.YteidabibgjokkaaGreatDoor.piv n k g<n
 ·exact ⟨h1,hlt,h3 (by omega),h4⟩
 ·exfalso
  have hz:∀ i,k≤i→i<n→g.R (g.s i) k=0:=fun i h5 h6=>h4 i h5 (by omega)
  obtain ⟨y,hy⟩:∃ y:Nat→Rat,y=fun j=>if j<k then -(g.R (g.s j) k) else if j=k then 1 else 0:=⟨_,rfl⟩
  have hyk:y k=1:=by rw [hy];simp
  have hy0:∀ j,k<j→y j=0:=fun j hj=>by
   rw [hy]
   show (if j<k then _ else if j=k then _ else _)=_
   rw [if_neg (by omega),if_neg (by omega)]
  have hyl:∀ j,j<k→y j=-(g.R (g.s j) k):=fun j hj=>by
   rw [hy]
   exact if_pos hj
  have hsum:∀ a,a<n→(sumN w fun j=>g.R a j*y j)=0:=fun a ha=>by
   obtain ⟨hi,ei⟩:=h.t a ha
   obtain ⟨i,hie⟩:∃ i,g.t a=i:=⟨_,rfl⟩
   rw [hie] at hi ei
   rw [← ei]
   have e1:(sumN w fun j=>g.R (g.s i) j*y j)=sumN (k+1+(w-(k+1))) fun j=>g.R (g.s i) j*y j:=by congr 1;omega
   rw [e1,sumN_split,sumN_eq_zero (n:=w-(k+1)) (fun j hj=>by rw [hy0 _ (by omega),Rat.mul_zero]),Rat.add_zero,sumN_succ,hyk,Rat.mul_one]
   by_cases hik:i<k
   ·rw [sumN_single hik (fun j hj hne=>by rw [h.u j i hj hi,if_neg (fun e=>hne e.symm),Rat.zero_mul]),h.u i i hik hi,if_pos rfl,Rat.one_mul,hyl i hik]
    exact Rat.neg_add_cancel _
   ·rw [sumN_eq_zero (fun j hj=>by rw [h.u j i hj hi,if_neg (by omega),Rat.zero_mul]),hz i (by omega) hi,Rat.zero_add]
  have h6:=(h.y y).1 hsum
  have h7:=hA y (fun i hi=>by
   have:=h6 i hi
   have e1:(sumN w fun j=>A i j*y j)=sumN (n+(w-n)) fun j=>A i j*y j:=by congr 1;omega
   rw [e1,sumN_split,sumN_eq_zero (n:=w-n) (fun j hj=>by rw [hy0 _ (by omega),Rat.mul_zero]),Rat.add_zero] at this
   exact this) k hk
  rw [hyk] at h7
  exact absurd h7 (by decide)
theorem GJ.Ok.next {n w k:Nat} {A:Mx} {g:GJ} (h:g.Ok n w k A)(hA:NonSing n A)(hk:k<n)(hw:n≤w):(g.step n k).Ok n w (k+1) A:=by
 obtain ⟨p1,p2,p3,p4⟩:=h.piv hA hk hw
 have es:(g.step n k).s=fun i=>g.s (sw (Go.Proofs.YteidabibgjokkaaGreatDoor.piv n k g) k i):=rfl
 have et:(g.step n k).t=fun a=>sw (Go.Proofs.YteidabibgjokkaaGreatDoor.piv n k g) k (g.t a):=rfl
 have eD:(g.step n k).D=(if Go.Proofs.YteidabibgjokkaaGreatDoor.piv n k g=k then g.D else -g.D)*g.R (g.s (Go.Proofs.YteidabibgjokkaaGreatDoor.piv n k g)) k:=rfl
 have eR:(g.step n k).R=elimG (g.s (Go.Proofs.YteidabibgjokkaaGreatDoor.piv n k g)) k g.R:=rfl
 generalize Go.Proofs.YteidabibgjokkaaGreatDoor.piv n k g=p at *
 obtain ⟨q,hq⟩:∃ q,g.s p=q:=⟨_,rfl⟩
 have hqn:q<n:=hq ▸ (h.s p p2).1
 rw [hq] at eD eR p3
 have hs:∀ i,i<n→(g.step n k).s i<n∧(g.step n k).t ((g.step n k).s i)=i:=fun i hi=>by
  rw [es,et]
  have h1:=h.s _ (sw_lt p2 hk hi)
  exact ⟨h1.1,by show sw p k (g.t (g.s (sw p k i)))=i;rw [h1.2,sw_sw]⟩
 have hinj:∀ i j,i<n→j<n→(g.step n k).s i=(g.step n k).s j→i=j:=fun i j hi hj e=>by
  rw [← (hs i hi).2,e,(hs j hj).2]
 have hsk:(g.step n k).s k=q:=by rw [es];show g.s (sw p k k)=q;rw [sw_k,hq]
 have hrow:∀ a j,(g.step n k).R a j=if a=q then g.R q j / g.R q k else g.R a j-g.R a k*(g.R q j / g.R q k):=fun a j=>by rw [eR];rfl
 refine ⟨hs,fun a ha=>?_,?_,fun y=>?_,fun j i hj hi=>?_⟩
 ·rw [es,et]
  have h1:=h.t a ha
  exact ⟨sw_lt p2 hk h1.1,by show g.s (sw p k (sw p k (g.t a)))=a;rw [sw_sw,h1.2]⟩
 ·rw [eD]
  refine fun e=>?_
  rcases Rat.mul_eq_zero.1 e with e | e
  ·split at e
   ·exact h.D e
   ·exact h.D (by grind)
  ·exact p3 e
 ·rw [← h.y y]
  have hq1:(sumN w fun j=>(g.step n k).R q j*y j)=(sumN w fun j=>g.R q j*y j) / g.R q k:=by
   rw [sumN_congr (g:=fun j=>g.R q j*y j*(g.R q k)⁻¹) fun j hj=>by rw [hrow,if_pos rfl,Rat.div_def];grind,sumN_mulr,Rat.div_def]
  have ha1:∀ a,a≠q→(sumN w fun j=>(g.step n k).R a j*y j)=(sumN w fun j=>g.R a j*y j)-g.R a k*(sumN w fun j=>(g.step n k).R q j*y j):=fun a ha=>by
   rw [← sumN_mul,← sumN_sub]
   refine sumN_congr fun j hj=>?_
   rw [hrow a,if_neg ha,hrow q,if_pos rfl]
   grind
  constructor
  ·intro H
   have hq0:(sumN w fun j=>g.R q j*y j)=0:=by
    have:=H q hqn
    rw [hq1] at this
    rw [← Rat.div_mul_cancel (a:=sumN w fun j=>g.R q j*y j) p3,this,Rat.zero_mul]
   intro a ha
   by_cases e:a=q
   ·rw [e];exact hq0
   ·have:=ha1 a e
    rw [H a ha,H q hqn,Rat.mul_zero] at this
    grind
  ·intro H
   have hq0:(sumN w fun j=>(g.step n k).R q j*y j)=0:=by rw [hq1,H q hqn,Rat.div_def,Rat.zero_mul]
   intro a ha
   by_cases e:a=q
   ·rw [e];exact hq0
   ·rw [ha1 a e,H a ha,hq0,Rat.mul_zero]
    grind
 ·have hqj:∀ j,j<k→g.R q j=0:=fun j hj=>by
   rw [← hq,h.u j p hj p2,if_neg (by omega)]
  by_cases e:(g.step n k).s i=q
  ·have ei:i=k:=hinj i k hi hk (e.trans hsk.symm)
   rw [e,hrow,if_pos rfl]
   by_cases ej:j=k
   ·rw [ej,ei,if_pos rfl,Rat.div_def,Rat.mul_inv_cancel _ p3]
   ·rw [hqj j (by omega),if_neg (by omega),Rat.div_def,Rat.zero_mul]
  ·have ei:i≠k:=fun e'=>e (by rw [e'];exact hsk)
   rw [hrow,if_neg e]
   by_cases ej:j=k
   ·rw [ej,if_neg ei,Rat.div_def,Rat.mul_inv_cancel _ p3,Rat.mul_one]
    grind
   ·rw [hqj j (by omega),Rat.div_def,Rat.zero_mul,Rat.mul_zero]
    have e5:(g.step n k).s i=g.s (sw p k i):=by rw [es]
    rw [e5,h.u j _ (by omega) (sw_lt p2 hk hi)]
    have e6:(sw p k i=j)↔i=j:=by
     unfold sw
     grind
    simp only [e6]
    grind
theorem gj_ok {n w:Nat} {A:Mx} (hA:NonSing n A)(hw:n≤w):∀ k,k≤n→(gj n A k).Ok n w k A
 | 0,_=>⟨fun i hi=>⟨hi,rfl⟩,fun a ha=>⟨ha,rfl⟩,(by decide:(1:Rat)≠0),fun y=>Iff.rfl,fun j i hj _=>absurd hj (Nat.not_lt_zero j)⟩
 | k+1,hk=>(gj_ok hA hw k (by omega)).next hA (by omega) hw
theorem gj_sol {n m:Nat} {A X:Mx} (hA:NonSing n A)(hX:∀ i c,i<n→c<m→(sumN n fun j=>A i j*X j c)=A i (n+c)):∀ i c,i<n→c<m→(gj n A n).R ((gj n A n).s i) (n+c)=X i c:=by
 intro i c hi hc
 have h:=gj_ok hA (show n≤n+m by omega) n (Nat.le_refl n)
 generalize gj n A n=g at *
 obtain ⟨y,hy⟩:∃ y:Nat→Rat,y=fun j=>if j<n then X j c else if j=n+c then -1 else 0:=⟨_,rfl⟩
 have hyl:∀ j,j<n→y j=X j c:=fun j hj=>by rw [hy];exact if_pos hj
 have hyc:y (n+c)=-1:=by
  rw [hy]
  show (if n+c<n then _ else if n+c=n+c then _ else _)=_
  rw [if_neg (by omega),if_pos rfl]
 have hy0:∀ j,j<m→j≠c→y (n+j)=0:=fun j _ hj=>by
  rw [hy]
  show (if n+j<n then _ else if n+j=n+c then _ else _)=_
  rw [if_neg (by omega),if_neg (by omega)]
 have hs:∀ M:Nat→Rat,(sumN (n+m) fun j=>M j*y j)=(sumN n fun j=>M j*X j c)+M (n+c) * -1:=fun M=>by
  rw [sumN_split,sumN_congr (n:=n) (fun j hj=>by rw [hyl j hj]),sumN_single (n:=m) hc (fun j hj hne=>by rw [hy0 j hj hne,Rat.mul_zero]),hyc]
 have h1:=(h.y y).2 (fun a ha=>by rw [hs,hX a c ha hc];grind) (g.s i) (h.s i hi).1
 rw [hs,sumN_single hi (fun j hj hne=>by rw [h.u j i hj hi,if_neg (fun e=>hne e.symm),Rat.zero_mul]),h.u i i hi hi,if_pos rfl] at h1
 grind
theorem gj_len {n w L:Nat} {A:Mx} (hA:NonSing n A)(hw:n≤w)(hL:∀ a j,a<n→j<w→rL (A a j)≤L)(hL1:1≤L):∀ k,k≤n→(∀ a j,a<n→j<w→rL ((gj n A k).R a j)≤5 ^ k*L)∧rL (gj n A k).D≤5 ^ k*L
 | 0,_=>⟨fun a j ha hj=>by rw [Nat.pow_zero,Nat.one_mul];exact hL a j ha hj,by rw [Nat.pow_zero,Nat.one_mul];exact Nat.le_trans (show rL 1≤1 by decide +kernel) hL1⟩
 | k+1,hk=>by
  obtain ⟨h1,h2⟩:=gj_len hA hw hL hL1 k (by omega)
  have ok:=gj_ok hA hw k (by omega)
  obtain ⟨p1,p2,p3,p4⟩:=ok.piv hA (by omega) hw
  have hp:1≤5 ^ k:=Nat.one_le_pow _ _ (by decide)
  have hB:1≤5 ^ k*L:=Nat.mul_le_mul hp hL1
  have e5:5 ^ (k+1)*L=5*(5 ^ k*L):=by rw [Nat.pow_succ];grind
  rw [e5]
  show (∀ a j,a<n→j<w→rL (((gj n A k).step n k).R a j)≤_)∧rL ((gj n A k).step n k).D≤_
  generalize gj n A k=g at *
  have eD:(g.step n k).D=(if Go.Proofs.YteidabibgjokkaaGreatDoor.piv n k g=k then g.D else -g.D)*g.R (g.s (Go.Proofs.YteidabibgjokkaaGreatDoor.piv n k g)) k:=rfl
  have eR:(g.step n k).R=elimG (g.s (Go.Proofs.YteidabibgjokkaaGreatDoor.piv n k g)) k g.R:=rfl
  have hq:=(ok.s _ p2).1
  rw [eD,eR]
  generalize g.s (Go.Proofs.YteidabibgjokkaaGreatDoor.piv n k g)=q at *
  generalize 5 ^ k*L=B at *
  refine ⟨fun a j ha hj=>?_,?_⟩
  ·unfold elimG
   have g1:=rL_div (g.R q j) (g.R q k) (h1 q j hq hj) (h1 q k hq (by omega)) (by omega)
   split
   ·omega
   ·have g2:=rL_mul (g.R a k) _ (h1 a k ha (by omega)) g1 (by omega)
    have g3:=rL_sub (g.R a j) _ (h1 a j ha hj) g2
    omega
  ·have g0:rL (if Go.Proofs.YteidabibgjokkaaGreatDoor.piv n k g=k then g.D else -g.D)≤B:=by
    split
    ·exact h2
    ·rw [rL_neg];exact h2
   have g1:=rL_mul _ (g.R q k) g0 (h1 q k hq (by omega)) (by omega)
   omega
theorem leGq {g:Nat} {st:St} {fr':List (Nat × V)} {pre:List (Nat × Row)} {b n w nx':Nat} {X:Mx} (h:Le 0 id ⟨fr',pre,nx'⟩ st) (hg:g≤nx') (hb:b+n≤nx')
  (h3:∀ a,a<n→lkp st.hp (b+a)=some (famQ w X a)):Le g id ⟨fr',pre++fam b n (famQ w X),nx'⟩ st:=
 have h':Le g id ⟨fr',pre,nx'⟩ st:=⟨h.fr,h.hp,h.ap,hg,fun _ _=>rfl⟩
 leFq h' hb h3
theorem leG1 {g:Nat} {st:St} {fr':List (Nat × V)} {k0:Nat} {q0:Row} {b n w nx':Nat} {X:Mx} (h:Le 0 id ⟨fr',[(k0,q0)],nx'⟩ st) (hg:g≤nx') (hb:b+n≤nx')
  (h3:∀ a,a<n→lkp st.hp (b+a)=some (famQ w X a)):Le g id ⟨fr',(k0,q0) :: fam b n (famQ w X),nx'⟩ st:=leGq (pre:=[(k0,q0)]) h hg hb h3
theorem leG4 {g:Nat} {st:St} {fr':List (Nat × V)} {k0 k1 k2 k3:Nat} {q0 q1 q2 q3:Row} {b n w nx':Nat} {X:Mx} (h:Le 0 id ⟨fr',[(k0,q0),(k1,q1),(k2,q2),(k3,q3)],nx'⟩ st) (hg:g≤nx') (hb:b+n≤nx')
  (h3:∀ a,a<n→lkp st.hp (b+a)=some (famQ w X a)):Le g id ⟨fr',(k0,q0) :: (k1,q1) :: (k2,q2) :: (k3,q3) :: fam b n (famQ w X),nx'⟩ st:=leGq (pre:=[(k0,q0),(k1,q1),(k2,q2),(k3,q3)]) h hg hb h3
theorem leG5 {g:Nat} {st:St} {fr':List (Nat × V)} {k0 k1 k2 k3 k4:Nat} {q0 q1 q2 q3 q4:Row} {b n w nx':Nat} {X:Mx} (h:Le 0 id ⟨fr',[(k0,q0),(k1,q1),(k2,q2),(k3,q3),(k4,q4)],nx'⟩ st) (hg:g≤nx') (hb:b+n≤nx')
  (h3:∀ a,a<n→lkp st.hp (b+a)=some (famQ w X a)):Le g id ⟨fr',(k0,q0) :: (k1,q1) :: (k2,q2) :: (k3,q3) :: (k4,q4) :: fam b n (famQ w X),nx'⟩ st:=leGq (pre:=[(k0,q0),(k1,q1),(k2,q2),(k3,q3),(k4,q4)]) h hg hb h3
theorem fam_at1 {n w:Nat} {X:Mx} {k0:Nat} {q0:Row} (h0:k0=0)(a:Nat)(ha:a<n):lkp ((k0,q0) :: fam 1 n (famQ w X)) (1+a)=some (famQ w X a):=by
 rw [lkp_ne (by omega)]
 exact lkp_fam _ ha
theorem fam_at4 {n w:Nat} {X:Mx} {q0 q1 q2 q3:Row} (hn:n≤60)(a:Nat)(ha:a<n):lkp ((102,q0) :: (101,q1) :: (100,q2) :: (0,q3) :: fam 1 n (famQ w X)) (1+a)=some (famQ w X a):=by
 rw [lkp_ne (by omega),lkp_ne (by omega),lkp_ne (by omega),lkp_ne (by omega)]
 exact lkp_fam _ ha
theorem fam_at5 {n w:Nat} {X:Mx} {q0 q1 q2 q3 q4:Row} (hn:n≤60)(a:Nat)(ha:a<n):lkp ((103,q4) :: (102,q0) :: (101,q1) :: (100,q2) :: (0,q3) :: fam 1 n (famQ w X)) (1+a)=some (famQ w X a):=by
 rw [lkp_ne (by omega)]
 exact fam_at4 hn a ha
theorem famQ_congr {n w:Nat} {X Y:Mx} (h:∀ a j,a<n→j<w→X a j=Y a j):fam 1 n (famQ w X)=fam 1 n (famQ w Y):=fam_congr fun a ha=>by
 unfold famQ
 rw [vl_congr fun j hj=>h a j ha hj]
theorem famQ_set {n w a:Nat} {X Y:Mx} {p:Nat} (hp:1+a=p)(ha:a<n)(h:∀ b j,b<n→j<w→Y b j=if b=a then Y a j else X b j):setL (fam 1 n (famQ w X)) p ⟨54,qrow (vl w (Y a))⟩=fam 1 n (famQ w Y):=by
 subst hp
 rw [setL_fam _ _ ha]
 refine fam_congr fun b hb=>?_
 unfold updR
 by_cases e:b=a
 ·subst e
  rw [if_pos rfl]
  rfl
 ·rw [if_neg e]
  unfold famQ
  rw [vl_congr fun j hj=>(h b j hb hj).trans (if_neg e)]
def tkL (n k:Nat):List V:=gl n fun i=>.i .i64 (if i<k then i else (0:Nat))
theorem tkL_zero (n:Nat):List.replicate n (V.i .i64 0)=tkL n 0:=by
 rw [gl_rep]
 exact gl_congr fun i hi=>by rw [if_neg (Nat.not_lt_zero _)];rfl
theorem tkL_len (n k:Nat):(tkL n k).length=n:=gl_length ..
theorem tkL_next {n k:Nat} (hk:k<n)(v:V):((tkL n k).set k v).set k (.i .i64 k)=tkL n (k+1):=by
 rw [List.set_set]
 unfold tkL
 rw [gl_set _ _ hk]
 refine gl_congr fun i hi=>?_
 show (if i=k then V.i .i64 k else .i .i64 (if i<k then (i:Int) else ((0:Nat):Int)))=.i .i64 (if i<k+1 then (i:Int) else ((0:Nat):Int))
 by_cases e:i=k
 ·subst e
  rw [if_pos rfl,if_pos (by omega)]
 ·rw [if_neg e]
  by_cases h:i<k
  ·rw [if_pos h,if_pos (by omega)]
  ·rw [if_neg h,if_neg (by omega)]
theorem lt_tk (k n m:Nat):V.ltL k (tkL n m)=true:=ltL_gl fun i=>by simp only [V.lt]
theorem lt_tk1 {k n m:Nat} (hm:m<n)(z:Int):V.ltL k ((tkL n m).set m (.i .i64 z))=true:=by
 unfold tkL
 rw [gl_set _ _ hm]
 refine ltL_gl fun i=>?_
 unfold updG
 split<;>simp only [V.lt]
theorem tk_flat (n m:Nat):(tkL n m).all V.flat=true:=by
 unfold tkL gl
 rw [List.all_eq_true]
 intro v hv
 obtain ⟨i,_,rfl⟩:=List.mem_map.1 hv
 rfl
theorem tk_hf (n m:Nat):V.hfL (tkL n m)=true:=by
 unfold tkL gl
 generalize List.range n=l
 induction l with
 | nil=>rfl
 | cons a l ih=>simp only [List.map_cons,V.hfL,V.hf,ih,Bool.and_self]
theorem fzHp_rows {n:Nat} {cs:List V} {hp:List (Nat × Row)}:∀ (qs:List Row) (b:Nat),(∀ a,a<qs.length→b+a≠n∧lkp hp (b+a)=some (qs.getD a r0))→FzHp n cs hp (rowsFr b qs)
 | [],_,_=>.nil
 | q :: qs,b,h=>.cons (h 0 (by simp)).1 (h 0 (by simp)).2 rfl rfl (fun k hk=>.same) (fzHp_rows qs (b+1) fun a ha=>by
  have:=h (a+1) (by simpa using ha)
  rw [show b+(a+1)=b+1+a by omega] at this
  exact this)
theorem og_lt {n w k:Nat} {s:Nat→Nat} (h:∀ i,i<n→1+s i<k):V.ltL k (gl n fun i=>.own (1+s i) 0 w 3)=true:=ltL_gln n fun i hi=>by
 simp only [V.lt,decide_eq_true_eq]
 exact h i hi
theorem og_sw {n w p k:Nat} (s:Nat→Nat)(hp:p<n)(hk:k<n):((gl n fun i=>V.own (1+s i) 0 w 3).set p (.own (1+s k) 0 w 3)).set k (.own (1+s p) 0 w 3)=gl n fun i=>V.own (1+s (sw p k i)) 0 w 3:=by
 rw [gl_set _ _ hp,gl_set _ _ hk]
 refine gl_congr fun i hi=>?_
 show (if i=k then V.own (1+s p) 0 w 3 else if i=p then V.own (1+s k) 0 w 3 else V.own (1+s i) 0 w 3)=_
 unfold sw
 by_cases e1:i=k
 ·subst e1
  rw [if_pos rfl]
  by_cases e2:i=p
  ·subst e2;rw [if_pos rfl]
  ·rw [if_neg e2,if_pos rfl]
 ·rw [if_neg e1]
  by_cases e2:i=p
  ·rw [if_pos e2,if_pos e2]
  ·rw [if_neg e2,if_neg e2,if_neg e1]
def okClashM (ms:List Nat) (infos:List Info):Bool:=
 (List.range infos.length).all fun j=>(List.range j).all fun i=>match infos[i]?,infos[j]? with
  | some a,some b=>(ms.getD j 0).testBit i || !(clash a b)
  | _,_=>true
theorem okDraw_of {ops:Array Oper} {infos:List Info} {nx0 nxN:Nat} (h:(okMasks (Region.before ops).toList 0 ops.toList && okClashM (Region.before ops).toList infos && okNames nx0 nxN infos)=true):okDraw ops infos nx0 nxN=true:=by
 have e:okClashM (Region.before ops).toList infos=okClash (Region.before ops).toList infos:=by
  unfold okClashM okClash
  congr 1
  funext j
  congr 1
  funext i
  cases infos[i]? <;> cases infos[j]? <;> first | rfl | exact Bool.or_comm _ _
 rw [e] at h
 exact h
def scR (R:Mx) (q k j:Nat):Mx:=fun b j'=>if b=q∧j' < j then R q j' / R q k else R b j'
def elR (R:Mx) (t:Nat→Nat) (q k i j:Nat):Mx:=fun b j'=>if b=q then R q j' / R q k else if t b<i∨(t b=i∧j' < j) then R b j' - R b k*(R q j' / R q k) else R b j'
theorem pne {p:Nat} (h1:0<p)(h2:p<100):(((p=0)=False)∧((p=100)=False)∧((p=101)=False)∧((p=102)=False)∧((p=103)=False))∧(((0=p)=False)∧((100=p)=False)∧((101=p)=False)∧((102=p)=False)∧((103=p)=False)):=by
 simp only [eq_iff_iff,iff_false]
 omega
set_option maxHeartbeats 64000000 in
theorem rcleared_ok (n w L:Nat) (hn:n≤60) (hw:w≤120) (hnw:n≤w) (A:Mx) (hN:NonSing n A) (hL:∀ a j,a<n→j<w→rL (A a j)≤L) (hL1:1≤L) (hL2:5 ^ n*L<2 ^ 30) :
  GCall Tryz.prog 157 [.own 0 0 n 1,.i .i64 n] (outR n w id :: (List.range n).map (famQ w A)) (outR n w (gj n A n).s :: (List.range n).map (famQ w (gj n A n).R)) (.tup [.sl (tkL n n),rV (gj n A n).D]):=by
 refine GCall.of_ax (by simp) Tryz.call157 Tryz.func157 rfl (by simp [Tryz.ntmps157]) fun O M w0 G=>?_
 have hq0:(outR n w id :: (List.range n).map (famQ w A)).length=n+1:=by simp
 simp only [Tryz.ntmps157,Tryz.results157,argFr,hq0]
 show AX _ _ _ ⟨_,(0,outR n w id) :: fam 1 n (famQ w A),_⟩ _
 unfold outR
 have cone:PCall Tryz.prog 31 [] (.agg [.b (decide ((1:Rat).num<0)),dg (digits (1:Rat).num.natAbs),dg (digits (1:Rat).den)]) []:=pone_ok
 have hok:=fun k hk=>gj_ok (w:=w) hN hnw k hk
 have hlen:=fun k hk=>gj_len hN hnw hL hL1 k hk
 have hpw:∀ k,k≤n→5 ^ k*L<2 ^ 30:=fun k hk=>Nat.lt_of_le_of_lt (Nat.mul_le_mul_right _ (Nat.pow_le_pow_right (by decide) hk)) hL2
 have hol:=fun s:Nat→Nat=>gl_length n fun i=>V.own (1+s i) 0 w 3
 have hlt0:V.ltL 100 (gl n fun i=>V.own (1+id i) 0 w 3)=true:=og_lt fun i hi=>by simp only [id_eq];omega
 have htz:=tkL_zero n
 refine AX.weaken id (st':=⟨[(1,.i .i64 n),(0,.own 0 0 n 1)],(0,⟨39,gl n fun i=>.own (1+id i) 0 w 3⟩) :: fam 1 n (famQ w A),100⟩)
  (leG1
   (leQ8H hlt0)
   (by show n+1≤100;omega) (by omega) (fam_at1 rfl))
  ?_
 refine AX.sR (rgAV [0,1,5]) ?_
 refine AX.sR (rgCV [0,1,5,6] (aI cone oT)) ?_
 refine AX.sR (rgAV [0,1,5,6,7]) ?_
 refine AX.sR (rgAV [0,1,5,6,7,8]) ?_
 refine AX.seq ?_
 refine AX.sR (rgAV [0,1,5,6,7,8,9]) ?_
 refine AX.block ?_
 refine AX.loop (fun N st=>∃ k:Nat,k≤n∧N=n-k∧st=⟨[(9,.i .i64 k),(8,.i .i64 k),(7,.own 102 0 n 1),(6,.ptr 101 0),(5,.ptr 100 0),(1,.i .i64 n),(0,.own 0 0 n 1)],(102,⟨3,tkL n k⟩) :: (101,⟨54,[.b (decide (((gj n A k).D).num<0)),dg (digits ((gj n A k).D).num.natAbs),dg (digits ((gj n A k).D).den)]⟩) :: (100,⟨54,[.b false,.nl,.nl]⟩) :: (0,⟨39,gl n fun i=>.own (1+(gj n A k).s i) 0 w 3⟩) :: fam 1 n (famQ w ((gj n A k).R)),103⟩) n ⟨0,Nat.zero_le _,rfl,by rw [← htz];rfl⟩ ?_
 rintro N st ⟨k,hk,rfl,rfl⟩
 refine AX.seq ?_
 by_cases h1:k<n
 ·have ok:=hok k hk
  obtain ⟨l1,l2⟩:=hlen k hk
  have ok2:=hok (k+1) (by omega)
  have hB:=hpw k hk
  obtain ⟨p1,p2,p3,p4⟩:=ok.piv hN h1 hnw
  have e1:gj n A (k+1)=(gj n A k).step n k:=rfl
  rw [e1] at ok2
  have hstp:(gj n A k).step n k=⟨elimG ((gj n A k).s (piv n k (gj n A k))) k (gj n A k).R,fun i=>(gj n A k).s (sw (piv n k (gj n A k)) k i),fun a=>sw (piv n k (gj n A k)) k ((gj n A k).t a),(if piv n k (gj n A k)=k then (gj n A k).D else -(gj n A k).D)*(gj n A k).R ((gj n A k).s (piv n k (gj n A k))) k⟩:=rfl
  have htn:=fun v=>tkL_next h1 v
  have htl:=tkL_len n k
  have hgo:∀ Q:GJ→Prop,Q ⟨elimG ((gj n A k).s (piv n k (gj n A k))) k (gj n A k).R,fun i=>(gj n A k).s (sw (piv n k (gj n A k)) k i),fun a=>sw (piv n k (gj n A k)) k ((gj n A k).t a),(if piv n k (gj n A k)=k then (gj n A k).D else -(gj n A k).D)*(gj n A k).R ((gj n A k).s (piv n k (gj n A k))) k⟩→Q (gj n A (k+1)):=fun Q h=>h
  clear hok hlen
  rw [hstp] at ok2
  clear hstp e1
  obtain ⟨e2,he2⟩:∃ x,gj n A (k+1)=x:=⟨_,rfl⟩
  rw [he2] at hgo
  generalize gj n A k=g at *
  obtain ⟨R,s,t,D⟩:=g
  dsimp only at *
  generalize piv n k ⟨R,s,t,D⟩=pv at *
  obtain ⟨tk,htk⟩:∃ x,tkL n k=x:=⟨_,rfl⟩
  rw [htk] at htn htl
  refine AX.sR (rgAV [0,1,5,6,7,8,9,21]) ?_
  refine AX.condT ?_
  refine AX.keepA [0,1,5,6,7,8,9] ?_
  refine AX.skip ?_
  refine nmZ ?_
  refine AX.seq ?_
  refine AX.block ?_
  rw [htk]
  refine AX.sR (rgWV [0,1,5,6,7,8,9] (aI @htl oT) oT) ?_
  refine AX.sR (rgAV [0,1,5,6,7,8,9,10]) ?_
  obtain ⟨tk1,htk1⟩:∃ x,tk.set k (V.i .i64 (-1))=x:=⟨_,rfl⟩
  have htn:=htn (V.i .i64 (-1))
  have hlt1:V.ltL 103 tk1=true:=by rw [← htk1,← htk];exact lt_tk1 h1 _
  rw [htk1] at htn
  have hlt14:V.ltL 104 tk1=true:=by rw [← htk1,← htk];exact lt_tk1 h1 _
  obtain ⟨og,hog⟩:∃ x,(gl n fun i=>V.own (1+s i) 0 w 3)=x:=⟨_,rfl⟩
  have hsn:∀ i,i<n→s i<n:=fun i hi=>(ok.s i hi).1
  have hol:=hol s
  have hog1:∀ i,i<n→og.getD i .junk=.own (1+s i) 0 w 3:=fun i hi=>by rw [← hog];exact gl_get _ hi
  have holt:V.ltL 103 og=true:=by rw [← hog];exact og_lt fun i hi=>by have:=hsn i hi;omega
  have hsw:=og_sw (w:=w) s p2 h1
  rw [hog] at hsw hol
  rw [htk1,hog]
  have hrow:∀ a,a<n→lkp (fam 1 n (famQ w R)) (1+a)=some ⟨54,qrow (vl w (R a))⟩:=fun a ha=>lkp_fam (famQ w R) ha
  refine AX.seq ?_
  refine AX.block ?_
  refine AX.loop (fun N st=>∃ a:Nat,k≤a∧a≤pv∧N=pv-a∧st=⟨[(10,.i .i64 a),(9,.i .i64 k),(8,.i .i64 k),(7,.own 102 0 n 1),(6,.ptr 101 0),(5,.ptr 100 0),(1,.i .i64 n),(0,.own 0 0 n 1)],(102,⟨3,tk1⟩) :: (101,⟨54,[.b (decide ((D).num<0)),dg (digits (D).num.natAbs),dg (digits (D).den)]⟩) :: (100,⟨54,[.b false,.nl,.nl]⟩) :: (0,⟨39,og⟩) :: fam 1 n (famQ w (R)),103⟩) (pv-k) ⟨k,Nat.le_refl _,p1,rfl,rfl⟩ ?_
  rintro N st ⟨a,g1,g2,rfl,rfl⟩
  refine AX.seq ?_
  have ha:a<n:=by omega
  have hsa:=hsn a ha
  have cs:PCall Tryz.prog 34 [.agg [.b (decide (((R (s a) k)).num<0)),dg (digits ((R (s a) k)).num.natAbs),dg (digits ((R (s a) k)).den)]] (.i .i64 (sgnR (R (s a) k))) []:=psign_ok (IsQ.of (l1 _ k hsa (by omega))) (by omega)
  have og1:=hog1 a ha
  have lk1:=hrow _ hsa
  have ln1:=vl_len3 w (R (s a))
  have gt1:=vl_get3 (R (s a)) (show k<w by omega)
  obtain ⟨⟨c0,c1,c2,c3,c4⟩,d0,d1,d2,d3,d4⟩:=pne (p:=1+s a) (by omega) (by omega)
  obtain ⟨p,hp⟩:∃ p,1+s a=p:=⟨_,rfl⟩
  rw [hp] at og1 lk1 c0 c1 c2 c3 c4 d0 d1 d2 d3 d4
  by_cases h2:a<pv
  ·have hz:=sgnR_eq_zero.2 (p4 a g1 h2)
   rw [hz] at cs
   generalize R (s a) k=qq at *
   refine AX.sR (rgWV [0,1,5,6,7,8,9,10,42] (aI @hol (aI @og1 (aI @lk1 (aI @ln1 (aI @gt1 (aI @c0 (aI @c1 (aI @c2 (aI @c3 oT))))))))) (aI cs oT)) ?_
   refine AX.condT ?_
   refine AX.keepA [0,1,5,6,7,8,9,10] ?_
   refine AX.skip ?_
   refine nmZ ?_
   refine AX.block ?_
   refine AX.rR (rgWV [0,1,5,6,7,8,9,10] (aI @lit_add oT) oT) ?_
   refine nmZ ?_
   refine ⟨_,_,id,?_,
    (leG4
     (leQ8H (And.intro hlt1 holt))
     (by show _+1≤103;omega) (by omega) (fam_at4 hn)),⟨a+1,by omega,by omega,rfl,rfl⟩⟩
   omega
  ·obtain rfl:a=pv:=by omega
   have hz:¬ sgnR (R (s a) k)=0:=fun e=>p3 (sgnR_eq_zero.1 e)
   have hne:¬ (a:Int)=(n:Int):=by omega
   obtain ⟨rq9,hrq9⟩:∃ x,R (s a) k=x:=⟨_,rfl⟩
   rw [hrq9] at gt1 cs hz
   refine AX.sR (rgWV [0,1,5,6,7,8,9,10,42] (aI @hol (aI @og1 (aI @lk1 (aI @ln1 (aI @gt1 (aI @c0 (aI @c1 (aI @c2 (aI @c3 (aI @hz oT)))))))))) (aI cs oT)) ?_
   refine AX.condF ?_
   refine AX.exit ?_
   refine nmZ ?_
   refine AX.seq ?_
   refine AX.sR (rgWV [0,1,5,6,7,8,9,10,48] (aI @hol (aI @hne oT)) oT) ?_
   refine AX.condF ?_
   refine AX.keepA [0,1,5,6,7,8,9,10] ?_
   refine AX.skip ?_
   refine nmZ ?_
   clear gt1 lk1 ln1 cs hz
   obtain ⟨og2,hog2⟩:∃ x,(gl n fun i=>V.own (1+s (sw a k i)) 0 w 3)=x:=⟨_,rfl⟩
   have ol2:og2.length=n:=by rw [← hog2];exact gl_length ..
   have hs2:∀ i,i<n→s (sw a k i)<n:=fun i hi=>hsn _ (sw_lt p2 h1 hi)
   have og2g:∀ i,i<n→og2.getD i .junk=.own (1+s (sw a k i)) 0 w 3:=fun i hi=>by rw [← hog2];exact gl_get _ hi
   have og2lt:V.ltL 103 og2=true:=by rw [← hog2];exact og_lt fun i hi=>by have:=hs2 i hi;omega
   have og2l4:V.ltL 104 og2=true:=by rw [← hog2];exact og_lt fun i hi=>by have:=hs2 i hi;omega
   obtain ⟨D1,hD1⟩:∃ x,(if a=k then D else -D)=x:=⟨_,rfl⟩
   refine AX.cutR (fun st=>Le (n+1) id ⟨[(9,.i .i64 k),(8,.i .i64 k),(7,.own 102 0 n 1),(6,.ptr 101 0),(5,.ptr 100 0),(1,.i .i64 n),(0,.own 0 0 n 1)],(102,⟨3,tk1⟩) :: (101,⟨54,[.b (decide ((D1).num<0)),dg (digits (D1).num.natAbs),dg (digits (D1).den)]⟩) :: (100,⟨54,[.b false,.nl,.nl]⟩) :: (0,⟨39,og2⟩) :: fam 1 n (famQ w (R)),103⟩ st) ?_ ?_
   ·by_cases h4:a=k
    ·subst h4
     have e9:og=og2:=by
      rw [← hog,← hog2]
      exact gl_congr fun i hi=>by rw [sw_id]
     have e8:D=D1:=by rw [← hD1,if_pos rfl]
     subst e9 e8
     refine AX.sR (rgAV [0,1,5,6,7,8,9,10,52]) ?_
     refine AX.condF ?_
     refine AX.keepA [0,1,5,6,7,8,9] ?_
     refine AX.skip ?_
     refine nmZ ?_
     exact leG4
      (leQ8H (And.intro hlt1 og2lt))
      (by omega) (by omega) (fam_at4 hn)
    ·have hak:¬ (a:Int)=(k:Int):=by omega
     have og3:=hog1 k h1
     have e8:-D=D1:=by rw [← hD1,if_neg h4]
     have cn:PCall Tryz.prog 123 [.agg [.b (decide ((D).num<0)),dg (digits (D).num.natAbs),dg (digits (D).den)]] (.agg [.b (decide (((-D)).num<0)),dg (digits ((-D)).num.natAbs),dg (digits ((-D)).den)]) []:=pneg_ok (IsQ.of l2) (by omega)
     rw [e8] at cn
     rw [hp,hog2] at hsw
     refine AX.sR (rgWV [0,1,5,6,7,8,9,10,52] (aI @hak oT) oT) ?_
     refine AX.condT ?_
     apply AX.sdreg [0,1,5,6,7,8,9] (by kernel_rfl) (by simp only [pq];rfl)
     ·repeat (first
     |(apply RunD.op rfl;· rfl
       ·(simp only [opsOf,valsOf,valOf,lkp,ofConst,ofCell,Array.toList,Option.toList,List.map_cons,List.map_nil,List.cons_append,List.nil_append,List.append_nil,Nat.reduceEqDiff,Nat.reducePow,Nat.reduceLT,Nat.reduceLeDiff,reduceIte,if_true,if_false,IntKind.min,IntKind.max,IntKind.bits,IntKind.signed,Int.reduceLE,Int.reduceNeg,Int.reducePow,Int.reduceSub,and_self,Bool.false_eq_true,Nat.reduceSub];rfl)
       iterate 2 (· (simp (disch:=omega) only [go_sem,i64_of,u32_of,u64_of,Nat.reduceLT,Nat.reduceLeDiff,Nat.reduceEqDiff,Nat.reduceAdd,Nat.reduceSub,Nat.reduceMul,Nat.reducePow,Nat.reduceBEq,Int.reduceLE,Int.reduceLT,Int.reduceToNat,Int.reduceEq,Int.reduceNeg,↓reduceIte,reduceCtorEq,hol,og1,og3,List.length_set];rfl))
       ·(simp only [pb,Nat.reduceLT,Nat.reduceAdd,reduceIte];rfl)
       ·rfl)
     |(apply RunD.skip;· rfl
       ·(simp only [pb,Nat.reduceLT,Nat.reduceAdd,reduceIte];rfl)
       ·rfl))
      exact RunD.nil
     ·repeat (first | exact Keep.nil | (apply Keep.take;· rfl) | (apply Keep.drop;· rfl))
     ·kernel_rfl
     rw [hsw]
     refine AX.rR (rgCV [0,1,5,6,7,8,9] (aI cn oT)) ?_
     exact leG4
      (leQ8H (And.intro hlt1 og2lt))
      (by omega) (by omega) (fam_at4 hn)
   ·intro st hle
    refine AX.weaken id hle ?_
    clear hle hsw hog1 holt hol hog og og1 c0 c1 c2 c3 c4 d0 d1 d2 d3 d4
    obtain ⟨q0,hq0⟩:∃ x,s a=x:=⟨_,rfl⟩
    have hqn:q0<n:=by rw [← hq0];exact hsn a p2
    have og2k:og2.getD k .junk=.own (1+q0) 0 w 3:=by rw [og2g k h1,sw_k,hq0]
    obtain ⟨⟨c0,c1,c2,c3,c4⟩,d0,d1,d2,d3,d4⟩:=pne (p:=1+q0) (by omega) (by omega)
    obtain ⟨q,hq⟩:∃ q,1+q0=q:=⟨_,rfl⟩
    rw [hq] at og2k c0 c1 c2 c3 c4 d0 d1 d2 d3 d4
    rw [hq0] at p3 ok2 hgo hp
    have hts:∀ i,i<n→s (sw a k i)<n∧sw a k (t (s (sw a k i)))=i:=fun i hi=>ok2.s i hi
    have hst:∀ b,b<n→sw a k (t b)<n∧s (sw a k (sw a k (t b)))=b:=fun b hb=>ok2.t b hb
    have htq:sw a k (t q0)=k:=by
     have:=(hts k h1).2
     rwa [sw_k,hq0] at this
    have hsq:s (sw a k k)=q0:=by rw [sw_k,hq0]
    obtain ⟨s2,hs2e⟩:∃ x,(fun i=>s (sw a k i))=x:=⟨_,rfl⟩
    obtain ⟨t2,ht2e⟩:∃ x,(fun b=>sw a k (t b))=x:=⟨_,rfl⟩
    have hs2':∀ i,s (sw a k i)=s2 i:=fun i=>congrFun hs2e i
    have ht2':∀ i,sw a k (t i)=t2 i:=fun i=>congrFun ht2e i
    simp only [hs2',ht2'] at hog2 hs2 og2g hts hst htq hsq hgo ok2
    rw [hD1] at hgo ok2
    have hrL:∀ b j,b<n→j<w→rL (R b j)≤5 ^ k*L:=l1
    have hlD:rL D1≤5 ^ k*L:=by
     rw [← hD1]
     split
     ·exact l2
     ·rw [rL_neg];exact l2
    have hB1:1≤5 ^ k*L:=Nat.mul_le_mul (Nat.one_le_pow _ _ (by decide)) hL1
    generalize 5 ^ k*L=B at *
    have hkw:k<w:=by omega
    have cm:PCall Tryz.prog 165 [.agg [.b (decide ((D1).num<0)),dg (digits (D1).num.natAbs),dg (digits (D1).den)],.agg [.b (decide (((R q0 k)).num<0)),dg (digits ((R q0 k)).num.natAbs),dg (digits ((R q0 k)).den)]] (.agg [.b (decide (((D1*R q0 k)).num<0)),dg (digits ((D1*R q0 k)).num.natAbs),dg (digits ((D1*R q0 k)).den)]) []:=pmul_ok (IsQ.of hlD) (IsQ.of (hrL q0 k hqn hkw)) hB1 (by omega)
    have lkq:=hrow q0 hqn
    have lnq:=vl_len3 w (R q0)
    have gtq:=vl_get3 (R q0) hkw
    rw [hq] at lkq
    have es0:fam 1 n (famQ w R)=fam 1 n (famQ w (scR R q0 k 0)):=famQ_congr fun b j hb hj=>(if_neg (fun h=>Nat.not_lt_zero _ h.2)).symm
    obtain ⟨D2,hD2⟩:∃ x,D1*R q0 k=x:=⟨_,rfl⟩
    obtain ⟨ld,hld⟩:∃ x,R q0 k=x:=⟨_,rfl⟩
    rw [hld] at hD2 p3 gtq
    rw [hld,hD2] at cm
    refine AX.sR (rgWV [0,1,5,6,7,8,9,11] (aI @ol2 (aI @og2k (aI @lkq (aI @lnq (aI @gtq (aI @c0 (aI @c1 (aI @c2 (aI @c3 (aI @c4 oT)))))))))) oT) ?_
    refine AX.sR (rgCV [0,1,5,6,7,8,9,11] (aI cm oT)) ?_
    rw [es0]
    clear gtq lnq lkq
    refine AX.seq ?_
    refine AX.sR (rgWV [0,1,5,6,7,8,9,11,83,84] (aI @ol2 (aI @og2k (aI @c0 (aI @c1 (aI @c2 (aI @c3 (aI @c4 oT))))))) oT) ?_
    refine AX.block ?_
    refine AX.loop (fun N st=>∃ j:Nat,j≤w∧N=w-j∧st=⟨[(84,.i .i64 j),(83,.i .i64 w),(11,.ptr 103 0),(9,.i .i64 k),(8,.i .i64 k),(7,.own 102 0 n 1),(6,.ptr 101 0),(5,.ptr 100 0),(1,.i .i64 n),(0,.own 0 0 n 1)],(103,⟨54,[.b (decide ((ld).num<0)),dg (digits (ld).num.natAbs),dg (digits (ld).den)]⟩) :: (102,⟨3,tk1⟩) :: (101,⟨54,[.b (decide ((D2).num<0)),dg (digits (D2).num.natAbs),dg (digits (D2).den)]⟩) :: (100,⟨54,[.b false,.nl,.nl]⟩) :: (0,⟨39,og2⟩) :: fam 1 n (famQ w (scR R q0 k j)),104⟩) w ⟨0,Nat.zero_le _,rfl,rfl⟩ ?_
    rintro N st ⟨j,hj,rfl,rfl⟩
    by_cases h5:j<w
    ·have hlq:lkp (fam 1 n (famQ w (scR R q0 k j))) (1+q0)=some ⟨54,qrow (vl w (scR R q0 k j q0))⟩:=lkp_fam (famQ w (scR R q0 k j)) hqn
     have ln:=vl_len3 w (scR R q0 k j q0)
     have gt:=vl_get3 (scR R q0 k j q0) h5
     have ev:scR R q0 k j q0 j=R q0 j:=if_neg (fun h=>Nat.lt_irrefl _ h.2)
     rw [ev] at gt
     rw [hq] at hlq
     have hset:=vl_set3 (scR R q0 k j q0) (R q0 j / ld) h5
     have hset2:(vl w fun k'=>if k'=j then R q0 j / ld else scR R q0 k j q0 k')=vl w (scR R q0 k (j+1) q0):=vl_congr fun k' hk'=>by
      unfold scR
      by_cases e:k'=j
      ·subst e
       rw [if_pos rfl,if_pos ⟨rfl,by omega⟩,hld]
      ·rw [if_neg e]
       by_cases e2:k' < j
       ·rw [if_pos ⟨rfl,e2⟩,if_pos ⟨rfl,by omega⟩]
       ·rw [if_neg (fun h=>e2 h.2),if_neg (fun h=>e2 (by omega))]
     rw [hset2] at hset
     have hfs:setL (fam 1 n (famQ w (scR R q0 k j))) q ⟨54,qrow (vl w (scR R q0 k (j+1) q0))⟩=fam 1 n (famQ w (scR R q0 k (j+1))):=famQ_set (Y:=scR R q0 k (j+1)) hq hqn fun b j' hb hj'=>by
      unfold scR
      by_cases e:b=q0
      ·rw [e,if_pos rfl]
      ·rw [if_neg e,if_neg (fun h=>e h.1),if_neg (fun h=>e h.1)]
     have cd:PCall Tryz.prog 166 [.agg [.b (decide (((R q0 j)).num<0)),dg (digits ((R q0 j)).num.natAbs),dg (digits ((R q0 j)).den)],.agg [.b (decide ((ld).num<0)),dg (digits (ld).num.natAbs),dg (digits (ld).den)]] (.tup [.agg [.b (decide (((R q0 j / ld)).num<0)),dg (digits ((R q0 j / ld)).num.natAbs),dg (digits ((R q0 j / ld)).den)],.i .i64 0]) []:=by
      have:=pdiv_ok (IsQ.of (hrL q0 j hqn h5)) (IsQ.of (hld ▸ hrL q0 k hqn hkw)) hB1 (by omega)
      unfold qdivV at this
      rw [if_neg p3] at this
      exact this
     generalize R q0 j / ld=y1 at *
     generalize R q0 j=y2 at *
     refine AX.sR (rgAV [0,1,5,6,7,8,9,11,83,84,85]) ?_
     refine AX.seq ?_
     refine AX.condT ?_
     refine AX.keepA [0,1,5,6,7,8,9,11,83,84] ?_
     refine AX.skip ?_
     refine nmZ ?_
     refine AX.seq ?_
     refine AX.block ?_
     refine AX.sR (rgAV [0,1,5,6,7,8,9,11,12,83,84]) ?_
     refine AX.rD (rgDWV [0,1,5,6,7,8,9,11,83,84] (aI ol2 (aI og2k (aI hlq (aI ln (aI gt (aI c0 (aI c1 (aI c2 (aI c3 (aI c4 (aI d0 (aI d1 (aI d2 (aI d3 (aI d4 oT))))))))))))))) (aI cd oT) (hok:=okDraw_of (by kernel_rfl))) ?_
     refine nmZ ?_
     rw [hset,hfs]
     refine AX.rR (rgWV [0,1,5,6,7,8,9,11,83,84] (aI @lit_add oT) oT) ?_
     refine nmZ ?_
     refine ⟨_,_,id,?_,
      (leG5
       (leQ8H (And.intro hlt14 og2l4))
       (by show _+1≤104;omega) (by omega) (fam_at5 hn)),⟨j+1,by omega,rfl,rfl⟩⟩
     omega
    ·obtain rfl:w=j:=by omega
     have ee0:fam 1 n (famQ w (scR R q0 k w))=fam 1 n (famQ w (elR R t2 q0 k 0 0)):=famQ_congr fun b j' hb hj'=>by
      unfold scR elR
      by_cases e:b=q0
      ·rw [if_pos ⟨e,hj'⟩,if_pos e]
      ·rw [if_neg (fun h=>e h.1),if_neg e,if_neg (fun h=>by omega)]
     refine AX.sR (rgAV [0,1,5,6,7,8,9,11,83,84,85]) ?_
     refine AX.seq ?_
     refine AX.condF ?_
     refine AX.exit ?_
     refine nmZ ?_
     rw [ee0]
     refine AX.seq ?_
     refine AX.sR (rgWV [0,1,5,6,7,8,9,107,108] (aI @ol2 oT) oT) ?_
     refine AX.weaken id (st':=⟨[(108,.i .i64 (0:Nat)),(107,.i .i64 n),(9,.i .i64 k),(8,.i .i64 k),(7,.own 102 0 n 1),(6,.ptr 101 0),(5,.ptr 100 0),(1,.i .i64 n),(0,.own 0 0 n 1)],(102,⟨3,tk1⟩) :: (101,⟨54,[.b (decide ((D2).num<0)),dg (digits (D2).num.natAbs),dg (digits (D2).den)]⟩) :: (100,⟨54,[.b false,.nl,.nl]⟩) :: (0,⟨39,og2⟩) :: fam 1 n (famQ w (elR R t2 q0 k 0 0)),103⟩)
      (leG4
       (leQ8H (And.intro hlt1 og2lt))
       (by show _+1≤103;omega) (by omega) (fam_at5 hn))
      ?_
     clear ee0 es0
     refine AX.block ?_
     refine AX.loop (fun N st=>∃ i:Nat,i≤n∧N=n-i∧st=⟨[(108,.i .i64 i),(107,.i .i64 n),(9,.i .i64 k),(8,.i .i64 k),(7,.own 102 0 n 1),(6,.ptr 101 0),(5,.ptr 100 0),(1,.i .i64 n),(0,.own 0 0 n 1)],(102,⟨3,tk1⟩) :: (101,⟨54,[.b (decide ((D2).num<0)),dg (digits (D2).num.natAbs),dg (digits (D2).den)]⟩) :: (100,⟨54,[.b false,.nl,.nl]⟩) :: (0,⟨39,og2⟩) :: fam 1 n (famQ w (elR R t2 q0 k i 0)),103⟩) n ⟨0,Nat.zero_le _,rfl,rfl⟩ ?_
     rintro N st ⟨i,hi,rfl,rfl⟩
     by_cases h6:i<n
     ·have hsi:=(hts i h6).1
      have htsi:=(hts i h6).2
      have hskip:(s2 i=q0∨R (s2 i) k=0)→fam 1 n (famQ w (elR R t2 q0 k i 0))=fam 1 n (famQ w (elR R t2 q0 k (i+1) 0)):=fun hc=>famQ_congr fun b j' hb hj'=>by
       unfold elR
       by_cases e:b=q0
       ·rw [if_pos e,if_pos e]
       ·rw [if_neg e,if_neg e]
        by_cases e2:t2 b=i
        ·have e3:b=s2 i:=by rw [← e2];exact (hst b hb).2.symm
         have e4:R b k=0:=by
          rcases hc with h | h
          ·exact absurd (e3.trans h) e
          ·rw [e3];exact h
         rw [if_neg (by omega),if_pos (by omega),e4,Rat.zero_mul]
         grind
        ·by_cases e5:t2 b<i
         ·rw [if_pos (by omega),if_pos (by omega)]
         ·rw [if_neg (by omega),if_neg (by omega)]
      by_cases h7:i=k
      ·have hfe:=hskip (.inl (by rw [h7];exact hsq))
       have hik:(i:Int)=(k:Int):=by omega
       rw [hfe]
       refine AX.sR (rgAV [0,1,5,6,7,8,9,107,108,109]) ?_
       refine AX.seq ?_
       refine AX.condT ?_
       refine AX.keepA [0,1,5,6,7,8,9,107,108] ?_
       refine AX.skip ?_
       refine nmZ ?_
       refine AX.seq ?_
       refine AX.block ?_
       refine AX.sR (rgAV [0,1,5,6,7,8,9,13,107,108]) ?_
       refine AX.seq ?_
       refine AX.sR (rgWV [0,1,5,6,7,8,9,13,107,108,124] (aI @hik oT) oT) ?_
       refine AX.condT ?_
       refine AX.exit ?_
       refine nmZ ?_
       refine AX.rR (rgWV [0,1,5,6,7,8,9,107,108] (aI @lit_add oT) oT) ?_
       refine nmZ ?_
       refine ⟨_,_,id,?_,
        (leG4
         (leQ8H (And.intro hlt1 og2lt))
         (by show _+1≤103;omega) (by omega) (fam_at4 hn)),⟨i+1,by omega,rfl,rfl⟩⟩
       omega
      ·have hik:¬ (i:Int)=(k:Int):=by omega
       have hnq:s2 i≠q0:=fun e=>h7 (by rw [← htsi,e,htq])
       have ogi:=og2g i h6
       obtain ⟨⟨x0,x1,x2,x3,x4⟩,y0,y1,y2,y3,y4⟩:=pne (p:=1+s2 i) (by omega) (by omega)
       have hlp:lkp (fam 1 n (famQ w (elR R t2 q0 k i 0))) (1+s2 i)=some ⟨54,qrow (vl w (elR R t2 q0 k i 0 (s2 i)))⟩:=lkp_fam (famQ w (elR R t2 q0 k i 0)) hsi
       have lnp:=vl_len3 w (elR R t2 q0 k i 0 (s2 i))
       have gtp:=vl_get3 (elR R t2 q0 k i 0 (s2 i)) hkw
       have ev:elR R t2 q0 k i 0 (s2 i) k=R (s2 i) k:=by
        unfold elR
        rw [if_neg hnq,if_neg (by omega)]
       rw [ev] at gtp
       have cs:PCall Tryz.prog 34 [.agg [.b (decide (((R (s2 i) k)).num<0)),dg (digits ((R (s2 i) k)).num.natAbs),dg (digits ((R (s2 i) k)).den)]] (.i .i64 (sgnR (R (s2 i) k))) []:=psign_ok (IsQ.of (hrL _ k hsi hkw)) (by omega)
       obtain ⟨p9,hp9⟩:∃ x,1+s2 i=x:=⟨_,rfl⟩
       rw [hp9] at ogi x0 x1 x2 x3 x4 y0 y1 y2 y3 y4 hlp
       by_cases h8:R (s2 i) k=0
       ·have hfe:=hskip (.inr h8)
        have hz:=sgnR_eq_zero.2 h8
        rw [hz] at cs
        clear hskip
        generalize R (s2 i) k=qq at *
        refine AX.sR (rgAV [0,1,5,6,7,8,9,107,108,109]) ?_
        refine AX.seq ?_
        refine AX.condT ?_
        refine AX.keepA [0,1,5,6,7,8,9,107,108] ?_
        refine AX.skip ?_
        refine nmZ ?_
        refine AX.seq ?_
        refine AX.block ?_
        refine AX.sR (rgAV [0,1,5,6,7,8,9,13,107,108]) ?_
        refine AX.seq ?_
        refine AX.sR (rgWV [0,1,5,6,7,8,9,13,107,108,124] (aI @hik (aI @ol2 (aI @ogi (aI @hlp (aI @lnp (aI @gtp (aI @x0 (aI @x1 (aI @x2 (aI @x3 (aI @x4 oT))))))))))) (aI cs oT)) ?_
        refine AX.condT ?_
        refine AX.exit ?_
        refine nmZ ?_
        rw [hfe]
        refine AX.rR (rgWV [0,1,5,6,7,8,9,107,108] (aI @lit_add oT) oT) ?_
        refine nmZ ?_
        refine ⟨_,_,id,?_,
         (leG4
          (leQ8H (And.intro hlt1 og2lt))
          (by show _+1≤103;omega) (by omega) (fam_at4 hn)),⟨i+1,by omega,rfl,rfl⟩⟩
        omega
       ·have hz:¬ sgnR (R (s2 i) k)=0:=fun e=>h8 (sgnR_eq_zero.1 e)
        clear hskip
        obtain ⟨qq,hqq⟩:∃ x,R (s2 i) k=x:=⟨_,rfl⟩
        rw [hqq] at hz cs gtp ev
        refine AX.sR (rgAV [0,1,5,6,7,8,9,107,108,109]) ?_
        refine AX.seq ?_
        refine AX.condT ?_
        refine AX.keepA [0,1,5,6,7,8,9,107,108] ?_
        refine AX.skip ?_
        refine nmZ ?_
        refine AX.seq ?_
        refine AX.block ?_
        refine AX.sR (rgAV [0,1,5,6,7,8,9,13,107,108]) ?_
        refine AX.seq ?_
        refine AX.sR (rgWV [0,1,5,6,7,8,9,13,107,108,124] (aI @hik (aI @ol2 (aI @ogi (aI @hlp (aI @lnp (aI @gtp (aI @x0 (aI @x1 (aI @x2 (aI @x3 (aI @x4 (aI @hz oT)))))))))))) (aI cs oT)) ?_
        refine AX.condF ?_
        refine AX.keepA [0,1,5,6,7,8,9,13,107,108] ?_
        refine AX.skip ?_
        refine nmZ ?_
        refine AX.sR (rgWV [0,1,5,6,7,8,9,13,14,107,108] (aI @ol2 (aI @ogi (aI @hlp (aI @lnp (aI @gtp (aI @x0 (aI @x1 (aI @x2 (aI @x3 (aI @x4 oT)))))))))) oT) ?_
        refine AX.sR (rgWV [0,1,5,6,7,8,9,13,14,107,108,136,137] (aI @ol2 (aI @ogi (aI @x0 (aI @x1 (aI @x2 (aI @x3 (aI @x4 oT))))))) oT) ?_
        clear hlp lnp gtp cs hz ev
        refine AX.block ?_
        refine AX.loop (fun N st=>∃ j:Nat,j≤w∧N=w-j∧st=⟨[(137,.i .i64 j),(136,.i .i64 w),(14,.ptr 103 0),(13,.i .i64 i),(108,.i .i64 i),(107,.i .i64 n),(9,.i .i64 k),(8,.i .i64 k),(7,.own 102 0 n 1),(6,.ptr 101 0),(5,.ptr 100 0),(1,.i .i64 n),(0,.own 0 0 n 1)],(103,⟨54,[.b (decide ((qq).num<0)),dg (digits (qq).num.natAbs),dg (digits (qq).den)]⟩) :: (102,⟨3,tk1⟩) :: (101,⟨54,[.b (decide ((D2).num<0)),dg (digits (D2).num.natAbs),dg (digits (D2).den)]⟩) :: (100,⟨54,[.b false,.nl,.nl]⟩) :: (0,⟨39,og2⟩) :: fam 1 n (famQ w (elR R t2 q0 k i j)),104⟩) w ⟨0,Nat.zero_le _,rfl,rfl⟩ ?_
        rintro N st ⟨j,hj,rfl,rfl⟩
        by_cases h9:j<w
        ·have hlp:lkp (fam 1 n (famQ w (elR R t2 q0 k i j))) (1+s2 i)=some ⟨54,qrow (vl w (elR R t2 q0 k i j (s2 i)))⟩:=lkp_fam (famQ w (elR R t2 q0 k i j)) hsi
         have hlq:lkp (fam 1 n (famQ w (elR R t2 q0 k i j))) (1+q0)=some ⟨54,qrow (vl w (elR R t2 q0 k i j q0))⟩:=lkp_fam (famQ w (elR R t2 q0 k i j)) hqn
         have lnp:=vl_len3 w (elR R t2 q0 k i j (s2 i))
         have lnq:=vl_len3 w (elR R t2 q0 k i j q0)
         have gtp:=vl_get3 (elR R t2 q0 k i j (s2 i)) h9
         have gtq:=vl_get3 (elR R t2 q0 k i j q0) h9
         have ev:elR R t2 q0 k i j (s2 i) j=R (s2 i) j:=by
          unfold elR
          rw [if_neg hnq,if_neg (by omega)]
         have evq:elR R t2 q0 k i j q0 j=R q0 j / R q0 k:=if_pos rfl
         rw [ev] at gtp
         rw [evq] at gtq
         rw [hp9] at hlp
         rw [hq] at hlq
         have g1:=rL_div (R q0 j) (R q0 k) (hrL q0 j hqn h9) (hrL q0 k hqn hkw) (by omega)
         have g2:=rL_mul qq _ (hqq ▸ hrL (s2 i) k hsi hkw) g1 (by omega)
         have cm:PCall Tryz.prog 165 [.agg [.b (decide ((qq).num<0)),dg (digits (qq).num.natAbs),dg (digits (qq).den)],.agg [.b (decide (((R q0 j / R q0 k)).num<0)),dg (digits ((R q0 j / R q0 k)).num.natAbs),dg (digits ((R q0 j / R q0 k)).den)]] (.agg [.b (decide (((qq*(R q0 j / R q0 k))).num<0)),dg (digits ((qq*(R q0 j / R q0 k))).num.natAbs),dg (digits ((qq*(R q0 j / R q0 k))).den)]) []:=pmul_ok (L:=2*B) (IsQ.of (Nat.le_trans (hqq ▸ hrL (s2 i) k hsi hkw) (by omega))) (IsQ.of (by omega)) (by omega) (by omega)
         have cb:PCall Tryz.prog 73 [.agg [.b (decide (((R (s2 i) j)).num<0)),dg (digits ((R (s2 i) j)).num.natAbs),dg (digits ((R (s2 i) j)).den)],.agg [.b (decide (((qq*(R q0 j / R q0 k))).num<0)),dg (digits ((qq*(R q0 j / R q0 k))).num.natAbs),dg (digits ((qq*(R q0 j / R q0 k))).den)]] (.agg [.b (decide (((R (s2 i) j-qq*(R q0 j / R q0 k))).num<0)),dg (digits ((R (s2 i) j-qq*(R q0 j / R q0 k))).num.natAbs),dg (digits ((R (s2 i) j-qq*(R q0 j / R q0 k))).den)]) []:=psub_ok (L:=3*B) (IsQ.of (Nat.le_trans (hrL (s2 i) j hsi h9) (by omega))) (IsQ.of (by omega)) (by omega) (by omega)
         have hset:=vl_set3 (elR R t2 q0 k i j (s2 i)) (R (s2 i) j-qq*(R q0 j / R q0 k)) h9
         have hset2:(vl w fun k'=>if k'=j then R (s2 i) j-qq*(R q0 j / R q0 k) else elR R t2 q0 k i j (s2 i) k')=vl w (elR R t2 q0 k i (j+1) (s2 i)):=vl_congr fun k' hk'=>by
          unfold elR
          rw [if_neg hnq,if_neg hnq]
          by_cases e:k'=j
          ·rw [if_pos e,if_pos (by omega),hqq,e]
          ·rw [if_neg e]
           by_cases e2:k' < j
           ·rw [if_pos (by omega),if_pos (by omega)]
           ·rw [if_neg (by omega),if_neg (by omega)]
         rw [hset2] at hset
         have hfs:setL (fam 1 n (famQ w (elR R t2 q0 k i j))) p9 ⟨54,qrow (vl w (elR R t2 q0 k i (j+1) (s2 i)))⟩=fam 1 n (famQ w (elR R t2 q0 k i (j+1))):=famQ_set (Y:=elR R t2 q0 k i (j+1)) hp9 hsi fun b j' hb hj'=>by
          by_cases e:b=s2 i
          ·rw [e,if_pos rfl]
          ·rw [if_neg e]
           unfold elR
           have e2:t2 b≠i:=fun h=>e (by rw [← h];exact (hst b hb).2.symm)
           by_cases e3:b=q0
           ·rw [if_pos e3,if_pos e3]
           ·rw [if_neg e3,if_neg e3]
            by_cases e5:t2 b<i
            ·rw [if_pos (by omega),if_pos (by omega)]
            ·rw [if_neg (by omega),if_neg (by omega)]
         clear hset2 ev evq g1 g2
         generalize R (s2 i) j-qq*(R q0 j / R q0 k)=z1 at *
         generalize qq*(R q0 j / R q0 k)=z2 at *
         generalize R q0 j / R q0 k=z3 at *
         generalize R (s2 i) j=z4 at *
         refine AX.sR (rgAV [0,1,5,6,7,8,9,13,14,107,108,136,137,138]) ?_
         refine AX.seq ?_
         refine AX.condT ?_
         refine AX.keepA [0,1,5,6,7,8,9,13,14,107,108,136,137] ?_
         refine AX.skip ?_
         refine nmZ ?_
         refine AX.seq ?_
         refine AX.block ?_
         refine AX.sR (rgAV [0,1,5,6,7,8,9,13,14,15,107,108,136,137]) ?_
         refine AX.rD (rgDWV [0,1,5,6,7,8,9,13,14,107,108,136,137] (aI ol2 (aI ogi (aI og2k (aI hlp (aI hlq (aI lnp (aI lnq (aI gtp (aI gtq (aI c0 (aI c1 (aI c2 (aI c3 (aI c4 (aI x0 (aI x1 (aI x2 (aI x3 (aI x4 (aI y0 (aI y1 (aI y2 (aI y3 (aI y4 oT)))))))))))))))))))))))) (aI cm (aI cb oT)) (hok:=okDraw_of (by kernel_rfl))) ?_
         refine nmZ ?_
         rw [hset,hfs]
         refine AX.rR (rgWV [0,1,5,6,7,8,9,13,14,107,108,136,137] (aI @lit_add oT) oT) ?_
         refine nmZ ?_
         refine ⟨_,_,id,?_,
          (leG5
           (leQ8H (And.intro hlt14 og2l4))
           (by show _+1≤104;omega) (by omega) (fam_at5 hn)),⟨j+1,by omega,rfl,rfl⟩⟩
         omega
        ·obtain rfl:w=j:=by omega
         have hfe:fam 1 n (famQ w (elR R t2 q0 k i w))=fam 1 n (famQ w (elR R t2 q0 k (i+1) 0)):=famQ_congr fun b j' hb hj'=>by
          unfold elR
          by_cases e:b=q0
          ·rw [if_pos e,if_pos e]
          ·rw [if_neg e,if_neg e]
           by_cases e5:t2 b<i+1
           ·rw [if_pos (by omega),if_pos (by omega)]
           ·rw [if_neg (by omega),if_neg (by omega)]
         refine AX.sR (rgAV [0,1,5,6,7,8,9,13,14,107,108,136,137,138]) ?_
         refine AX.seq ?_
         refine AX.condF ?_
         refine AX.exit ?_
         refine nmZ ?_
         rw [hfe]
         refine AX.rR (rgWV [0,1,5,6,7,8,9,107,108] (aI @lit_add oT) oT) ?_
         refine nmZ ?_
         refine ⟨_,_,id,?_,
          (leG4
           (leQ8H (And.intro hlt1 og2lt))
           (by show _+1≤103;omega) (by omega) (fam_at5 hn)),⟨i+1,by omega,rfl,rfl⟩⟩
         omega
     ·obtain rfl:n=i:=by omega
      have hfe:fam 1 n (famQ w (elR R t2 q0 k n 0))=fam 1 n (famQ w (elimG q0 k R)):=famQ_congr fun b j' hb hj'=>by
       unfold elR elimG
       by_cases e:b=q0
       ·rw [if_pos e,if_pos e]
       ·rw [if_neg e,if_neg e,if_pos (by have:=(hst b hb).1;omega)]
      have htl1:tk1.length=n:=by rw [← htk1,List.length_set];exact htl
      refine AX.sR (rgAV [0,1,5,6,7,8,9,107,108,109]) ?_
      refine AX.seq ?_
      refine AX.condF ?_
      refine AX.exit ?_
      refine nmZ ?_
      rw [hfe]
      refine AX.sR (rgWV [0,1,5,6,7,8,9] (aI @htl1 oT) oT) ?_
      refine AX.rR (rgWV [0,1,5,6,7,8,9] (aI @lit_add oT) oT) ?_
      refine nmZ ?_
      refine AX.rR (rgWV [0,1,5,6,7,8,9] (aI @lit_add oT) oT) ?_
      refine nmZ ?_
      rw [htn]
      refine ⟨_,⟨[(9,.i .i64 ((k+1:Nat):Int)),(8,.i .i64 ((k+1:Nat):Int)),(7,.own 102 0 n 1),(6,.ptr 101 0),(5,.ptr 100 0),(1,.i .i64 n),(0,.own 0 0 n 1)],(102,⟨3,tkL n (k+1)⟩) :: (101,⟨54,[.b (decide ((e2.D).num<0)),dg (digits (e2.D).num.natAbs),dg (digits (e2.D).den)]⟩) :: (100,⟨54,[.b false,.nl,.nl]⟩) :: (0,⟨39,gl n fun i=>.own (1+e2.s i) 0 w 3⟩) :: fam 1 n (famQ w (e2.R)),103⟩,id,?_,?_,⟨k+1,by omega,rfl,by rw [he2]⟩⟩
      ·omega
      ·have hltk:=lt_tk 103 n (k+1)
       refine hgo (fun x=>Le (n+1) id ⟨[(9,.i .i64 ((k+1:Nat):Int)),(8,.i .i64 ((k+1:Nat):Int)),(7,.own 102 0 n 1),(6,.ptr 101 0),(5,.ptr 100 0),(1,.i .i64 n),(0,.own 0 0 n 1)],(102,⟨3,tkL n (k+1)⟩) :: (101,⟨54,[.b (decide ((x.D).num<0)),dg (digits (x.D).num.natAbs),dg (digits (x.D).den)]⟩) :: (100,⟨54,[.b false,.nl,.nl]⟩) :: (0,⟨39,gl n fun i=>.own (1+x.s i) 0 w 3⟩) :: fam 1 n (famQ w (x.R)),103⟩ _) ?_
       show Le (n+1) id ⟨[(9,.i .i64 ((k+1:Nat):Int)),(8,.i .i64 ((k+1:Nat):Int)),(7,.own 102 0 n 1),(6,.ptr 101 0),(5,.ptr 100 0),(1,.i .i64 n),(0,.own 0 0 n 1)],(102,⟨3,tkL n (k+1)⟩) :: (101,⟨54,[.b (decide (((D1*R q0 k)).num<0)),dg (digits ((D1*R q0 k)).num.natAbs),dg (digits ((D1*R q0 k)).den)]⟩) :: (100,⟨54,[.b false,.nl,.nl]⟩) :: (0,⟨39,gl n fun i=>.own (1+s2 i) 0 w 3⟩) :: fam 1 n (famQ w (elimG q0 k R)),103⟩ _
       rw [hog2,hld,hD2]
       exact leG4
        (leQ8H (And.intro hltk og2lt))
        (by omega) (by omega) (fam_at4 hn)
 ·obtain rfl:n=k:=by omega
  have ok:=hok n (Nat.le_refl n)
  obtain ⟨g,hg⟩:∃ x,gj n A n=x:=⟨_,rfl⟩
  rw [hg] at ok ⊢
  obtain ⟨R,s,t,D⟩:=g
  have hs:∀ i,i<n→s i<n:=fun i hi=>(ok.s i hi).1
  have htf:(tkL n n).all V.flat=true:=tk_flat n n
  have hth:V.hfL (tkL n n)=true:=tk_hf n n
  have htl:=tkL_len n n
  refine AX.sR (rgAV [0,1,5,6,7,8,9,21]) ?_
  refine AX.condF ?_
  refine AX.exit ?_
  refine nmZ ?_
  refine AX.fz 102 (fr':=[(7,.sl (tkL n n)),(6,.ptr 101 0),(5,.ptr 100 0)]) (hp':=(101,⟨54,[.b (decide ((D).num<0)),dg (digits (D).num.natAbs),dg (digits (D).den)]⟩) :: (100,⟨54,[.b false,.nl,.nl]⟩) :: (0,⟨39,gl n fun i=>.own (1+s i) 0 w 3⟩) :: fam 1 n (famQ w (R))) rfl hth
   (.cons rfl (.own (by
    have e:List.take n (tkL n n)=tkL n n:=List.take_of_length_le (by omega)
    unfold okFrz
    rw [List.drop_zero,Nat.mul_one,e,htf,hth,htl]
    simp) (by
    show chunks 1 n (List.take (n*1) (List.drop 0 (tkL n n)))=_
    rw [Nat.mul_one,List.drop_zero,List.take_of_length_le (by omega)]
    exact if_pos rfl)) (.cons rfl .same (.cons rfl .same .nil)))
   (.cons (by decide) rfl rfl rfl (fun k hk=>.same) (.cons (by decide) rfl rfl rfl (fun k hk=>.same) (.cons (by decide) rfl rfl rfl (fun k hk=>.same) (fzHp_rows _ _ fun a ha=>?_)))) ?_
  ·rw [List.length_map,List.length_range] at ha
   refine ⟨by omega,?_⟩
   rw [range_getD _ ha]
   exact fam_at4 hn a ha
  refine AX.sD (rgDAV [4,5]) ?_
  refine AX.ret ⟨.inl rfl,?_⟩
  refine ⟨[.sl (tkL n n),.agg [.b (decide ((D).num<0)),dg (digits (D).num.natAbs),dg (digits (D).den)]],by simp only [resVs,resV,lkp,lay_ratio,Nat.reduceEqDiff,reduceIte,Array.toList];rfl,rfl,by simp [V.lt,V.ltL,rV,rR,dg,ltL_u],by simp [V.ren,rV,dg,renL_u,renL_id],fun a ha=>?_⟩
  cases a with
  | zero=>exact ⟨rfl,og_lt fun i hi=>by have:=hs i hi;simp;omega,renL_id _⟩
  | succ a=>
   have ha':a<n:=by simpa using ha
   rw [List.getD_cons_succ,range_getD _ ha']
   refine ⟨?_,famQ_lt _ _ _ _,renL_id _⟩
   rw [Nat.add_comm,lkp_ne (by omega),lkp_ne (by omega),lkp_ne (by omega)]
   exact lkp_fam _ ha'
end Go.Proofs.YteidabibgjokkaaGreatDoor
