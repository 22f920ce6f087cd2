import Derived.Test.YteidabibgjokkaaGreatDoorHI
import Derived.Test.YteidabibgjokkaaGreatDoorGB
import Derived.Test.YteidabibgjokkaaGreatDoorHC
set_option maxRecDepth 20000
set_option linter.all false
namespace Go.Proofs.YteidabibgjokkaaGreatDoor
open Go Go.Proofs.YteidabibgjokkaaGreatDoor.Lift
attribute [local irreducible] Lift.PCall Lift.HCall
inductive To (n:Nat) (A:Mx) (i:Nat):Nat→Prop
 | self:i<n→To n A i i
 | move {a b:Nat}:To n A i a→b<n→0<A a b→To n A i b
theorem To.lt {n:Nat} {A:Mx} {i k:Nat} (h:To n A i k):k<n:=by
 cases h<;>assumption
noncomputable def toB (n:Nat) (A:Mx) (i k:Nat):Bool:=@decide (To n A i k) (Classical.propDecidable _)
theorem toB_iff {n:Nat} {A:Mx} {i k:Nat}:toB n A i k=true↔To n A i k:=by
 unfold toB
 exact @decide_eq_true_iff _ (Classical.propDecidable _)
theorem To.trans {n:Nat} {A:Mx} {i k:Nat} (h:To n A i k) {j:Nat} (h':To n A k j):To n A i j:=by
 induction h' with
 | self _=>exact h
 | move _ h2 h3 ih=>exact .move ih h2 h3
structure FndT (n:Nat) (A:Mx) (i:Nat) (f:Nat→Bool):Prop where
 self:f i=true
 sound:∀ k,k<n→f k=true→To n A i k
theorem FndT.fin {n:Nat} {A:Mx} {i:Nat} {f:Nat→Bool} (h:FndT n A i f)(hcl:∀ a b,a<n→b<n→f a=true→0<A a b→f b=true):∀ k,k<n→f k=toB n A i k:=by
 intro k hk
 have hall:∀ k,To n A i k→f k=true:=by
  intro k hr
  induction hr with
  | self _=>exact h.self
  | move h1 h2 h3 ih=>exact hcl _ _ h1.lt h2 ih h3
 cases hf:f k
 ·cases hr:toB n A i k
  ·rfl
  ·rw [hall k (toB_iff.1 hr)] at hf
   cases hf
 ·exact (toB_iff.2 (h.sound k hk hf)).symm
theorem FndT.one {n:Nat} {A:Mx} {i:Nat} (hi:i<n):FndT n A i (updB (fun _=>false) i true):=by
 refine ⟨if_pos rfl,fun k hk h=>?_⟩
 unfold updB at h
 split at h
 ·rename_i e
  subst e
  exact .self hi
 ·cases h
theorem FndT.more {n:Nat} {A:Mx} {i:Nat} {f:Nat→Bool} (h:FndT n A i f) {a b:Nat} (ha:a<n)(hfa:f a=true)(hb:b<n)(hab:0<A a b):FndT n A i (updB f b true):=by
 refine ⟨?_,fun k hk hf=>?_⟩
 ·unfold updB
  split
  ·rfl
  ·exact h.self
 ·unfold updB at hf
  split at hf
  ·rename_i e
   subst e
   exact .move (h.sound a ha hfa) hb hab
  ·exact h.sound k hk hf
theorem lay_bools:lay Tryz.prog 66=some ⟨1,false,24,[.nl]⟩:=by kernel_rfl
attribute [go_sem] Tryz.underlying171 lay_bools
def bll (n:Nat) (F:Nat→Nat→Bool):List V:=gl n fun j=>.sl (bl n (F j))
def wr (h n i:Nat) (b:Bool) (F:Nat→Nat→Bool):List V:=gl n fun j=>if j<i then .sl (bl n (F j)) else if j=i∧b=true then .own h 0 n 1 else .nl
theorem bll_length (n:Nat)(F:Nat→Nat→Bool):(bll n F).length=n:=gl_length ..
theorem bll_get {n i:Nat} (F:Nat→Nat→Bool)(h:i<n):(bll n F).getD i .junk=.sl (bl n (F i)):=gl_get _ h
theorem wr_length (h n i:Nat)(b:Bool)(F:Nat→Nat→Bool):(wr h n i b F).length=n:=gl_length ..
theorem wr_zero (h n:Nat)(F:Nat→Nat→Bool):List.replicate n V.nl=wr h n 0 false F:=by
 rw [gl_rep]
 refine gl_congr fun i hi=>?_
 rw [if_neg (Nat.not_lt_zero _),if_neg (fun h=>by cases h.2)]
theorem wr_open {h n i:Nat} (F:Nat→Nat→Bool)(hi:i<n):(wr h n i false F).set i (.own h 0 n 1)=wr h n i true F:=by
 unfold wr
 rw [gl_set _ _ hi]
 refine gl_congr fun j hj=>?_
 unfold updG
 by_cases e:j=i
 ·subst e
  rw [if_pos rfl,if_neg (Nat.lt_irrefl _),if_pos ⟨rfl,rfl⟩]
 ·rw [if_neg e]
  simp only [e,false_and,if_false]
theorem wr_get {h n i:Nat} (F:Nat→Nat→Bool)(hi:i<n):(wr h n i true F).getD i .junk=.own h 0 n 1:=by
 unfold wr
 rw [gl_get _ hi,if_neg (Nat.lt_irrefl _),if_pos ⟨rfl,rfl⟩]
theorem wr_full (h n:Nat)(F:Nat→Nat→Bool):wr h n n false F=bll n F:=gl_congr fun j hj=>if_pos hj
theorem lt_wr {h k n i:Nat} {b:Bool} {F:Nat→Nat→Bool} (hk:h<k):V.ltL k (wr h n i b F)=true:=ltL_gl fun j=>by
 split
 ·simp only [V.lt]
 ·split
  ·simp only [V.lt,hk,decide_true]
  ·simp only [V.lt]
theorem renL_gl {f:Nat→Nat} {n:Nat} {G:Nat→V} (h:∀ i,(G i).ren f=G i):V.renL f (gl n G)=gl n G:=by
 unfold gl
 generalize List.range n=l
 induction l with
 | nil=>rfl
 | cons a l ih=>simp only [List.map_cons,V.renL,ih,h a]
theorem ren_wr {g:Nat→Nat} {h n i:Nat} {b:Bool} {F:Nat→Nat→Bool} (hg:g h=h):V.renL g (wr h n i b F)=wr h n i b F:=renL_gl fun j=>by
 split
 ·simp only [V.ren]
 ·split
  ·simp only [V.ren,hg]
  ·simp only [V.ren]
theorem ren_wr0 {g:Nat→Nat} {h n i:Nat} {F:Nat→Nat→Bool}:V.renL g (wr h n i false F)=wr h n i false F:=renL_gl fun j=>by
 simp only [Bool.false_eq_true,and_false,if_false]
 split<;>simp only [V.ren]
theorem lt_wr0 {h k n i:Nat} {F:Nat→Nat→Bool}:V.ltL k (wr h n i false F)=true:=ltL_gl fun j=>by
 simp only [Bool.false_eq_true,and_false,if_false]
 split<;>simp only [V.lt]
theorem okFrz_bl (n:Nat)(f:Nat→Bool):okFrz 0 n 1 (bl n f)=true:=by
 unfold okFrz
 have e:((bl n f).drop 0).take (n*1)=bl n f:=by rw [List.drop_zero,Nat.mul_one];exact List.take_of_length_le (by rw [bl_length];exact Nat.le_refl _)
 rw [e,(bl_hf n f).1,(bl_hf n f).2,bl_length]
 simp
theorem chunks_bl (n:Nat)(f:Nat→Bool):chunks 1 n (((bl n f).drop 0).take (n*1))=bl n f:=by
 rw [chunks_one,List.drop_zero,Nat.mul_one]
 exact List.take_of_length_le (by rw [bl_length];exact Nat.le_refl _)
theorem wr_fz {h n i:Nat} {f:Nat→Bool} {F:Nat→Nat→Bool} (hf:∀ k,k<n→f k=F i k):∀ k,k<(wr h n (i+1) false F).length→FzV h (bl n f) ((wr h n i true F).getD k .junk) ((wr h n (i+1) false F).getD k .junk):=by
 intro k hk
 rw [wr_length] at hk
 unfold wr
 rw [gl_get _ hk,gl_get _ hk]
 by_cases h1:k<i
 ·rw [if_pos h1,if_pos (by omega)]
  exact .same
 ·rw [if_neg h1]
  by_cases h2:k=i
  ·subst h2
   rw [if_pos ⟨rfl,rfl⟩,if_pos (by omega),← bl_congr hf]
   exact .own (okFrz_bl n f) (chunks_bl n f)
  ·rw [if_neg (fun h=>h2 h.1),if_neg (by omega),if_neg (fun h=>by cases h.2)]
   exact .same
theorem bll_hf (n:Nat)(F:Nat→Nat→Bool):V.hfL (bll n F)=true∧(bll n F).all V.flat=true:=hfL_map _ (fun j=>⟨by simp only [V.hf],rfl⟩) _
theorem Lift.Done.slW {P:Program} {st:St} {t:Tmp} {h n:Nat} {F:Nat→Nat→Bool} {T:TypeId} (h1:lkp st.fr t=some (.own h 0 n 1))(h2:lkp st.hp h=some ⟨T,bll n F⟩):Done P #[.tmp t] (.sl (bll n F)) [] st:=by
 have e:List.take n (List.drop 0 (bll n F))=bll n F:=by rw [List.drop_zero];exact List.take_of_length_le (by rw [bll_length];exact Nat.le_refl _)
 refine Done.of (vs:=[.own h 0 n 1]) (hp:=dlt st.hp h) ?_ ?_ rfl ?_ ?_
 ·simp only [resVs,resV,h1]
 ·simp only [packV,frz,h2,List.not_mem_nil,if_false,Nat.mul_one,Nat.zero_add,bll_length,Nat.le_refl,e,(bll_hf n F).1,(bll_hf n F).2,and_self,if_true,Nat.lt_succ_self,Nat.zero_lt_one,true_and,chunks_one]
 ·simp only [V.lt]
 ·simp only [V.ren]
theorem leQ8 {g:Nat} {f:Nat→Nat} {st' st:St} (h1:LeFr f st.fr st'.nx st'.fr:=by simp only [ren_q,renL_u,ren_z,ren_bl,ren_il,renL_id,ren_id,ren_wr,ren_wr0,lt_q,ltL_u,lt_z,lt_bl,lt_il,lt_wr,lt_wr0,LeFr,LeHp,lkp,V.ren,V.renL,Row.ren,V.lt,V.ltL,renL_u,ltL_u,List.length_append,List.length_cons,List.length_nil,List.length_set,id_eq,Option.some.injEq,V.i.injEq,V.b.injEq,V.own.injEq,Row.mk.injEq,decide_true,decide_eq_true_eq,true_and,and_true,Bool.and_true,Bool.true_and,if_true,if_false,and_self,Nat.reduceLT,Nat.reduceLeDiff,Nat.reduceEqDiff,Nat.reduceAdd,Nat.reduceSub,Nat.reduceMul,Nat.reducePow,Nat.reduceBEq,Int.reduceLE,Int.reduceLT,Int.reduceToNat,Int.reduceEq,Int.reduceNeg,↓reduceIte,reduceCtorEq] <;> (first | done | trivial | (and_intros<;>first | trivial | omega | assumption)))
  (h2:LeHp f st.hp st'.nx st'.hp:=by simp only [ren_q,renL_u,ren_z,ren_bl,ren_il,renL_id,ren_id,ren_wr,ren_wr0,lt_q,ltL_u,lt_z,lt_bl,lt_il,lt_wr,lt_wr0,LeFr,LeHp,lkp,V.ren,V.renL,Row.ren,V.lt,V.ltL,renL_u,ltL_u,List.length_append,List.length_cons,List.length_nil,List.length_set,id_eq,Option.some.injEq,V.i.injEq,V.b.injEq,V.own.injEq,Row.mk.injEq,decide_true,decide_eq_true_eq,true_and,and_true,Bool.and_true,Bool.true_and,if_true,if_false,and_self,Nat.reduceLT,Nat.reduceLeDiff,Nat.reduceEqDiff,Nat.reduceAdd,Nat.reduceSub,Nat.reduceMul,Nat.reducePow,Nat.reduceBEq,Int.reduceLE,Int.reduceLT,Int.reduceToNat,Int.reduceEq,Int.reduceNeg,↓reduceIte,reduceCtorEq] <;> (first | done | trivial | (and_intros<;>first | trivial | omega | assumption)))
  (h3:Apart f st'.hp:=by simp [Apart]) (h4:g≤st'.nx:=by first | exact Nat.zero_le _ | simp) (h5:∀ n,n<g→f n=n:=by intro n hn;first | rfl | exact absurd hn (Nat.not_lt_zero _) | (have h0:n=0:=Nat.lt_one_iff.1 hn;subst h0;rfl)):Le g f st' st:=⟨h1,h2,h3,h4,h5⟩
theorem leQ8H {g:Nat} {f:Nat→Nat} {st' st:St} {H:Prop} (hh:H) (h1:H→LeFr f st.fr st'.nx st'.fr:=by intro hh;simp only [ren_q,renL_u,ren_z,ren_bl,ren_il,renL_id,ren_id,ren_wr,ren_wr0,lt_q,ltL_u,lt_z,lt_bl,lt_il,lt_wr,lt_wr0,LeFr,LeHp,lkp,V.ren,V.renL,Row.ren,V.lt,V.ltL,renL_u,ltL_u,List.length_append,List.length_cons,List.length_nil,List.length_set,id_eq,Option.some.injEq,V.i.injEq,V.b.injEq,V.own.injEq,Row.mk.injEq,decide_true,decide_eq_true_eq,true_and,and_true,Bool.and_true,Bool.true_and,if_true,if_false,and_self,Nat.reduceLT,Nat.reduceLeDiff,Nat.reduceEqDiff,Nat.reduceAdd,Nat.reduceSub,Nat.reduceMul,Nat.reducePow,Nat.reduceBEq,Int.reduceLE,Int.reduceLT,Int.reduceToNat,Int.reduceEq,Int.reduceNeg,↓reduceIte,reduceCtorEq] <;> (first | done | trivial | (and_intros<;>first | trivial | omega | rw [hh] | (simp only [hh];done) | assumption)))
  (h2:H→LeHp f st.hp st'.nx st'.hp:=by intro hh;simp only [ren_q,renL_u,ren_z,ren_bl,ren_il,renL_id,ren_id,ren_wr,ren_wr0,lt_q,ltL_u,lt_z,lt_bl,lt_il,lt_wr,lt_wr0,LeFr,LeHp,lkp,V.ren,V.renL,Row.ren,V.lt,V.ltL,renL_u,ltL_u,List.length_append,List.length_cons,List.length_nil,List.length_set,id_eq,Option.some.injEq,V.i.injEq,V.b.injEq,V.own.injEq,Row.mk.injEq,decide_true,decide_eq_true_eq,true_and,and_true,Bool.and_true,Bool.true_and,if_true,if_false,and_self,Nat.reduceLT,Nat.reduceLeDiff,Nat.reduceEqDiff,Nat.reduceAdd,Nat.reduceSub,Nat.reduceMul,Nat.reducePow,Nat.reduceBEq,Int.reduceLE,Int.reduceLT,Int.reduceToNat,Int.reduceEq,Int.reduceNeg,↓reduceIte,reduceCtorEq] <;> (first | done | trivial | (and_intros<;>first | trivial | omega | rw [hh] | (simp only [hh];done) | assumption)))
  (h3:Apart f st'.hp:=by simp [Apart]) (h4:g≤st'.nx:=by first | exact Nat.zero_le _ | simp) (h5:∀ n,n<g→f n=n:=by intro n hn;first | rfl | exact absurd hn (Nat.not_lt_zero _) | (have h0:n=0:=Nat.lt_one_iff.1 hn;subst h0;rfl)):Le g f st' st:=⟨h1 hh,h2 hh,h3,h4,h5⟩
theorem dnQ8 {P:Program} {rs:Array ResultVar} {vs:List V} {r v:V} {st:St} {hp:List (Nat × Row)} (h1:resVs P st rs.toList=some vs:=by simp (disch:=omega) only [resVs,resV,go_sem,i64_of,u32_of,u64_of,Nat.reduceLT,Nat.reduceLeDiff,Nat.reduceEqDiff,Nat.reduceAdd,Nat.reduceSub,Nat.reduceMul,Nat.reducePow,Nat.reduceBEq,Int.reduceLE,Int.reduceLT,Int.reduceToNat,Int.reduceEq,Int.reduceNeg,↓reduceIte,reduceCtorEq];rfl)(h2:frz [] (packV vs) st.hp=some (v,hp):=by simp only [packV,frz,frzL];rfl) (h:v=r:=by rfl)
  (h3:r.lt 0=true:=by simp only [V.lt,V.ltL,ltL_u,lt_q,ltL_u,lt_z,lt_bl,lt_il,lt_wr,lt_wr0];first | done | rfl) (h4:r.ren id=r:=by simp only [V.ren,V.renL,renL_u,ren_q,renL_u,ren_z,ren_bl,ren_il,renL_id,ren_id,ren_wr,ren_wr0];first | done | rfl):Done P rs r [] st:=Lift.Done.of h1 h2 h h3 h4
theorem sgnR_pos {q:Rat}:0<sgnR q↔0<q:=by
 unfold sgnR
 constructor
 ·intro h
  split at h
  ·exact absurd h (by decide)
  ·split at h
   ·exact absurd h (by decide)
   ·rename_i h1 h2
    grind
 ·intro h
  rw [if_neg (by grind),if_neg (by grind)]
  decide
set_option maxHeartbeats 16000000 in
theorem rreach_ok (n m L:Nat) (hn:n≤60) (A B:Mx) (hA:∀ i k,i<n→k<n→rL (A i k)≤L) (hL:L<2 ^ 36) :
  PCall Tryz.prog 143 [cV n m A B] (.sl (bll n (toB n A))) []:=by
 refine PCall.of_ax Tryz.call143 Tryz.func143 rfl (by simp [Tryz.ntmps143]) fun O w=>?_
 simp only [Tryz.ntmps143,Tryz.results143,argFr]
 have cs:∀ i k,i<n→k<n→PCall Tryz.prog 34 [.agg [.b (decide ((A i k).num<0)),dg (digits (A i k).num.natAbs),dg (digits (A i k).den)]] (.i .i64 (sgnR (A i k))) []:=fun i k hi hk=>psign_ok (IsQ.of (hA i k hi hk)) hL
 have ixA:=fun (i j:Nat) (hi:i<n) (hj:j<n)=>fun x y=>effIxM (x:=x) (y:=y) A hi hj rfl
 have hnn:n*n≤60*60:=Nat.mul_le_mul hn hn
 clear hA
 unfold cV
 generalize (mcells n A (n*n)).map rV=Ac at *
 generalize (mcells m B (n*m)).map rV=Bc at *
 refine AX.sR (rgAV [1]) ?_
 refine AX.sR (rgAV [1,3]) ?_
 refine AX.sR (rgAV [1,3,4]) ?_
 refine AX.seq ?_
 refine AX.sR (rgAV [1,3,4,15,16]) ?_
 refine AX.weaken id (st':=⟨[(16,.i .i64 (0:Nat)),(15,.i .i64 n),(4,.own 1 0 n 1),(3,.i .i64 n),(1,.ptr 0 0)],[(1,⟨66,wr 2 n 0 false (toB n A)⟩),(0,⟨48,[.i .i64 n,.i .i64 n,.sl Ac,.i .i64 n,.i .i64 m,.sl Bc]⟩)],2⟩)
  (leQ8H wr_zero)
  ?_
 refine AX.block ?_
 refine AX.loop (fun N st=>∃ i:Nat,i≤n∧N=n-i∧st=⟨[(16,.i .i64 i),(15,.i .i64 n),(4,.own 1 0 n 1),(3,.i .i64 n),(1,.ptr 0 0)],[(1,⟨66,wr 2 n i false (toB n A)⟩),(0,⟨48,[.i .i64 n,.i .i64 n,.sl Ac,.i .i64 n,.i .i64 m,.sl Bc]⟩)],2⟩) n ⟨0,Nat.zero_le _,rfl,rfl⟩ ?_
 rintro N st ⟨i,hi,rfl,rfl⟩
 by_cases h1:i<n
 ·have hwl1:=wr_length 2 n i false (toB n A)
  have hwo:=wr_open (h:=2) (toB n A) h1
  have hwl:=wr_length 2 n i true (toB n A)
  have hwg:=wr_get (h:=2) (toB n A) h1
  have hlt3:V.ltL 3 (wr 2 n i true (toB n A))=true:=lt_wr (by decide)
  have hone:=FndT.one (A:=A) h1
  have hb0:=bl_set (fun _=>false) true h1
  have hfz:=fun (f:Nat→Bool) (hf:∀ k,k<n→f k=toB n A i k)=>wr_fz (h:=2) hf
  obtain ⟨W0,hW0⟩:∃ W0,wr 2 n i false (toB n A)=W0:=⟨_,rfl⟩
  obtain ⟨W1,hW1⟩:∃ W1,wr 2 n i true (toB n A)=W1:=⟨_,rfl⟩
  rw [hW0] at hwl1 hwo ⊢
  rw [hW1] at hwo hwl hwg hlt3 hfz
  generalize updB (fun _=>false) i true=f1 at *
  refine AX.sR (rgAV [1,3,4,15,16,17]) ?_
  refine AX.seq ?_
  refine AX.condT ?_
  refine AX.keepA [1,3,4,15,16] ?_
  refine AX.skip ?_
  refine nmZ ?_
  refine AX.seq ?_
  refine AX.block ?_
  refine AX.sR (rgAV [1,3,4,5,15,16]) ?_
  refine AX.sR (rgWV [1,3,4,5,15,16] (aI @hwl1 oT) oT) ?_
  rw [hwo]
  refine AX.sR (rgWV [1,3,4,5,15,16] (aI @hwl (aI @hwg (aI @bl_zero (aI @bl_length oT)))) oT) ?_
  rw [hb0]
  refine AX.sR (rgAV [1,3,4,5,6,15,16]) ?_
  refine AX.weaken id (st':=⟨[(16,.i .i64 i),(15,.i .i64 n),(6,.b true),(5,.i .i64 i),(4,.own 1 0 n 1),(3,.i .i64 n),(1,.ptr 0 0)],[(2,⟨4,bl n f1⟩),(1,⟨66,W1⟩),(0,⟨48,[.i .i64 n,.i .i64 n,.sl Ac,.i .i64 n,.i .i64 m,.sl Bc]⟩)],3⟩)
   (leQ8H hlt3)
   ?_
  refine AX.block ?_
  refine AX.loop (fun N st=>∃ (f:Nat→Bool) (more:Bool),N=2*cntF n f+(if more=true then 1 else 0)∧FndT n A i f∧(more=false→∀ a b,a<n→b<n→f a=true→0<A a b→f b=true)∧st=⟨[(16,.i .i64 i),(15,.i .i64 n),(6,.b more),(5,.i .i64 i),(4,.own 1 0 n 1),(3,.i .i64 n),(1,.ptr 0 0)],[(2,⟨4,bl n f⟩),(1,⟨66,W1⟩),(0,⟨48,[.i .i64 n,.i .i64 n,.sl Ac,.i .i64 n,.i .i64 m,.sl Bc]⟩)],3⟩) (2*cntF n f1+1) ⟨_,true,rfl,hone,(fun h=>by cases h),rfl⟩ ?_
  clear hone hb0 f1
  rintro N st ⟨f0,more,rfl,hfd0,hcl0,rfl⟩
  cases more
  ·have hfin:=hfd0.fin (hcl0 rfl)
   have hz:=hfz f0 hfin
   refine AX.seq ?_
   refine AX.sR (rgAV [1,3,4,5,15,16,30]) ?_
   refine AX.condF ?_
   refine AX.exit ?_
   refine nmZ ?_
   refine AX.fz 2 (fr':=[(16,.i .i64 i),(15,.i .i64 n),(4,.own 1 0 n 1),(3,.i .i64 n),(1,.ptr 0 0)]) (hp':=[(1,⟨66,wr 2 n (i+1) false (toB n A)⟩),(0,⟨48,[.i .i64 n,.i .i64 n,.sl Ac,.i .i64 n,.i .i64 m,.sl Bc]⟩)]) rfl (bl_hf n f0).1 (.cons rfl .same (.cons rfl .same (.cons rfl .same (.cons rfl .same (.cons rfl .same .nil))))) (.cons (by decide) rfl rfl (by rw [wr_length];exact hwl.symm) hz (.keep (by decide) rfl .nil)) ?_
   clear hz hfz
   have hlt2:V.ltL 2 (wr 2 n (i+1) false (toB n A))=true:=ltL_gl fun j=>by
    split
    ·simp only [V.lt]
    ·rw [if_neg (fun h=>by cases h.2)]
     simp only [V.lt]
   refine AX.rR (rgWV [1,3,4,15,16] (aI @lit_add oT) oT) ?_
   refine nmZ ?_
   refine ⟨_,_,id,?_,
    (leQ8H hlt2)
    , ⟨i+1,by omega,rfl,rfl⟩⟩
   omega
  ·clear hfz
   refine AX.seq ?_
   refine AX.sR (rgAV [1,3,4,5,15,16,30]) ?_
   refine AX.condT ?_
   refine AX.keepA [1,3,4,5,15,16] ?_
   refine AX.skip ?_
   refine nmZ ?_
   refine AX.block ?_
   refine AX.sR (rgAV [1,3,4,5,6,15,16]) ?_
   refine AX.sR (rgAV [1,3,4,5,6,7,15,16]) ?_
   refine AX.weaken id (st':=⟨[(16,.i .i64 i),(15,.i .i64 n),(7,.i .i64 (0:Nat)),(6,.b false),(5,.i .i64 i),(4,.own 1 0 n 1),(3,.i .i64 n),(1,.ptr 0 0)],[(2,⟨4,bl n f0⟩),(1,⟨66,W1⟩),(0,⟨48,[.i .i64 n,.i .i64 n,.sl Ac,.i .i64 n,.i .i64 m,.sl Bc]⟩)],3⟩)
    (leQ8H hlt3)
    ?_
   refine AX.block ?_
   refine AX.loop (fun N st=>∃ (a:Nat) (f:Nat→Bool) (more:Bool),a≤n∧N=n-a∧FndT n A i f∧((more=true∧cntF n f<cntF n f0)∨(more=false∧f=f0∧∀ a' b,a' < n→b<n→a' < a→f a'=true→0<A a' b→f b=true))∧st=⟨[(16,.i .i64 i),(15,.i .i64 n),(7,.i .i64 a),(6,.b more),(5,.i .i64 i),(4,.own 1 0 n 1),(3,.i .i64 n),(1,.ptr 0 0)],[(2,⟨4,bl n f⟩),(1,⟨66,W1⟩),(0,⟨48,[.i .i64 n,.i .i64 n,.sl Ac,.i .i64 n,.i .i64 m,.sl Bc]⟩)],3⟩) n ⟨0,f0,false,Nat.zero_le _,rfl,hfd0,.inr ⟨rfl,rfl,fun a b _ _ h=>absurd h (Nat.not_lt_zero _)⟩,rfl⟩ ?_
   clear hcl0
   rintro N st ⟨a,f,more,ha,rfl,hfd,hP,rfl⟩
   refine AX.seq ?_
   by_cases h2:a<n
   ·refine AX.sR (rgAV [1,3,4,5,6,7,15,16,33]) ?_
    refine AX.condT ?_
    refine AX.keepA [1,3,4,5,6,7,15,16] ?_
    refine AX.skip ?_
    refine nmZ ?_
    refine AX.seq ?_
    refine AX.block ?_
    refine AX.sR (rgAV [1,3,4,5,6,7,8,15,16]) ?_
    refine AX.weaken id (st':=⟨[(16,.i .i64 i),(15,.i .i64 n),(8,.i .i64 (0:Nat)),(7,.i .i64 a),(6,.b more),(5,.i .i64 i),(4,.own 1 0 n 1),(3,.i .i64 n),(1,.ptr 0 0)],[(2,⟨4,bl n f⟩),(1,⟨66,W1⟩),(0,⟨48,[.i .i64 n,.i .i64 n,.sl Ac,.i .i64 n,.i .i64 m,.sl Bc]⟩)],3⟩)
     (leQ8H hlt3)
     ?_
    refine AX.block ?_
    refine AX.loop (fun N st=>∃ (b:Nat) (f:Nat→Bool) (more:Bool),b≤n∧N=n-b∧FndT n A i f∧((more=true∧cntF n f<cntF n f0)∨(more=false∧f=f0∧∀ a' b',a' < n→b' < n→(a' < a∨a'=a∧b' < b)→f a'=true→0<A a' b'→f b'=true))∧st=⟨[(16,.i .i64 i),(15,.i .i64 n),(8,.i .i64 b),(7,.i .i64 a),(6,.b more),(5,.i .i64 i),(4,.own 1 0 n 1),(3,.i .i64 n),(1,.ptr 0 0)],[(2,⟨4,bl n f⟩),(1,⟨66,W1⟩),(0,⟨48,[.i .i64 n,.i .i64 n,.sl Ac,.i .i64 n,.i .i64 m,.sl Bc]⟩)],3⟩) n ⟨0,f,more,Nat.zero_le _,rfl,hfd,hP.imp id (fun h=>⟨h.1,h.2.1,fun a' b h1 h2 h3=>h.2.2 a' b h1 h2 (by omega)⟩),rfl⟩ ?_
    clear hfd hP more f
    rintro N st ⟨b,f,more,hb,rfl,hfd,hP,rfl⟩
    have hl:=bl_length n f
    have hga:=bl_get f h2
    refine AX.seq ?_
    cases hfa:f a
    ·rw [hfa] at hga
     have hs:(more=true∧cntF n f<cntF n f0)∨(more=false∧f=f0∧∀ a' b,a' < n→b<n→a' < a+1→f a'=true→0<A a' b→f b=true):=hP.imp id fun h=>⟨h.1,h.2.1,fun a' b' g1 g2 g3 g4 g5=>by
      by_cases e:a'=a
      ·subst e
       rw [hfa] at g4
       cases g4
      ·exact h.2.2 a' b' g1 g2 (by omega) g4 g5⟩
     refine AX.cut (fun st=>Le 0 id ⟨[(47,.b false),(16,.i .i64 i),(15,.i .i64 n),(8,.i .i64 b),(7,.i .i64 a),(6,.b more),(5,.i .i64 i),(4,.own 1 0 n 1),(3,.i .i64 n),(1,.ptr 0 0)],[(2,⟨4,bl n f⟩),(1,⟨66,W1⟩),(0,⟨48,[.i .i64 n,.i .i64 n,.sl Ac,.i .i64 n,.i .i64 m,.sl Bc]⟩)],3⟩ st) ?_ ?_
     ·by_cases h3:b<n
      ·refine AX.rR (rgWV [1,3,4,5,6,7,8,15,16,47] (aI @hwl (aI @hwg (aI @hl (aI @hga oT)))) oT) ?_
       exact ⟨by first | exact trivial | rfl,
        (leQ8H hlt3)
        ⟩
      ·refine AX.rR (rgWV [1,3,4,5,6,7,8,15,16,47] (aI @hwl (aI @hwg (aI @hl (aI @hga oT)))) oT) ?_
       exact ⟨by first | exact trivial | rfl,
        (leQ8H hlt3)
        ⟩
     rintro st hle
     refine AX.weaken id hle ?_
     refine AX.condF ?_
     refine AX.exit ?_
     refine nmZ ?_
     refine AX.rR (rgWV [1,3,4,5,6,7,15,16] (aI @lit_add oT) oT) ?_
     refine nmZ ?_
     refine ⟨_,_,id,?_,
      (leQ8H hlt3)
      , ⟨a+1,f,more,by omega,rfl,hfd,hs,rfl⟩⟩
     omega
    rw [hfa] at hga
    by_cases h3:b<n
    ·have hgb:=bl_get f h3
     have hc:=cs a b h2 h3
     have ix:=ixA a b h2 h3
     have m1:(a:Int)*(n:Int)=((a*n:Nat):Int):=(Int.natCast_mul a n).symm
     have a1:((a*n:Nat):Int)+(b:Int)=((a*n+b:Nat):Int):=(Int.natCast_add _ _).symm
     have b1:a*n≤60*60:=Nat.mul_le_mul (by omega) hn
     have hsp:=sgnR_pos (q:=A a b)
     have same:(f b=false→¬ 0<A a b)→((more=true∧cntF n f<cntF n f0)∨(more=false∧f=f0∧∀ a' b',a' < n→b' < n→(a' < a∨a'=a∧b' < b+1)→f a'=true→0<A a' b'→f b'=true)):=fun hno=>hP.imp id fun h=>⟨h.1,h.2.1,fun a' b' g1 g2 g3 g4 g5=>by
      by_cases e:a'=a∧b'=b
      ·obtain ⟨rfl,rfl⟩:=e
       cases hfb:f b'
       ·exact absurd g5 (hno hfb)
       ·rfl
      ·exact h.2.2 a' b' g1 g2 (by omega) g4 g5⟩
     clear cs ixA
     refine AX.sR (rgWV [1,3,4,5,6,7,8,15,16,47] (aI @hwl (aI @hwg (aI @hl (aI @hga oT)))) oT) ?_
     refine AX.condT ?_
     refine AX.keepA [1,3,4,5,6,7,8,15,16] ?_
     refine AX.skip ?_
     refine nmZ ?_
     refine AX.seq ?_
     refine AX.block ?_
     cases hfb:f b
     ·rw [hfb] at hgb
      by_cases hz:0<A a b
      ·have hs:=hsp.2 hz
       have hset:=bl_set f true h3
       have hcnt:=cntF_upd (n:=n) h3 hfb
       have hfd':=hfd.more h2 hfa h3 hz
       have hcnt':cntF n (updB f b true)<cntF n f0:=by
        rcases hP with h | h
        ·omega
        ·rw [← h.2.1];omega
       clear same hP
       generalize updB f b true=f2 at *
       generalize sgnR (A a b)=sg at *
       generalize A a b=p at *
       generalize a*n+b=z at *
       generalize a*n=x1 at *
       refine AX.sR (rgEV [1,3,4,5,6,7,8,15,16,71] (aI @hwl (aI @hwg (aI @hl (aI @hgb (aI @m1 (aI @a1 oT)))))) (aI hc oT) (aI ix oT)) ?_
       refine AX.condT ?_
       refine AX.sR (rgWV [1,3,4,5,7,8,15,16] (aI @hwl (aI @hwg (aI @hl oT))) oT) ?_
       rw [hset]
       refine AX.rR (rgAV [1,3,4,5,6,7,8,15,16]) ?_
       refine nmZ ?_
       refine AX.rR (rgWV [1,3,4,5,6,7,8,15,16] (aI @lit_add oT) oT) ?_
       refine nmZ ?_
       refine ⟨_,_,id,?_,
        (leQ8H hlt3)
        , ⟨b+1,f2,true,by omega,rfl,hfd',.inl ⟨rfl,hcnt'⟩,rfl⟩⟩
       omega
      ·have hs:¬ 0<sgnR (A a b):=fun h=>hz (hsp.1 h)
       have hP':=same fun _=>hz
       clear same hP
       generalize sgnR (A a b)=sg at *
       generalize A a b=p at *
       generalize a*n+b=z at *
       generalize a*n=x1 at *
       refine AX.sR (rgEV [1,3,4,5,6,7,8,15,16,71] (aI @hwl (aI @hwg (aI @hl (aI @hgb (aI @m1 (aI @a1 oT)))))) (aI hc oT) (aI ix oT)) ?_
       refine AX.condF ?_
       refine AX.keepA [1,3,4,5,6,7,8,15,16] ?_
       refine AX.skip ?_
       refine nmZ ?_
       refine AX.rR (rgWV [1,3,4,5,6,7,8,15,16] (aI @lit_add oT) oT) ?_
       refine nmZ ?_
       refine ⟨_,_,id,?_,
        (leQ8H hlt3)
        , ⟨b+1,f,more,by omega,rfl,hfd,hP',rfl⟩⟩
       omega
     ·rw [hfb] at hgb
      have hP':=same fun h=>by rw [hfb] at h;cases h
      refine AX.sR (rgWV [1,3,4,5,6,7,8,15,16,71] (aI @hwl (aI @hwg (aI @hl (aI @hgb oT)))) oT) ?_
      refine AX.condF ?_
      refine AX.keepA [1,3,4,5,6,7,8,15,16] ?_
      refine AX.skip ?_
      refine nmZ ?_
      refine AX.rR (rgWV [1,3,4,5,6,7,8,15,16] (aI @lit_add oT) oT) ?_
      refine nmZ ?_
      refine ⟨_,_,id,?_,
       (leQ8H hlt3)
       , ⟨b+1,f,more,by omega,rfl,hfd,hP',rfl⟩⟩
      omega
    ·have hs:(more=true∧cntF n f<cntF n f0)∨(more=false∧f=f0∧∀ a' b,a' < n→b<n→a' < a+1→f a'=true→0<A a' b→f b=true):=hP.imp id fun h=>⟨h.1,h.2.1,fun a' b' g1 g2 g3 g4 g5=>h.2.2 a' b' g1 g2 (by omega) g4 g5⟩
     refine AX.sR (rgWV [1,3,4,5,6,7,8,15,16,47] (aI @hwl (aI @hwg (aI @hl (aI @hga oT)))) oT) ?_
     refine AX.condF ?_
     refine AX.exit ?_
     refine nmZ ?_
     refine AX.rR (rgWV [1,3,4,5,6,7,15,16] (aI @lit_add oT) oT) ?_
     refine nmZ ?_
     refine ⟨_,_,id,?_,
      (leQ8H hlt3)
      , ⟨a+1,f,more,by omega,rfl,hfd,hs,rfl⟩⟩
     omega
   ·refine AX.sR (rgAV [1,3,4,5,6,7,15,16,33]) ?_
    refine AX.condF ?_
    refine AX.exit ?_
    refine nmZ ?_
    refine ⟨2*cntF n f+(if more=true then 1 else 0),_,id,?_,
     (leQ8H hlt3)
     , ⟨f,more,rfl,hfd,(fun hm'=>by
       rcases hP with h | h
       ·rw [h.1] at hm';cases hm'
       ·exact fun a b ha hb=>h.2.2 a b ha hb (by omega)),rfl⟩⟩
    rcases hP with h | h
    ·rw [h.1,if_pos rfl]
     omega
    ·rw [h.1,h.2.1]
     simp
 ·have e:i=n:=by omega
  subst e
  rw [wr_full]
  refine AX.sR (rgAV [1,3,4,15,16,17]) ?_
  refine AX.seq ?_
  refine AX.condF ?_
  refine AX.exit ?_
  refine nmZ ?_
  refine AX.sR (rgAV [2]) ?_
  refine AX.ret ⟨.inl rfl,?_⟩
  exact Done.slW rfl rfl
end Go.Proofs.YteidabibgjokkaaGreatDoor
