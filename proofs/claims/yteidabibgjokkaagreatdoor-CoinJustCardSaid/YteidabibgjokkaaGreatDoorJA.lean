import Derived.Test.YteidabibgjokkaaGreatDoorHI
import Derived.Test.YteidabibgjokkaaGreatDoorGB
import Derived.Test.YteidabibgjokkaaGreatDoorHB
import Derived.Test.YteidabibgjokkaaGreatDoorHD
import Derived.Test.YteidabibgjokkaaGreatDoorHJ
set_option maxRecDepth 20000
set_option linter.all false
namespace Go.Proofs.YteidabibgjokkaaGreatDoor
open Go Go.Proofs.YteidabibgjokkaaGreatDoor.Lift
attribute [local irreducible] Lift.PCall Lift.HCall
inductive To (n:Nat) (A:Mx) (i:Nat):Nat→Prop
 | self:i<n→To n A i i
 | move {a b:Nat}:To n A i a→b<n→0<A a b→To n A i b
theorem To.lt {n:Nat} {A:Mx} {i k:Nat} (h:To n A i k):k<n:=by
 cases h<;>assumption
noncomputable def toB (n:Nat) (A:Mx) (i k:Nat):Bool:=@decide (To n A i k) (Classical.propDecidable _)
theorem toB_iff {n:Nat} {A:Mx} {i k:Nat}:toB n A i k=true↔To n A i k:=by
 unfold toB
 exact @decide_eq_true_iff _ (Classical.propDecidable _)
theorem To.trans {n:Nat} {A:Mx} {i k:Nat} (h:To n A i k) {j:Nat} (h':To n A k j):To n A i j:=by
 induction h' with
 | self _=>exact h
 | move _ h2 h3 ih=>exact .move ih h2 h3
structure FndT (n:Nat) (A:Mx) (i:Nat) (f:Nat→Bool):Prop where
 self:f i=true
 sound:∀ k,k<n→f k=true→To n A i k
theorem FndT.fin {n:Nat} {A:Mx} {i:Nat} {f:Nat→Bool} (h:FndT n A i f)(hcl:∀ a b,a<n→b<n→f a=true→0<A a b→f b=true):∀ k,k<n→f k=toB n A i k:=by
 intro k hk
 have hall:∀ k,To n A i k→f k=true:=by
  intro k hr
  induction hr with
  | self _=>exact h.self
  | move h1 h2 h3 ih=>exact hcl _ _ h1.lt h2 ih h3
 cases hf:f k
 ·cases hr:toB n A i k
  ·rfl
  ·rw [hall k (toB_iff.1 hr)] at hf
   cases hf
 ·exact (toB_iff.2 (h.sound k hk hf)).symm
theorem FndT.one {n:Nat} {A:Mx} {i:Nat} (hi:i<n):FndT n A i (updB (fun _=>false) i true):=by
 refine ⟨if_pos rfl,fun k hk h=>?_⟩
 unfold updB at h
 split at h
 ·rename_i e
  subst e
  exact .self hi
 ·cases h
theorem FndT.more {n:Nat} {A:Mx} {i:Nat} {f:Nat→Bool} (h:FndT n A i f) {a b:Nat} (ha:a<n)(hfa:f a=true)(hb:b<n)(hab:0<A a b):FndT n A i (updB f b true):=by
 refine ⟨?_,fun k hk hf=>?_⟩
 ·unfold updB
  split
  ·rfl
  ·exact h.self
 ·unfold updB at hf
  split at hf
  ·rename_i e
   subst e
   exact .move (h.sound a ha hfa) hb hab
  ·exact h.sound k hk hf
theorem lay_bools:lay Tryz.prog 66=some ⟨1,false,24,[.nl]⟩:=by kernel_rfl
attribute [go_sem] Tryz.underlying171 lay_bools
def wr (h n i:Nat) (b:Bool) (F:Nat→Nat→Bool):List V:=gl n fun j=>if j<i then .sl (bl n (F j)) else if j=i∧b=true then .own h 0 n 1 else .nl
end Go.Proofs.YteidabibgjokkaaGreatDoor
set_option linter.all false
namespace Go.Proofs.YteidabibgjokkaaGreatDoor.Lift
open Go
theorem AX.hp {P:Program} {C:Ctx} {st:St} {Q:Exit→St→Prop} {c:Code} {hp':List (Nat × Row)} (e:lkp st.hp=lkp hp')(h:AX P C c ⟨st.fr,hp',st.nx⟩ Q):AX P C c st Q:=by
 intro env a w hs
 refine h env a w ?_
 show Sim C env (lkp st.fr) (lkp hp') (· < st.nx) a w
 rw [← e]
 exact hs
end Go.Proofs.YteidabibgjokkaaGreatDoor.Lift
set_option linter.all false
namespace Go.Proofs.YteidabibgjokkaaGreatDoor
open Go Go.Proofs.YteidabibgjokkaaGreatDoor.Lift
attribute [local irreducible] Lift.PCall Lift.HCall
attribute [go_sem] Tryz.underlying182
def sw (p k i:Nat):Nat:=if i=p then k else if i=k then p else i
theorem sw_sw (p k i:Nat):sw p k (sw p k i)=i:=by
 unfold sw
 grind
theorem sw_lt {p k i n:Nat} (hp:p<n)(hk:k<n)(hi:i<n):sw p k i<n:=by
 unfold sw
 grind
theorem sw_k (p k:Nat):sw p k k=p:=by
 unfold sw
 grind
structure GJ where
 R:Mx
 s:Nat→Nat
 t:Nat→Nat
 D:Rat
def pivA (M:Mx) (k:Nat):Nat→Nat→Nat
 | 0,at'=>at'
 | f+1,at'=>if M at' k=0 then pivA M k f (at'+1) else at'
def piv (n k:Nat) (g:GJ):Nat:=pivA (fun i=>g.R (g.s i)) k (n-k) k
def elimG (q k:Nat) (R:Mx):Mx:=fun a j=>if a=q then R q j / R q k else R a j-R a k*(R q j / R q k)
def GJ.step (n k:Nat) (g:GJ):GJ where
 R:=elimG (g.s (piv n k g)) k g.R
 s:=fun i=>g.s (sw (piv n k g) k i)
 t:=fun a=>sw (piv n k g) k (g.t a)
 D:=(if piv n k g=k then g.D else -g.D)*g.R (g.s (piv n k g)) k
theorem pivA_spec (M:Mx)(k:Nat):∀ (f at':Nat),at'≤pivA M k f at'∧pivA M k f at'≤at'+f∧(pivA M k f at' < at'+f→M (pivA M k f at') k≠0)∧∀ i,at'≤i→i<pivA M k f at'→M i k=0:=by
 intro f
 induction f with
 | zero=>exact fun at'=>⟨Nat.le_refl _,Nat.le_refl _,fun h=>absurd h (Nat.lt_irrefl _),fun i h1 h2=>absurd h2 (by show ¬ i<at';omega)⟩
 | succ f ih=>
  intro at'
  by_cases h:M at' k=0
  ·have e:pivA M k (f+1) at'=pivA M k f (at'+1):=if_pos h
   obtain ⟨h1,h2,h3,h4⟩:=ih (at'+1)
   rw [e]
   refine ⟨by omega,by omega,fun h5=>h3 (by omega),fun i h5 h6=>?_⟩
   by_cases e2:i=at'
   ·subst e2;exact h
   ·exact h4 i (by omega) h6
  ·have e:pivA M k (f+1) at'=at':=if_neg h
   rw [e]
   exact ⟨Nat.le_refl _,by omega,fun _=>h,fun i h1 h2=>absurd h2 (by omega)⟩
structure GJ.Ok (n w k:Nat) (A:Mx) (g:GJ):Prop where
 s:∀ i,i<n→g.s i<n∧g.t (g.s i)=i
 t:∀ a,a<n→g.t a<n∧g.s (g.t a)=a
 D:g.D≠0
 y:∀ y:Nat→Rat,(∀ a,a<n→(sumN w fun j=>g.R a j*y j)=0)↔∀ a,a<n→(sumN w fun j=>A a j*y j)=0
 u:∀ j i,j<k→i<n→g.R (g.s i) j=if i=j then 1 else 0
theorem GJ.Ok.piv {n w k:Nat} {A:Mx} {g:GJ} (h:g.Ok n w k A)(hA:NonSing n A)(hk:k<n)(hw:n≤w):k≤piv n k g∧piv n k g<n∧g.R (g.s (piv n k g)) k≠0∧∀ i,k≤i→i<piv n k g→g.R (g.s i) k=0:=by
 obtain ⟨h1,h2,h3,h4⟩:=pivA_spec (fun i=>g.R (g.s i)) k (n-k) k
 change k≤Go.Proofs.YteidabibgjokkaaGreatDoor.piv n k g at h1
 change Go.Proofs.YteidabibgjokkaaGreatDoor.piv n k g≤_ at h2
 change Go.Proofs.YteidabibgjokkaaGreatDoor.piv n k g < _→g.R (g.s (Go.Proofs.YteidabibgjokkaaGreatDoor.piv n k g)) k≠0 at h3
 change ∀ i,k≤i→i<Go.Proofs.YteidabibgjokkaaGreatDoor.piv n k g→g.R (g.s i) k=0 at h4
 by_cases hlt:Go.Proofs.YteidabibgjokkaaGreatDoor.piv n k g<n
 ·exact ⟨h1,hlt,h3 (by omega),h4⟩
 ·exfalso
  have hz:∀ i,k≤i→i<n→g.R (g.s i) k=0:=fun i h5 h6=>h4 i h5 (by omega)
  obtain ⟨y,hy⟩:∃ y:Nat→Rat,y=fun j=>if j<k then -(g.R (g.s j) k) else if j=k then 1 else 0:=⟨_,rfl⟩
  have hyk:y k=1:=by rw [hy];simp
  have hy0:∀ j,k<j→y j=0:=fun j hj=>by
   rw [hy]
   show (if j<k then _ else if j=k then _ else _)=_
   rw [if_neg (by omega),if_neg (by omega)]
  have hyl:∀ j,j<k→y j=-(g.R (g.s j) k):=fun j hj=>by
   rw [hy]
   exact if_pos hj
  have hsum:∀ a,a<n→(sumN w fun j=>g.R a j*y j)=0:=fun a ha=>by
   obtain ⟨hi,ei⟩:=h.t a ha
   obtain ⟨i,hie⟩:∃ i,g.t a=i:=⟨_,rfl⟩
   rw [hie] at hi ei
   rw [← ei]
   have e1:(sumN w fun j=>g.R (g.s i) j*y j)=sumN (k+1+(w-(k+1))) fun j=>g.R (g.s i) j*y j:=by congr 1;omega
   rw [e1,sumN_split,sumN_eq_zero (n:=w-(k+1)) (fun j hj=>by rw [hy0 _ (by omega),Rat.mul_zero]),Rat.add_zero,sumN_succ,hyk,Rat.mul_one]
   by_cases hik:i<k
   ·rw [sumN_single hik (fun j hj hne=>by rw [h.u j i hj hi,if_neg (fun e=>hne e.symm),Rat.zero_mul]),h.u i i hik hi,if_pos rfl,Rat.one_mul,hyl i hik]
    exact Rat.neg_add_cancel _
   ·rw [sumN_eq_zero (fun j hj=>by rw [h.u j i hj hi,if_neg (by omega),Rat.zero_mul]),hz i (by omega) hi,Rat.zero_add]
  have h6:=(h.y y).1 hsum
  have h7:=hA y (fun i hi=>by
   have:=h6 i hi
   have e1:(sumN w fun j=>A i j*y j)=sumN (n+(w-n)) fun j=>A i j*y j:=by congr 1;omega
   rw [e1,sumN_split,sumN_eq_zero (n:=w-n) (fun j hj=>by rw [hy0 _ (by omega),Rat.mul_zero]),Rat.add_zero] at this
   exact this) k hk
  rw [hyk] at h7
  exact absurd h7 (by decide)
theorem GJ.Ok.next {n w k:Nat} {A:Mx} {g:GJ} (h:g.Ok n w k A)(hA:NonSing n A)(hk:k<n)(hw:n≤w):(g.step n k).Ok n w (k+1) A:=by
 obtain ⟨p1,p2,p3,p4⟩:=h.piv hA hk hw
 have es:(g.step n k).s=fun i=>g.s (sw (Go.Proofs.YteidabibgjokkaaGreatDoor.piv n k g) k i):=rfl
 have et:(g.step n k).t=fun a=>sw (Go.Proofs.YteidabibgjokkaaGreatDoor.piv n k g) k (g.t a):=rfl
 have eD:(g.step n k).D=(if Go.Proofs.YteidabibgjokkaaGreatDoor.piv n k g=k then g.D else -g.D)*g.R (g.s (Go.Proofs.YteidabibgjokkaaGreatDoor.piv n k g)) k:=rfl
 have eR:(g.step n k).R=elimG (g.s (Go.Proofs.YteidabibgjokkaaGreatDoor.piv n k g)) k g.R:=rfl
 generalize Go.Proofs.YteidabibgjokkaaGreatDoor.piv n k g=p at *
 obtain ⟨q,hq⟩:∃ q,g.s p=q:=⟨_,rfl⟩
 have hqn:q<n:=hq ▸ (h.s p p2).1
 rw [hq] at eD eR p3
 have hs:∀ i,i<n→(g.step n k).s i<n∧(g.step n k).t ((g.step n k).s i)=i:=fun i hi=>by
  rw [es,et]
  have h1:=h.s _ (sw_lt p2 hk hi)
  exact ⟨h1.1,by show sw p k (g.t (g.s (sw p k i)))=i;rw [h1.2,sw_sw]⟩
 have hinj:∀ i j,i<n→j<n→(g.step n k).s i=(g.step n k).s j→i=j:=fun i j hi hj e=>by
  rw [← (hs i hi).2,e,(hs j hj).2]
 have hsk:(g.step n k).s k=q:=by rw [es];show g.s (sw p k k)=q;rw [sw_k,hq]
 have hrow:∀ a j,(g.step n k).R a j=if a=q then g.R q j / g.R q k else g.R a j-g.R a k*(g.R q j / g.R q k):=fun a j=>by rw [eR];rfl
 refine ⟨hs,fun a ha=>?_,?_,fun y=>?_,fun j i hj hi=>?_⟩
 ·rw [es,et]
  have h1:=h.t a ha
  exact ⟨sw_lt p2 hk h1.1,by show g.s (sw p k (sw p k (g.t a)))=a;rw [sw_sw,h1.2]⟩
 ·rw [eD]
  refine fun e=>?_
  rcases Rat.mul_eq_zero.1 e with e | e
  ·split at e
   ·exact h.D e
   ·exact h.D (by grind)
  ·exact p3 e
 ·rw [← h.y y]
  have hq1:(sumN w fun j=>(g.step n k).R q j*y j)=(sumN w fun j=>g.R q j*y j) / g.R q k:=by
   rw [sumN_congr (g:=fun j=>g.R q j*y j*(g.R q k)⁻¹) fun j hj=>by rw [hrow,if_pos rfl,Rat.div_def];grind,sumN_mulr,Rat.div_def]
  have ha1:∀ a,a≠q→(sumN w fun j=>(g.step n k).R a j*y j)=(sumN w fun j=>g.R a j*y j)-g.R a k*(sumN w fun j=>(g.step n k).R q j*y j):=fun a ha=>by
   rw [← sumN_mul,← sumN_sub]
   refine sumN_congr fun j hj=>?_
   rw [hrow a,if_neg ha,hrow q,if_pos rfl]
   grind
  constructor
  ·intro H
   have hq0:(sumN w fun j=>g.R q j*y j)=0:=by
    have:=H q hqn
    rw [hq1] at this
    rw [← Rat.div_mul_cancel (a:=sumN w fun j=>g.R q j*y j) p3,this,Rat.zero_mul]
   intro a ha
   by_cases e:a=q
   ·rw [e];exact hq0
   ·have:=ha1 a e
    rw [H a ha,H q hqn,Rat.mul_zero] at this
    grind
  ·intro H
   have hq0:(sumN w fun j=>(g.step n k).R q j*y j)=0:=by rw [hq1,H q hqn,Rat.div_def,Rat.zero_mul]
   intro a ha
   by_cases e:a=q
   ·rw [e];exact hq0
   ·rw [ha1 a e,H a ha,hq0,Rat.mul_zero]
    grind
 ·have hqj:∀ j,j<k→g.R q j=0:=fun j hj=>by
   rw [← hq,h.u j p hj p2,if_neg (by omega)]
  by_cases e:(g.step n k).s i=q
  ·have ei:i=k:=hinj i k hi hk (e.trans hsk.symm)
   rw [e,hrow,if_pos rfl]
   by_cases ej:j=k
   ·rw [ej,ei,if_pos rfl,Rat.div_def,Rat.mul_inv_cancel _ p3]
   ·rw [hqj j (by omega),if_neg (by omega),Rat.div_def,Rat.zero_mul]
  ·have ei:i≠k:=fun e'=>e (by rw [e'];exact hsk)
   rw [hrow,if_neg e]
   by_cases ej:j=k
   ·rw [ej,if_neg ei,Rat.div_def,Rat.mul_inv_cancel _ p3,Rat.mul_one]
    grind
   ·rw [hqj j (by omega),Rat.div_def,Rat.zero_mul,Rat.mul_zero]
    have e5:(g.step n k).s i=g.s (sw p k i):=by rw [es]
    rw [e5,h.u j _ (by omega) (sw_lt p2 hk hi)]
    have e6:(sw p k i=j)↔i=j:=by
     unfold sw
     grind
    simp only [e6]
    grind
theorem Chn.Rch.from {n m:Nat} {A B:Mx} {i k:Nat} (h:To n A i k)(hr:(chn n m A B).Rch k):i<n→(chn n m A B).Rch i:=by
 intro hi
 induction h with
 | self _=>exact hr
 | move h1 h2 h3 ih=>exact ih (.move h1.lt h2 h3 hr)
end Go.Proofs.YteidabibgjokkaaGreatDoor
