import Derived.Test.YteidabibgjokkaaGreatDoorGQ
set_option maxRecDepth 20000
set_option linter.all false
namespace Go.Proofs.YteidabibgjokkaaGreatDoor
open Go Go.Proofs.YteidabibgjokkaaGreatDoor.Lift
attribute [local irreducible] Lift.PCall Lift.HCall
def sumN:Nat→(Nat→Rat)→Rat
 | 0,_=>0
 | n+1,f=>sumN n f+f n
theorem sumN_succ (n:Nat)(f:Nat→Rat):sumN (n+1) f=sumN n f+f n:=rfl
theorem sumN_congr {n:Nat} {f g:Nat→Rat} (h:∀ i,i<n→f i=g i):sumN n f=sumN n g:=by
 induction n with
 | zero=>rfl
 | succ n ih=>rw [sumN_succ,sumN_succ,ih fun i hi=>h i (by omega),h n (by omega)]
theorem sumN_add (n:Nat)(f g:Nat→Rat):sumN n (fun i=>f i+g i)=sumN n f+sumN n g:=by
 induction n with
 | zero=>exact (Rat.add_zero 0).symm
 | succ n ih=>rw [sumN_succ,sumN_succ,sumN_succ,ih];grind
theorem sumN_sub (n:Nat)(f g:Nat→Rat):sumN n (fun i=>f i-g i)=sumN n f-sumN n g:=by
 induction n with
 | zero=>show (0:Rat)=0-0;grind
 | succ n ih=>rw [sumN_succ,sumN_succ,sumN_succ,ih];grind
theorem sumN_mul (n:Nat)(c:Rat)(f:Nat→Rat):sumN n (fun i=>c*f i)=c*sumN n f:=by
 induction n with
 | zero=>exact (Rat.mul_zero c).symm
 | succ n ih=>rw [sumN_succ,sumN_succ,ih,Rat.mul_add]
theorem sumN_mulr (n:Nat)(c:Rat)(f:Nat→Rat):sumN n (fun i=>f i*c)=sumN n f*c:=by
 induction n with
 | zero=>exact (Rat.zero_mul c).symm
 | succ n ih=>rw [sumN_succ,sumN_succ,ih,Rat.add_mul]
theorem sumN_zero (n:Nat):sumN n (fun _=>0)=0:=by
 induction n with
 | zero=>rfl
 | succ n ih=>rw [sumN_succ,ih];exact Rat.add_zero 0
theorem sumN_eq_zero {n:Nat} {f:Nat→Rat} (h:∀ i,i<n→f i=0):sumN n f=0:=(sumN_congr h).trans (sumN_zero n)
theorem sumN_le {n:Nat} {f g:Nat→Rat} (h:∀ i,i<n→f i≤g i):sumN n f≤sumN n g:=by
 induction n with
 | zero=>exact Rat.le_refl
 | succ n ih=>
  rw [sumN_succ,sumN_succ]
  have h1:=ih fun i hi=>h i (by omega)
  have h2:=h n (by omega)
  grind
theorem sumN_nonneg {n:Nat} {f:Nat→Rat} (h:∀ i,i<n→0≤f i):0≤sumN n f:=by
 have:=sumN_le (f:=fun _=>0) h
 rwa [sumN_zero] at this
theorem sumN_swap (n m:Nat)(f:Nat→Nat→Rat):sumN n (fun i=>sumN m fun j=>f i j)=sumN m fun j=>sumN n fun i=>f i j:=by
 induction n with
 | zero=>exact (sumN_zero m).symm
 | succ n ih=>
  rw [sumN_succ,ih,← sumN_add]
  rfl
theorem sumN_single {n k:Nat} {f:Nat→Rat} (hk:k<n)(h:∀ i,i<n→i≠k→f i=0):sumN n f=f k:=by
 induction n with
 | zero=>omega
 | succ n ih=>
  rw [sumN_succ]
  by_cases e:k=n
  ·subst e
   rw [sumN_eq_zero fun i hi=>h i (by omega) (by omega)]
   grind
  ·rw [ih (by omega) fun i hi=>h i (by omega),h n (by omega) (by omega)]
   grind
theorem le_sumN {n k:Nat} {f:Nat→Rat} (hk:k<n)(h:∀ i,i<n→0≤f i):f k≤sumN n f:=by
 induction n with
 | zero=>omega
 | succ n ih=>
  rw [sumN_succ]
  have h0:=sumN_nonneg (n:=n) (f:=f) fun i hi=>h i (by omega)
  have h1:=h n (by omega)
  by_cases e:k=n
  ·subst e;grind
  ·have:=ih (by omega) fun i hi=>h i (by omega)
   grind
theorem sumN_zero_inv {n k:Nat} {f:Nat→Rat} (hk:k<n)(h:∀ i,i<n→0≤f i)(h0:sumN n f=0):f k=0:=by
 have h1:=le_sumN hk h
 have h2:=h k hk
 grind
def absQ (q:Rat):Rat:=if q<0 then -q else q
theorem absQ_nonneg (q:Rat):0≤absQ q:=by unfold absQ;split<;>grind
theorem absQ_zero {q:Rat} (h:absQ q≤0):q=0:=by unfold absQ at h;split at h<;>grind
theorem le_absQ (q:Rat):q≤absQ q∧-q≤absQ q:=by unfold absQ;split<;>grind
theorem absQ_le {q c:Rat} (h1:q≤c)(h2:-q≤c):absQ q≤c:=by unfold absQ;split<;>grind
theorem sumN_abs {n:Nat} {f g:Nat→Rat} (hf:∀ i,i<n→0≤f i):absQ (sumN n fun i=>f i*g i)≤sumN n fun i=>f i*absQ (g i):=by
 have key:∀ i,i<n→f i*g i≤f i*absQ (g i)∧-(f i*g i)≤f i*absQ (g i):=by
  intro i hi
  obtain ⟨h1,h2⟩:=le_absQ (g i)
  have h3:=Rat.mul_le_mul_of_nonneg_left h1 (hf i hi)
  have h4:=Rat.mul_le_mul_of_nonneg_left h2 (hf i hi)
  refine ⟨h3,?_⟩
  grind
 apply absQ_le
 ·exact sumN_le fun i hi=>(key i hi).1
 ·have e:-(sumN n fun i=>f i*g i)=sumN n fun i=>-1*(f i*g i):=by rw [sumN_mul];grind
  rw [e]
  refine sumN_le fun i hi=>?_
  have:=(key i hi).2
  grind
structure Chn where
 n:Nat
 m:Nat
 M:Nat→Nat→Rat
 E:Nat→Nat→Rat
structure Chn.Ok (c:Chn):Prop where
 M0:∀ i k,i<c.n→k<c.n→0≤c.M i k
 E0:∀ i j,i<c.n→j<c.m→0≤c.E i j
 one:∀ i,i<c.n→sumN c.n (c.M i)+sumN c.m (c.E i)=1
inductive Chn.Rch (c:Chn):Nat→Prop
 | exit {i j:Nat}:i<c.n→j<c.m→0<c.E i j→c.Rch i
 | move {i k:Nat}:i<c.n→k<c.n→0<c.M i k→c.Rch k→c.Rch i
theorem max_of (n:Nat)(f:Nat→Rat)(p:Nat→Prop)(h:∃ i,i<n∧p i):∃ i,i<n∧p i∧∀ k,k<n→p k→f k≤f i:=by
 induction n with
 | zero=>obtain ⟨i,hi,_⟩:=h;omega
 | succ n ih=>
  by_cases h0:∃ i,i<n∧p i
  ·obtain ⟨i,hi,hp,hmax⟩:=ih h0
   by_cases hn:p n∧f i<f n
   ·refine ⟨n,by omega,hn.1,fun k hk hpk=>?_⟩
    by_cases e:k=n
    ·subst e;exact Rat.le_refl
    ·have:=hmax k (by omega) hpk
     have:=hn.2
     grind
   ·refine ⟨i,by omega,hp,fun k hk hpk=>?_⟩
    by_cases e:k=n
    ·subst e
     have:¬ f i<f k:=fun h=>hn ⟨hpk,h⟩
     grind
    ·exact hmax k (by omega) hpk
  ·obtain ⟨i,hi,hp⟩:=h
   have e:i=n:=Classical.byContradiction fun e=>h0 ⟨i,by omega,hp⟩
   subst e
   refine ⟨i,hi,hp,fun k hk hpk=>?_⟩
   have:k=i:=Classical.byContradiction fun e=>h0 ⟨k,by omega,hpk⟩
   subst this
   exact Rat.le_refl
theorem Chn.only {c:Chn} (hc:c.Ok) {x:Nat→Rat} (hx:∀ i,i<c.n→c.Rch i→x i=sumN c.n fun k=>c.M i k*x k)(h0:∀ i,i<c.n→¬ c.Rch i→x i=0):∀ i,i<c.n→x i=0:=by
 intro i0 hi0
 obtain ⟨a,ha,_,hmax⟩:=max_of c.n (fun i=>absQ (x i)) (fun _=>True) ⟨i0,hi0,trivial⟩
 have key:∀ i,c.Rch i→i<c.n→absQ (x i)=absQ (x a)→absQ (x a)=0:=by
  intro i hr
  induction hr with
  | exit hi hj hE=>
   rename_i i j
   intro _ he
   have h1:=hx i hi (.exit hi hj hE)
   have h2:=sumN_abs (n:=c.n) (f:=c.M i) (g:=x) (hc.M0 i · hi)
   rw [← h1,he] at h2
   have h3:(sumN c.n fun k=>c.M i k*absQ (x k))≤sumN c.n fun k=>c.M i k*absQ (x a):=sumN_le fun k hk=>Rat.mul_le_mul_of_nonneg_left (hmax k hk trivial) (hc.M0 i k hi hk)
   rw [sumN_mulr] at h3
   have h4:=hc.one i hi
   have h5:=le_sumN hj (hc.E0 i · hi)
   have h6:=absQ_nonneg (x a)
   have h7:sumN c.n (c.M i)≤1-c.E i j:=by grind
   have h8:=Rat.mul_le_mul_of_nonneg_right h7 h6
   by_cases hz:absQ (x a)=0
   ·exact hz
   ·have h9:0<absQ (x a):=by grind
    have:=Rat.mul_pos hE h9
    grind
  | move hi hk hM hr ih=>
   rename_i i k
   intro _ he
   have h1:=hx i hi (.move hi hk hM hr)
   have h2:=sumN_abs (n:=c.n) (f:=c.M i) (g:=x) (hc.M0 i · hi)
   rw [← h1,he] at h2
   have h4:=hc.one i hi
   have h5:0≤sumN c.m (c.E i):=sumN_nonneg (hc.E0 i · hi)
   have h6:=absQ_nonneg (x a)
   have h7:sumN c.n (c.M i)≤1:=by grind
   have h8:=Rat.mul_le_mul_of_nonneg_right h7 h6
   have h9:(sumN c.n fun k=>c.M i k*(absQ (x a)-absQ (x k)))≤0:=by
    have e:(sumN c.n fun k=>c.M i k*(absQ (x a)-absQ (x k)))=sumN c.n (c.M i)*absQ (x a)-sumN c.n fun k=>c.M i k*absQ (x k):=by
     rw [← sumN_mulr,← sumN_sub]
     exact sumN_congr fun k _=>by grind
    rw [e]
    grind
   have h10:∀ l,l<c.n→0≤c.M i l*(absQ (x a)-absQ (x l)):=fun l hl=>Rat.mul_nonneg (hc.M0 i l hi hl) (by have:=hmax l hl trivial;grind)
   have h11:=sumN_zero_inv hk h10 (by have:=sumN_nonneg h10;grind)
   refine ih hk ?_
   rcases Rat.mul_eq_zero.1 h11 with h | h
   ·grind
   ·grind
 by_cases hr:c.Rch a
 ·have h1:=key a hr ha rfl
  have h2:=hmax i0 hi0 trivial
  exact absQ_zero (by grind)
 ·have h1:=h0 a ha hr
  have h2:=hmax i0 hi0 trivial
  have h3:absQ (x a)=0:=by rw [h1];rfl
  exact absQ_zero (by grind)
abbrev Mx:=Nat→Nat→Rat
def Ker (n:Nat) (A:Mx) (q:Nat) (y:Nat→Rat) (s:Rat):Prop:=∀ i,i<n→(sumN n fun k=>A i k*y k)+A i q*s=0
def RowEq (n:Nat) (A B:Mx):Prop:=∀ q y s,Ker n A q y s↔Ker n B q y s
theorem RowEq.refl (n:Nat)(A:Mx):RowEq n A A:=fun _ _ _=>Iff.rfl
theorem RowEq.trans {n:Nat} {A B C:Mx} (h1:RowEq n A B)(h2:RowEq n B C):RowEq n A C:=fun q y s=>(h1 q y s).trans (h2 q y s)
def swapM (A:Mx) (p r:Nat):Mx:=fun i=>if i=p then A r else if i=r then A p else A i
theorem RowEq.swap {n:Nat} (A:Mx) {p r:Nat} (hp:p<n)(hr:r<n):RowEq n A (swapM A p r):=by
 intro q y s
 constructor
 ·intro h i hi
  unfold swapM
  by_cases e1:i=p
  ·subst e1
   simp only [if_pos rfl]
   exact h r hr
  ·by_cases e2:i=r
   ·subst e2
    simp only [if_neg e1,if_pos rfl]
    exact h p hp
   ·simp only [if_neg e1,if_neg e2]
    exact h i hi
 ·intro h i hi
  by_cases e1:i=p
  ·subst e1
   have:=h r hr
   unfold swapM at this
   by_cases e2:r=i
   ·subst e2
    simpa using this
   ·simpa [e2] using this
  ·by_cases e2:i=r
   ·subst e2
    have:=h p hp
    unfold swapM at this
    simpa using this
   ·have:=h i hi
    unfold swapM at this
    simpa [e1,e2] using this
def clearM (A:Mx) (fm to:Nat) (f:Rat):Mx:=fun i j=>if i=to then A to j-f*A fm j else A i j
theorem RowEq.clear {n:Nat} (A:Mx) {fm to:Nat} (f:Rat)(hf:fm<n)(ht:to<n)(hne:fm≠to):RowEq n A (clearM A fm to f):=by
 have key:∀ q (y:Nat→Rat) (s:Rat),(sumN n fun k=>clearM A fm to f to k*y k)+clearM A fm to f to q*s=((sumN n fun k=>A to k*y k)+A to q*s)-f*((sumN n fun k=>A fm k*y k)+A fm q*s):=by
  intro q y s
  have e:(sumN n fun k=>clearM A fm to f to k*y k)=(sumN n fun k=>A to k*y k)-f*sumN n fun k=>A fm k*y k:=by
   rw [← sumN_mul,← sumN_sub]
   refine sumN_congr fun k _=>?_
   unfold clearM
   rw [if_pos rfl]
   grind
  rw [e]
  unfold clearM
  rw [if_pos rfl]
  grind
 have other:∀ i,i≠to→clearM A fm to f i=A i:=by
  intro i h
  funext j
  unfold clearM
  rw [if_neg h]
 intro q y s
 constructor
 ·intro h i hi
  by_cases e:i=to
  ·subst e
   rw [key,h i hi,h fm hf]
   grind
  ·rw [other i e]
   exact h i hi
 ·intro h i hi
  have hfm:=h fm hf
  rw [other fm hne] at hfm
  by_cases e:i=to
  ·subst e
   have:=h i hi
   rw [key,hfm] at this
   grind
  ·have:=h i hi
   rwa [other i e] at this
def Tri (n:Nat) (A:Mx) (r:Nat):Prop:=∀ j,j<r→A j j≠0∧∀ i,j<i→i<n→A i j=0
def updF (y:Nat→Rat) (k:Nat) (x:Rat):Nat→Rat:=fun i=>if i=k then x else y i
theorem sumN_upd {n k:Nat} (f:Nat→Rat)(y:Nat→Rat)(x:Rat)(hk:k<n):(sumN n fun i=>f i*updF y k x i)=(sumN n fun i=>f i*y i)+f k*(x-y k):=by
 have e:(sumN n fun i=>f i*updF y k x i)-(sumN n fun i=>f i*y i)=f k*(x-y k):=by
  rw [← sumN_sub]
  have h1:=sumN_single (f:=fun i=>f i*updF y k x i-f i*y i) hk (by
   intro i _ hne
   show f i*updF y k x i-f i*y i=0
   unfold updF
   rw [if_neg hne]
   grind)
  rw [h1]
  show f k*updF y k x k-f k*y k=_
  unfold updF
  rw [if_pos rfl]
  grind
 grind
theorem Tri.stuck {n r:Nat} {A:Mx} (hr:r<n)(ht:Tri n A r)(h0:∀ i,r≤i→i<n→A i r=0):∃ y:Nat→Rat,(∀ q,Ker n A q y 0)∧y r=1:=by
 have key:∀ t,t≤r→∃ y:Nat→Rat,y r=1∧(∀ k,r<k→y k=0)∧(∀ k,k<r-t→y k=0)∧∀ i,r-t≤i→i<n→(sumN n fun k=>A i k*y k)=0:=by
  intro t
  induction t with
  | zero=>
   intro _
   refine ⟨fun k=>if k=r then 1 else 0,if_pos rfl,fun k hk=>if_neg (by omega),fun k hk=>if_neg (by omega),fun i hi hin=>?_⟩
   have h1:=sumN_single (f:=fun k=>A i k*(if k=r then 1 else 0)) hr (by
    intro k _ hne
    show A i k*(if k=r then 1 else 0)=0
    rw [if_neg hne,Rat.mul_zero])
   rw [h1]
   show A i r*(if r=r then 1 else 0)=0
   rw [h0 i (by omega) hin,Rat.zero_mul]
  | succ t ih=>
   intro htr
   obtain ⟨y,y1,y2,y3,y4⟩:=ih (by omega)
   have hj:=ht (r-(t+1)) (by omega)
   generalize hjj:r-(t+1)=j at *
   have hjr:j<r:=by omega
   let S:=sumN n fun k=>A j k*y k
   refine ⟨updF y j (y j-S / A j j),?_,?_,?_,?_⟩
   ·unfold updF;rw [if_neg (by omega)];exact y1
   ·intro k hk;unfold updF;rw [if_neg (by omega)];exact y2 k hk
   ·intro k hk;unfold updF;rw [if_neg (by omega)];exact y3 k (by omega)
   ·intro i hi hin
    rw [sumN_upd _ _ _ (by omega)]
    by_cases e:i=j
    ·subst e
     show S+A i i*(y i-S / A i i-y i)=0
     have h1:A i i*(S / A i i)=S:=by
      rw [Rat.mul_comm]
      exact Rat.div_mul_cancel hj.1
     grind
    ·rw [y4 i (by omega) hin,hj.2 i (by omega) hin]
     grind
 obtain ⟨y,y1,_,_,y4⟩:=key r (Nat.le_refl _)
 refine ⟨y,fun q i hi=>?_,y1⟩
 rw [y4 i (by omega) hi]
 grind
def NonSing (n:Nat) (A:Mx):Prop:=∀ y:Nat→Rat,(∀ i,i<n→(sumN n fun k=>A i k*y k)=0)→∀ k,k<n→y k=0
theorem NonSing.pivot {n r:Nat} {A B:Mx} (hA:NonSing n A)(he:RowEq n A B)(hr:r<n)(ht:Tri n B r):∃ i,r≤i∧i<n∧B i r≠0:=by
 apply Classical.byContradiction
 intro hne
 obtain ⟨y,h1,h2⟩:=ht.stuck hr fun i hi hin=>Classical.byContradiction fun h=>hne ⟨i,hi,hin,h⟩
 have h3:=(he 0 y 0).2 (h1 0)
 have h4:=hA y (fun i hi=>by have:=h3 i hi;grind) r hr
 rw [h4] at h2
 exact absurd h2 (by decide)
theorem diag_sol {n:Nat} {A B:Mx} (he:RowEq n A B)(hd:∀ i,i<n→B i i≠0)(h0:∀ i j,i<n→j<n→i≠j→B i j=0) {q i:Nat} (hi:i<n):(sumN n fun k=>A i k*(B k q / B k k))=A i q:=by
 have h1:Ker n B q (fun k=>B k q / B k k) (-1):=by
  intro i hi
  have e:=sumN_single (f:=fun k=>B i k*(B k q / B k k)) hi (by
   intro k hk hne
   show B i k*(B k q / B k k)=0
   rw [h0 i k hi hk (fun e=>hne e.symm),Rat.zero_mul])
  rw [e]
  show B i i*(B i q / B i i)+B i q * -1=0
  have h2:B i i*(B i q / B i i)=B i q:=by
   rw [Rat.mul_comm]
   exact Rat.div_mul_cancel (hd i hi)
  rw [h2]
  grind
 have h2:=(he q _ (-1)).2 h1 i hi
 have e:(sumN n fun k=>A i k*(fun k=>B k q / B k k) k)=sumN n fun k=>A i k*(B k q / B k k):=rfl
 rw [e] at h2
 grind
theorem Chn.maxp {c:Chn} (hc:c.Ok) {x:Nat→Rat} (hx:∀ i,i<c.n→c.Rch i→x i≤sumN c.n fun k=>c.M i k*x k)(h0:∀ i,i<c.n→¬ c.Rch i→x i≤0):∀ i,i<c.n→x i≤0:=by
 intro i0 hi0
 obtain ⟨a,ha,_,hmax⟩:=max_of c.n x (fun _=>True) ⟨i0,hi0,trivial⟩
 by_cases hpos:0<x a
 ·have key:∀ i,c.Rch i→i<c.n→x i=x a→False:=by
   intro i hr
   induction hr with
   | exit hi hj hE=>
    rename_i i j
    intro _ he
    have h1:=hx i hi (.exit hi hj hE)
    have h3:(sumN c.n fun k=>c.M i k*x k)≤sumN c.n fun k=>c.M i k*x a:=sumN_le fun k hk=>Rat.mul_le_mul_of_nonneg_left (hmax k hk trivial) (hc.M0 i k hi hk)
    rw [sumN_mulr] at h3
    have h4:=hc.one i hi
    have h5:=le_sumN hj (hc.E0 i · hi)
    have h7:sumN c.n (c.M i)≤1-c.E i j:=by grind
    have h8:=Rat.mul_le_mul_of_nonneg_right h7 (show 0≤x a by grind)
    have:=Rat.mul_pos hE hpos
    grind
   | move hi hk hM hr ih=>
    rename_i i k
    intro _ he
    have h1:=hx i hi (.move hi hk hM hr)
    have h4:=hc.one i hi
    have h5:0≤sumN c.m (c.E i):=sumN_nonneg (hc.E0 i · hi)
    have h7:sumN c.n (c.M i)≤1:=by grind
    have h8:=Rat.mul_le_mul_of_nonneg_right h7 (show 0≤x a by grind)
    have h9:(sumN c.n fun k=>c.M i k*(x a-x k))≤0:=by
     have e:(sumN c.n fun k=>c.M i k*(x a-x k))=sumN c.n (c.M i)*x a-sumN c.n fun k=>c.M i k*x k:=by
      rw [← sumN_mulr,← sumN_sub]
      exact sumN_congr fun k _=>by grind
     rw [e]
     grind
    have h10:∀ l,l<c.n→0≤c.M i l*(x a-x l):=fun l hl=>Rat.mul_nonneg (hc.M0 i l hi hl) (by have:=hmax l hl trivial;grind)
    have h11:=sumN_zero_inv hk h10 (by have:=sumN_nonneg h10;grind)
    refine ih hk ?_
    rcases Rat.mul_eq_zero.1 h11 with h | h
    ·grind
    ·grind
  by_cases hr:c.Rch a
  ·exact (key a hr ha rfl).elim
  ·have:=h0 a ha hr
   grind
 ·have:=hmax i0 hi0 trivial
  grind
structure Chn.IsEach (c:Chn) (X:Nat→Nat→Rat):Prop where
 z:∀ i j,i<c.n→j<c.m→¬ c.Rch i→X i j=0
 eq:∀ i j,i<c.n→j<c.m→c.Rch i→X i j=(sumN c.n fun k=>c.M i k*X k j)+c.E i j
theorem Chn.out_M {c:Chn} (hc:c.Ok) {i k:Nat} (hi:i<c.n)(hk:k<c.n)(hr:¬ c.Rch i)(hr':c.Rch k):c.M i k=0:=by
 have h1:=hc.M0 i k hi hk
 have h2:¬ 0<c.M i k:=fun h=>hr (.move hi hk h hr')
 grind
theorem Chn.out_E {c:Chn} (hc:c.Ok) {i j:Nat} (hi:i<c.n)(hj:j<c.m)(hr:¬ c.Rch i):c.E i j=0:=by
 have h1:=hc.E0 i j hi hj
 have h2:¬ 0<c.E i j:=fun h=>hr (.exit hi hj h)
 grind
theorem Chn.IsEach.all {c:Chn} (hc:c.Ok) {X:Nat→Nat→Rat} (h:c.IsEach X):∀ i j,i<c.n→j<c.m→X i j=(sumN c.n fun k=>c.M i k*X k j)+c.E i j:=by
 intro i j hi hj
 by_cases hr:c.Rch i
 ·exact h.eq i j hi hj hr
 ·rw [h.z i j hi hj hr,c.out_E hc hi hj hr,sumN_eq_zero]
  ·exact (Rat.add_zero 0).symm
  ·intro k hk
   by_cases hr':c.Rch k
   ·rw [c.out_M hc hi hk hr hr',Rat.zero_mul]
   ·rw [h.z k j hk hj hr',Rat.mul_zero]
theorem Chn.IsEach.unique {c:Chn} (hc:c.Ok) {X Y:Nat→Nat→Rat} (h:c.IsEach X)(h':c.IsEach Y):∀ i j,i<c.n→j<c.m→X i j=Y i j:=by
 intro i j hi hj
 have key:=c.only hc (x:=fun i=>X i j-Y i j) (by
  intro i hi hr
  have h1:=h.eq i j hi hj hr
  have h2:=h'.eq i j hi hj hr
  show X i j-Y i j=sumN c.n fun k=>c.M i k*(X k j-Y k j)
  have e:(sumN c.n fun k=>c.M i k*(X k j-Y k j))=(sumN c.n fun k=>c.M i k*X k j)-sumN c.n fun k=>c.M i k*Y k j:=by
   rw [← sumN_sub]
   exact sumN_congr fun k _=>by grind
  rw [e]
  grind) (by
  intro i hi hr
  show X i j-Y i j=0
  rw [h.z i j hi hj hr,h'.z i j hi hj hr]
  grind) i hi
 have key:X i j-Y i j=0:=key
 grind
theorem Chn.IsEach.nonneg {c:Chn} (hc:c.Ok) {X:Nat→Nat→Rat} (h:c.IsEach X):∀ i j,i<c.n→j<c.m→0≤X i j:=by
 intro i j hi hj
 have key:=c.maxp hc (x:=fun i=>-X i j) (by
  intro i hi hr
  have h1:=h.eq i j hi hj hr
  have h2:=hc.E0 i j hi hj
  show -X i j≤sumN c.n fun k=>c.M i k * -X k j
  have e:(sumN c.n fun k=>c.M i k * -X k j)=-1*sumN c.n fun k=>c.M i k*X k j:=by
   rw [← sumN_mul]
   exact sumN_congr fun k _=>by grind
  rw [e]
  grind) (by
  intro i hi hr
  show -X i j≤0
  rw [h.z i j hi hj hr]
  grind) i hi
 have key:-X i j≤0:=key
 grind
theorem Chn.IsEach.row {c:Chn} (hc:c.Ok) {X:Nat→Nat→Rat} (h:c.IsEach X):∀ i,i<c.n→sumN c.m (X i)≤1∧(c.Rch i→(∀ k,k<c.n→c.Rch k)→sumN c.m (X i)=1):=by
 have hs:∀ i,i<c.n→c.Rch i→sumN c.m (X i)-1=sumN c.n fun k=>c.M i k*(sumN c.m (X k)-1):=by
  intro i hi hr
  have e1:sumN c.m (X i)=(sumN c.n fun k=>c.M i k*sumN c.m (X k))+sumN c.m (c.E i):=by
   have:sumN c.m (X i)=sumN c.m fun j=>(sumN c.n fun k=>c.M i k*X k j)+c.E i j:=sumN_congr fun j hj=>h.eq i j hi hj hr
   rw [this,sumN_add,sumN_swap]
   congr 1
   exact sumN_congr fun k _=>sumN_mul ..
  have e2:(sumN c.n fun k=>c.M i k*(sumN c.m (X k)-1))=(sumN c.n fun k=>c.M i k*sumN c.m (X k))-sumN c.n (c.M i):=by
   rw [← sumN_sub]
   exact sumN_congr fun k _=>by grind
  have h4:=hc.one i hi
  rw [e1,e2]
  grind
 intro i hi
 refine ⟨?_,fun hr hall=>?_⟩
 ·have key:=c.maxp hc (x:=fun i=>sumN c.m (X i)-1) (fun i hi hr=>by
   show sumN c.m (X i)-1≤_
   rw [hs i hi hr]
   exact Rat.le_refl) (fun i hi hr=>by
   show sumN c.m (X i)-1≤0
   rw [sumN_eq_zero fun j hj=>h.z i j hi hj hr]
   grind) i hi
  have key:sumN c.m (X i)-1≤0:=key
  grind
 ·have key:=c.only hc (x:=fun i=>sumN c.m (X i)-1) (fun i hi hr=>hs i hi hr) (fun i hi hr=>absurd (hall i hi) hr) i hi
  have key:sumN c.m (X i)-1=0:=key
  grind
def Chn.step (c:Chn) (v:Nat→Rat):Nat→Rat:=fun k=>sumN c.n fun i=>v i*c.M i k
def Chn.ended (c:Chn) (v:Nat→Rat):Nat→Rat:=fun j=>sumN c.n fun i=>v i*c.E i j
def Chn.at (c:Chn) (v:Nat→Rat):Nat→Nat→Rat
 | 0=>v
 | t+1=>c.step (c.at v t)
def Chn.outs (c:Chn) (v:Nat→Rat):Nat→Nat→Rat
 | 0=>fun _=>0
 | t+1=>fun j=>c.outs v t j+c.ended (c.at v t) j
def Chn.ends (c:Chn) (X:Nat→Nat→Rat) (v:Nat→Rat):Nat→Rat:=fun j=>sumN c.n fun i=>v i*X i j
theorem Chn.at_nonneg {c:Chn} (hc:c.Ok) {v:Nat→Rat} (hv:∀ i,i<c.n→0≤v i):∀ t i,i<c.n→0≤c.at v t i:=by
 intro t
 induction t with
 | zero=>exact hv
 | succ t ih=>exact fun i hi=>sumN_nonneg fun k hk=>Rat.mul_nonneg (ih k hk) (hc.M0 k i hk hi)
theorem Chn.ends_split {c:Chn} (hc:c.Ok) {X:Nat→Nat→Rat} (h:c.IsEach X)(v:Nat→Rat):∀ t j,j<c.m→c.ends X v j=c.outs v t j+c.ends X (c.at v t) j:=by
 intro t
 induction t with
 | zero=>
  intro j _
  show c.ends X v j=0+c.ends X v j
  grind
 | succ t ih=>
  intro j hj
  rw [ih j hj]
  show c.outs v t j+c.ends X (c.at v t) j=c.outs v t j+c.ended (c.at v t) j+c.ends X (c.step (c.at v t)) j
  generalize c.at v t=u
  have e:c.ends X u j=c.ended u j+c.ends X (c.step u) j:=by
   unfold Chn.ends Chn.ended Chn.step
   have e1:(sumN c.n fun i=>u i*X i j)=sumN c.n fun i=>u i*c.E i j+u i*sumN c.n fun k=>c.M i k*X k j:=sumN_congr fun i hi=>by
    rw [h.all hc i j hi hj]
    grind
   rw [e1,sumN_add]
   congr 1
   have e2:(sumN c.n fun i=>u i*sumN c.n fun k=>c.M i k*X k j)=sumN c.n fun i=>sumN c.n fun k=>u i*c.M i k*X k j:=sumN_congr fun i _=>by
    rw [← sumN_mul]
    exact sumN_congr fun k _=>by grind
   rw [e2,sumN_swap]
   exact sumN_congr fun k _=>sumN_mulr ..
  rw [e]
  grind
end Go.Proofs.YteidabibgjokkaaGreatDoor
