import Derived.Test.YteidabibgjokkaaGreatDoorMG
import Derived.Test.YteidabibgjokkaaGreatDoorML
import Derived.Test.YteidabibgjokkaaGreatDoorJC
set_option maxRecDepth 20000
set_option linter.all false
namespace Go.Proofs.YteidabibgjokkaaGreatDoor
open Go Go.Proofs.YteidabibgjokkaaGreatDoor.Lift
attribute [local irreducible] Lift.PCall Lift.HCall
theorem gR_pos0 {o n i:Nat} (hn:0<n):0≤gR o n i:=by
 have h0:=n_ne hn
 have hN:(0:Rat)<n:=by exact_mod_cast hn
 have h1:=div_mulR ((rmd o n i:Nat):Rat) h0
 have h2:(0:Rat)≤((rmd o n i:Nat):Rat):=by exact_mod_cast Nat.zero_le _
 have hh:=hlf_pos i
 unfold gR
 generalize ((rmd o n i:Nat):Rat) / (n:Rat)=x at *
 have h3:0≤x:=by
  by_cases hx:0≤x
  ·exact hx
  ·have:=Rat.mul_pos (show 0 < -x by grind) hN
   grind
 exact Rat.mul_nonneg h3 (by grind)
theorem dgV_ge {o n a p:Nat} (hn:0<n)(hp:1≤p)(hr:rmd o n (a+p)=rmd o n a)(K:Nat):sumN K (gR o n)≤dgV o n a p:=by
 have h1:=hlf_lt p hp
 have hd:1-hlf p≠0:=by grind
 have t0:dgV o n a p-sumN (a+p) (gR o n)=(dgV o n a p-sumN a (gR o n))*hlf p:=by
  unfold dgV
  have h:=div_mulR (sumN (a+p) (gR o n)-sumN a (gR o n)) hd
  generalize (sumN (a+p) (gR o n)-sumN a (gR o n)) / (1-hlf p)=z at *
  grind
 have tj:∀ j,dgV o n a p-sumN (a+j+p) (gR o n)=(dgV o n a p-sumN (a+j) (gR o n))*hlf p:=fun j=>by
  induction j with
  | zero=>exact t0
  | succ j ih=>
   have hs:=gR_shift hr (show a≤a+j by omega)
   rw [show a+(j+1)+p=a+j+p+1 by omega,show a+(j+1)=a+j+1 by omega,sumN_succ,sumN_succ,hs]
   grind
 have mono:∀ K i,sumN K (gR o n)≤sumN (K+i) (gR o n):=fun K i=>by
  induction i with
  | zero=>exact Rat.le_refl
  | succ i ih=>
   have hg:=gR_pos0 (o:=o) (i:=K+i) hn
   rw [← Nat.add_assoc,sumN_succ]
   grind
 have big:∀ j,sumN (a+j) (gR o n)≤dgV o n a p:=fun j=>by
  have h2:=mono (a+j) p
  have h3:=tj j
  have h4:0<1-hlf p:=by grind
  generalize hb:dgV o n a p-sumN (a+j) (gR o n)=b at *
  by_cases hb0:0≤b
  ·grind
  ·have:=Rat.mul_pos (show 0 < -b by grind) h4
   grind
 have:=mono K a
 have h2:=big K
 rw [Nat.add_comm a K] at h2
 grind
theorem dgV_same {o n a p b q:Nat} (hn:0<n)(hp:1≤p)(hr:rmd o n (a+p)=rmd o n a)(hq:1≤q)(hs:rmd o n (b+q)=rmd o n b):dgV o n a p=dgV o n b q:=by
 have h1:dgV o n a p≤dgV o n b q:=le_of_hlf (c:=2) fun K=>by
  have:=dgV_le hn hp hr K
  have:=dgV_ge hn hq hs K
  grind
 have h2:dgV o n b q≤dgV o n a p:=le_of_hlf (c:=2) fun K=>by
  have:=dgV_le hn hq hs K
  have:=dgV_ge hn hp hr K
  grind
 grind
structure JS (n:Int) (l:List Int) (J:Nat):Prop where
 lv:Lvl n l
 go:goes n l J
 hb:bgL n l (J+1)≤60
 st:stopL n l J
 hn:n=sumI l
 pos:∀ x ∈ l,1≤x∧x<n
theorem cat_get {P:Nat→T2} {a k:Nat}:∀ {j:Nat},a<j→k<(P a).length→(catT P j).getD ((catT P a).length+k) z2=(P a).getD k z2
 | j+1,h,hk=>by
  rw [catT]
  by_cases e:a=j
  ·subst e
   rw [List.getD_eq_getElem?_getD,List.getElem?_append_right (by omega),Nat.add_sub_cancel_left,← List.getD_eq_getElem?_getD]
  ·have h2:(catT P a).length+k<(catT P j).length:=by
    have key:∀ {b c:Nat},b≤c→(catT P b).length≤(catT P c).length:=fun {b c}=>by
     induction c with
     | zero=>
      intro h
      obtain rfl:b=0:=by omega
      exact Nat.le_refl _
     | succ c ih=>
      intro h
      by_cases e:b=c+1
      ·subst e;exact Nat.le_refl _
      ·have:=ih (by omega)
       rw [catT,List.length_append]
       omega
    have:=key (show a+1≤j by omega)
    rw [catT,List.length_append] at this
    omega
   rw [List.getD_eq_getElem?_getD,List.getElem?_append_left h2,← List.getD_eq_getElem?_getD]
   exact cat_get (by omega) hk
theorem T_get {n:Int} {l:List Int} {J:Nat} (h:Lvl n l) {a k:Nat} (ha:a≤J)(hk:k<ml n l a):(catT (Pl n l) (J+1)).getD (bgL n l a+k) z2=(xE (ol n l a) (tt n l a:Nat) (2*k),xE (ol n l a) (tt n l a:Nat) (2*k+1)):=by
 have h2:=h.two a
 rw [← cat_length n l a,cat_get (by omega) (by rw [Pl_length];exact hk)]
 unfold Pl pairsI
 rw [List.getD_eq_getElem?_getD,List.getElem?_map,List.getElem?_range hk]
 show ((endsI _ _ _).getD (2*k) 0,(endsI _ _ _).getD (2*k+1) 0)=_
 rw [endsI_get (by omega),endsI_get (by omega)]
theorem sumN_dbl (f:Nat→Rat):∀ m,(sumN m fun k=>f (2*k)+f (2*k+1))=sumN (2*m) f
 | 0=>rfl
 | m+1=>by
  rw [show 2*(m+1)=2*m+1+1 by omega,sumN_succ,sumN_succ,sumN_succ,sumN_dbl f m]
  grind
def inS (a m:Nat) (i:Nat):Rat:=if a≤i∧i<a+m then 1 else 0
theorem sumN_inS {N a m:Nat} (f:Nat→Rat)(h:a+m≤N):(sumN N fun i=>inS a m i*f i)=sumN m fun k=>f (a+k):=by
 obtain ⟨c,rfl⟩:∃ c,N=a+m+c:=⟨N-(a+m),by omega⟩
 rw [sumN_split,sumN_split,sumN_eq_zero (n:=a) fun i hi=>by rw [inS,if_neg (by omega)];exact Rat.zero_mul _,sumN_eq_zero (n:=c) fun i hi=>by rw [inS,if_neg (by omega)];exact Rat.zero_mul _,Rat.zero_add,Rat.add_zero]
 exact sumN_congr fun i hi=>by rw [inS,if_pos (by omega),Rat.one_mul]
theorem hit_rng (to i:Nat):∀ m,(sumN m fun q=>((hit ((to:Int)+(q:Int)) (wM i):Nat):Rat))=inS to m i
 | 0=>by
  unfold inS
  rw [if_neg (by omega)]
  rfl
 | m+1=>by
  rw [sumN_succ,hit_rng to i m]
  unfold inS hit wM
  by_cases h1:to≤i∧i<to+m
  ·rw [if_pos h1,if_neg (by omega),if_pos (by omega)]
   decide +kernel
  ·by_cases h2:i=to+m
   ·rw [if_neg h1,if_pos (by omega),if_pos (by omega)]
    decide +kernel
   ·rw [if_neg h1,if_neg (by omega),if_neg (by omega)]
    decide +kernel
theorem hit_out (n:Int)(R:List Int)(j:Nat):∀ i,(sumN (outI n R i).length fun q=>((hit (-1-(outI n R i).getD q 0) (wE j):Nat):Rat))=if j<i∧n≤R.getD j 0*2 then 1 else 0
 | 0=>by
  rw [if_neg (by omega)]
  rfl
 | i+1=>by
  have ih:=hit_out n R j i
  rw [outI_succ]
  by_cases hi:n≤R.getD i 0*2
  ·rw [if_pos hi,List.length_append,List.length_singleton,sumN_succ]
   have e1:(sumN (outI n R i).length fun q=>((hit (-1-(outI n R i++[(i:Int)]).getD q 0) (wE j):Nat):Rat))=sumN (outI n R i).length fun q=>((hit (-1-(outI n R i).getD q 0) (wE j):Nat):Rat):=sumN_congr fun q hq=>by
    rw [List.getD_eq_getElem?_getD,List.getElem?_append_left hq,← List.getD_eq_getElem?_getD]
   have e2:(outI n R i++[(i:Int)]).getD (outI n R i).length 0=(i:Int):=by
    rw [List.getD_eq_getElem?_getD,List.getElem?_append_right (Nat.le_refl _),Nat.sub_self]
    rfl
   rw [e1,e2,ih]
   unfold hit wE
   by_cases e:j=i
   ·subst e
    rw [if_neg (by omega),if_pos rfl,if_pos ⟨by omega,hi⟩]
    decide +kernel
   ·rw [if_neg (show ¬ (-1-(i:Int)=-1-(j:Int)) by omega)]
    by_cases h2:j<i∧n≤R.getD j 0*2
    ·rw [if_pos h2,if_pos ⟨by omega,h2.2⟩]
     decide +kernel
    ·rw [if_neg h2,if_neg (by omega)]
     decide +kernel
  ·rw [if_neg hi,ih]
   by_cases e:j=i
   ·subst e
    rw [if_neg (by omega),if_neg (by omega)]
   ·by_cases h2:j<i∧n≤R.getD j 0*2
    ·rw [if_pos h2,if_pos ⟨by omega,h2.2⟩]
    ·rw [if_neg h2,if_neg (by omega)]
section
variable {n:Int} {l:List Int} {J:Nat}
theorem JS.moves (h:JS n l J) {a:Nat} (ha:a≤J)(i:Nat):(sumN (ml n l a) fun k=>chA (catT (Pl n l) (J+1)) (bgL n l a+k) i)=inS (tt n l a) (ml n l (a+1)) i*(1 / 2):=by
 have hlen:=cat_length n l (J+1)
 have hmono:=bgL_mono n l (i:=a+1) (j:=J+1) (by omega)
 rw [bgL] at hmono
 have e1:(sumN (ml n l a) fun k=>chA (catT (Pl n l) (J+1)) (bgL n l a+k) i)=(sumN (ml n l a) fun k=>((hit (xE (ol n l a) (tt n l a:Nat) (2*k)) (wM i):Nat):Rat)+((hit (xE (ol n l a) (tt n l a:Nat) (2*k+1)) (wM i):Nat):Rat))*(1 / 2):=by
  rw [← sumN_mulr]
  refine sumN_congr fun k hk=>?_
  have:=half_row (T:=catT (Pl n l) (J+1)) (w:=wM) (i:=bgL n l a+k) (k:=i) (by omega)
  rw [T_get h.lv ha hk] at this
  exact this
 rw [e1,sumN_dbl (fun q=>((hit (xE (ol n l a) (tt n l a:Nat) q) (wM i):Nat):Rat)),← h.lv.two a,sumN_split]
 congr 1
 rw [sumN_eq_zero fun q hq=>?_,Rat.zero_add,← hit_rng]
 ·refine sumN_congr fun q hq=>?_
  unfold xE
  rw [if_neg (by omega),show (((ol n l a).length+q:Nat):Int)-((ol n l a).length:Int)=(q:Int) by omega]
 ·have hm:(ol n l a).getD q 0 ∈ ol n l a:=by
   rw [List.getD_eq_getElem?_getD,List.getElem?_eq_getElem hq]
   exact List.getElem_mem _
  obtain ⟨c,hc,e⟩:=mem_outI hm
  unfold xE
  rw [if_pos hq,e,show hit (-1-(c:Int)) (wM i)=0 from if_neg (by unfold wM;omega)]
  rfl
theorem JS.puts (h:JS n l J) {a:Nat} (ha:a≤J)(j:Nat):(sumN (ml n l a) fun k=>chB (catT (Pl n l) (J+1)) (bgL n l a+k) j)=(if j<l.length∧n≤(Rl n l a).getD j 0*2 then 1 else 0)*(1 / 2):=by
 have hlen:=cat_length n l (J+1)
 have hmono:=bgL_mono n l (i:=a+1) (j:=J+1) (by omega)
 rw [bgL] at hmono
 have e1:(sumN (ml n l a) fun k=>chB (catT (Pl n l) (J+1)) (bgL n l a+k) j)=(sumN (ml n l a) fun k=>((hit (xE (ol n l a) (tt n l a:Nat) (2*k)) (wE j):Nat):Rat)+((hit (xE (ol n l a) (tt n l a:Nat) (2*k+1)) (wE j):Nat):Rat))*(1 / 2):=by
  rw [← sumN_mulr]
  refine sumN_congr fun k hk=>?_
  have:=half_row (T:=catT (Pl n l) (J+1)) (w:=wE) (i:=bgL n l a+k) (k:=j) (by omega)
  rw [T_get h.lv ha hk] at this
  exact this
 have ho:=hit_out n (Rl n l a) j (Rl n l a).length
 rw [(h.lv.is a).len] at ho
 rw [e1,sumN_dbl (fun q=>((hit (xE (ol n l a) (tt n l a:Nat) q) (wE j):Nat):Rat)),← h.lv.two a,sumN_split,← ho]
 congr 1
 rw [sumN_eq_zero (n:=ml n l (a+1)) fun q hq=>?_,Rat.add_zero]
 ·have e:ol n l a=outI n (Rl n l a) l.length:=by unfold ol;rw [(h.lv.is a).len]
  rw [← e]
  refine sumN_congr fun q hq=>?_
  unfold xE
  rw [if_pos hq]
 ·unfold xE
  rw [if_neg (by omega),show hit ((tt n l a:Int)+((((ol n l a).length+q:Nat):Int)-((ol n l a).length:Int))) (wE j)=0 from if_neg (by unfold wE;omega)]
  rfl
theorem JS.rest (h:JS n l J) {j:Nat} (hj:j<l.length):∀ t,(Rl n l t).getD j 0=((rmd (l.getD j 0).toNat n.toNat t:Nat):Int)
 | 0=>by
  have hx:=h.pos _ (getD_mem_W hj)
  show l.getD j 0=_
  unfold rmd
  rw [Nat.pow_zero,Nat.mul_one,Nat.mod_eq_of_lt (by omega)]
  omega
 | t+1=>by
  have ih:=JS.rest h hj t
  have hn:=h.lv.n2
  have hlt:=rmd_lt (o:=(l.getD j 0).toNat) (n:=n.toNat) (i:=t) (by omega)
  have hlen:=(h.lv.is t).len
  have e:(Rl n l (t+1)).getD j 0=if n≤(Rl n l t).getD j 0*2 then (Rl n l t).getD j 0*2-n else (Rl n l t).getD j 0*2:=by
   show (nxtI n (Rl n l t) (Rl n l t).length).getD j 0=_
   unfold nxtI
   rw [List.getD_eq_getElem?_getD,List.getElem?_map,List.getElem?_range (by omega)]
   rfl
  rw [e,ih,rmd_succ]
  generalize rmd (l.getD j 0).toNat n.toNat t=r at *
  by_cases h2:n≤(r:Int)*2
  ·rw [if_pos h2,Nat.mod_eq_sub_mod (by omega),Nat.mod_eq_of_lt (by omega)]
   omega
  ·rw [if_neg h2,Nat.mod_eq_of_lt (by omega)]
   omega
theorem JS.digs (h:JS n l J) {j:Nat} (hj:j<l.length)(t:Nat):(if j<l.length∧n≤(Rl n l t).getD j 0*2 then (1:Rat) else 0)=((dig (l.getD j 0).toNat n.toNat t:Nat):Rat):=by
 have hn:=h.lv.n2
 have hlt:=rmd_lt (o:=(l.getD j 0).toNat) (n:=n.toNat) (i:=t) (by omega)
 rw [h.rest hj]
 unfold dig
 generalize rmd (l.getD j 0).toNat n.toNat t=r at *
 by_cases h2:n≤(r:Int)*2
 ·rw [if_pos ⟨hj,h2⟩,show 2*r / n.toNat=1 from Nat.div_eq_of_lt_le (by omega) (by omega)]
  rfl
 ·rw [if_neg (by omega),Nat.div_eq_of_lt (by omega)]
  rfl
end
theorem inS_zero (a i:Nat):inS a 0 i=0:=if_neg (by omega)
theorem sumI_sumN (l:List Int):∀ i,i≤l.length→((sumI (l.take i):Int):Rat)=sumN i fun j=>((l.getD j 0:Int):Rat)
 | 0,_=>rfl
 | i+1,hi=>by rw [sumI_take (by omega),sumN_succ,← sumI_sumN l i (by omega),Rat.intCast_add]
theorem sumI_none {l:List Int} (h:∀ x ∈ l,0≤x)(h0:sumI l=0):∀ j,j<l.length→l.getD j 0=0:=fun j hj=>by
 have e:=sumI_sumN l l.length (Nat.le_refl _)
 rw [List.take_length,h0] at e
 have h1:=sumN_zero_each (n:=l.length) (f:=fun j=>((l.getD j 0:Int):Rat)) (fun i hi=>by exact_mod_cast h _ (getD_mem_W hi)) e.symm j hj
 exact_mod_cast h1
def Fx (n:Int) (l:List Int) (v p i a:Nat):Rat:=if a<v+p then inS (bgL n l a) (ml n l a) i else inS (bgL n l v) (ml n l v) i
structure LP (n:Int) (l:List Int) (J v p:Nat):Prop where
 p1:1≤p
 jv:J<v+p
 fit:∀ a,a<v+p→bgL n l a+ml n l a≤bgL n l (J+1)
 mv:∀ a,a<v+p→∀ i,(sumN (ml n l a) fun k=>chA (catT (Pl n l) (J+1)) (bgL n l a+k) i)=Fx n l v p i (a+1)*(1 / 2)
 pt:∀ a,a<v+p→∀ j,j<l.length→(sumN (ml n l a) fun k=>chB (catT (Pl n l) (J+1)) (bgL n l a+k) j)=((dig (l.getD j 0).toNat n.toNat a:Nat):Rat)*(1 / 2)
 ag:∀ j,j<l.length→rmd (l.getD j 0).toNat n.toNat (v+p)=rmd (l.getD j 0).toNat n.toNat v
section
variable {n:Int} {l:List Int} {J:Nat}
theorem JS.fits (h:JS n l J) {a:Nat} (ha:a≤J):bgL n l a+ml n l a≤bgL n l (J+1):=by
 have hmono:=bgL_mono n l (i:=a+1) (j:=J+1) (by omega)
 rwa [bgL] at hmono
theorem JS.per (h:JS n l J):∃ v p,LP n l J v p:=by
 rcases h.st with h1 | h1
 ·cases hq:lookL (Rl n l (J+1)) (mLv n l (J+1)) with
  | none=>rw [hq] at h1;cases h1
  | some w=>
   obtain ⟨v,hv,e⟩:=mem_mLv (lookL_mem hq)
   injection e with e1 e2
   have ht:=tt_back h.go (show v≤J by omega) e1.symm
   have hm:ml n l (J+1)=ml n l v:=by unfold ml;rw [e1]
   obtain ⟨p,hp⟩:∃ p,J+1=v+p:=⟨J+1-v,by omega⟩
   refine ⟨v,p,by omega,by omega,fun a ha=>h.fits (by omega),fun a ha i=>?_,fun a ha j hj=>?_,fun j hj=>?_⟩
   ·rw [h.moves (by omega) i]
    congr 1
    unfold Fx
    by_cases e:a+1<v+p
    ·rw [if_pos e,tt_next (h.go a (by omega)).1]
    ·obtain rfl:a=J:=by omega
     rw [if_neg e,ht,hm]
   ·rw [h.puts (by omega) j,h.digs hj]
   ·have h3:=h.rest hj (J+1)
    rw [e1,h.rest hj v,hp] at h3
    exact_mod_cast h3.symm
 ·have hs:=(h.lv.is (J+1)).sum
  have hz:=sumI_none (l:=Rl n l (J+1)) (fun x hx=>((h.lv.is (J+1)).bd x hx).1) (by
   have:ml n l (J+1)=0:=h1
   rw [hs,this]
   exact Int.mul_zero _)
  have hr:∀ j,j<l.length→rmd (l.getD j 0).toNat n.toNat (J+1)=0:=fun j hj=>by
   have h3:=h.rest hj (J+1)
   rw [hz j (by rw [(h.lv.is (J+1)).len];exact hj)] at h3
   exact_mod_cast h3.symm
  have h1:ml n l (J+1)=0:=h1
  refine ⟨J+1,1,Nat.le_refl _,by omega,fun a ha=>?_,fun a ha i=>?_,fun a ha j hj=>?_,fun j hj=>?_⟩
  ·by_cases e:a=J+1
   ·rw [e,h1]
    exact Nat.le_refl _
   ·exact h.fits (by omega)
  ·by_cases e:a=J+1
   ·rw [e,h1]
    unfold Fx
    rw [if_neg (by omega),h1,inS_zero]
    show (0:Rat)=_
    decide +kernel
   ·rw [h.moves (by omega) i]
    unfold Fx
    by_cases e2:a=J
    ·rw [e2,if_pos (by omega),h1,inS_zero,inS_zero]
    ·rw [if_pos (by omega),tt_next (h.go a (by omega)).1]
  ·by_cases e:a=J+1
   ·rw [e,h1]
    unfold dig
    rw [hr j hj,Nat.mul_zero,Nat.zero_div]
    show (0:Rat)=_
    decide +kernel
   ·rw [h.puts (by omega) j,h.digs hj]
  ·rw [rmd_succ,hr j hj,Nat.mul_zero,Nat.zero_mod]
theorem JS.nn (h:JS n l J):0<n.toNat:=by have:=h.lv.n2;omega
theorem JS.lsum (h:JS n l J)(t:Nat):(sumN l.length fun j=>((rmd (l.getD j 0).toNat n.toNat t:Nat):Rat))=(ml n l t:Rat)*(n.toNat:Rat):=by
 have hs:=(h.lv.is t).sum
 have hl:=(h.lv.is t).len
 have e:=sumI_sumN (Rl n l t) _ (Nat.le_refl _)
 rw [List.take_length,hs,hl] at e
 rw [sumN_congr (g:=fun j=>(((Rl n l t).getD j 0:Int):Rat)) fun j hj=>by rw [h.rest hj t,Rat.intCast_natCast],← e,Rat.intCast_mul,Rat.intCast_natCast]
 have hn:=h.lv.n2
 have hc:((n:Int):Rat)=(n.toNat:Rat):=by
  conv=>lhs;rw [show n=(n.toNat:Int) by omega]
  exact Rat.intCast_natCast _
 rw [hc,Rat.mul_comm]
theorem JS.gsum (h:JS n l J)(t:Nat):(sumN l.length fun j=>gR (l.getD j 0).toNat n.toNat t)=(ml n l t:Rat)*hlf t:=by
 have h0:=n_ne h.nn
 have e:(sumN l.length fun j=>gR (l.getD j 0).toNat n.toNat t)=sumN l.length fun j=>((rmd (l.getD j 0).toNat n.toNat t:Nat):Rat)*((n.toNat:Rat)⁻¹*hlf t):=sumN_congr fun j hj=>by
  unfold gR
  rw [Rat.div_def,Rat.mul_assoc]
 rw [e,sumN_mulr,h.lsum]
 have:=Rat.mul_inv_cancel _ h0
 generalize (n.toNat:Rat)⁻¹=z at *
 grind
theorem JS.g0 (h:JS n l J) {j:Nat} (hj:j<l.length):gR (l.getD j 0).toNat n.toNat 0=(((l.getD j 0).toNat:Nat):Rat) / (n.toNat:Rat):=by
 have hx:=h.pos _ (getD_mem_W hj)
 unfold gR rmd
 rw [Nat.pow_zero,Nat.mul_one,Nat.mod_eq_of_lt (by omega),show hlf 0=1 from rfl,Rat.mul_one]
theorem JS.g0p (h:JS n l J) {j:Nat} (hj:j<l.length):0<gR (l.getD j 0).toNat n.toNat 0:=by
 have hx:=h.pos _ (getD_mem_W hj)
 have h1:=div_mulR (((l.getD j 0).toNat:Nat):Rat) (n_ne h.nn)
 have h2:(0:Rat)<(n.toNat:Rat):=by exact_mod_cast h.nn
 have h3:(0:Rat)<(((l.getD j 0).toNat:Nat):Rat):=by exact_mod_cast (show 0<(l.getD j 0).toNat by omega)
 rw [h.g0 hj]
 generalize (((l.getD j 0).toNat:Nat):Rat) / (n.toNat:Rat)=x at *
 by_cases hx:0<x
 ·exact hx
 ·have:=Rat.mul_le_mul_of_nonneg_right (show x≤0 by grind) (show (0:Rat)≤(n.toNat:Rat) by grind)
  grind
variable {v p:Nat}
theorem LP.at (P:LP n l J v p)(h:JS n l J):∀ t,∃ a,a<v+p∧(t<v+p→a=t)∧(∀ i,i<bgL n l (J+1)→atC (bgL n l (J+1)) (chA (catT (Pl n l) (J+1))) e1 t i=inS (bgL n l a) (ml n l a) i*hlf t)∧∀ j,j<l.length→rmd (l.getD j 0).toNat n.toNat t=rmd (l.getD j 0).toNat n.toNat a
 | 0=>by
  have:=P.p1
  refine ⟨0,by omega,fun _=>rfl,fun i hi=>?_,fun j hj=>rfl⟩
  show e1 i=inS 0 (ml n l 0) i*1
  rw [h.lv.one,Rat.mul_one]
  unfold e1 inS
  by_cases e:i=0
  ·rw [if_pos e,if_pos (by omega)]
  ·rw [if_neg e,if_neg (by omega)]
 | t+1=>by
  have hp1:=P.p1
  obtain ⟨a,ha,hat,hi,hj⟩:=P.at h t
  have hstep:∀ i,i<bgL n l (J+1)→atC (bgL n l (J+1)) (chA (catT (Pl n l) (J+1))) e1 (t+1) i=Fx n l v p i (a+1)*hlf (t+1):=fun i hi'=>by
   show (sumN (bgL n l (J+1)) fun k=>atC (bgL n l (J+1)) (chA (catT (Pl n l) (J+1))) e1 t k*chA (catT (Pl n l) (J+1)) k i)=_
   have e:(sumN (bgL n l (J+1)) fun k=>atC (bgL n l (J+1)) (chA (catT (Pl n l) (J+1))) e1 t k*chA (catT (Pl n l) (J+1)) k i)=sumN (bgL n l (J+1)) fun k=>inS (bgL n l a) (ml n l a) k*(hlf t*chA (catT (Pl n l) (J+1)) k i):=sumN_congr fun k hk=>by
    rw [hi k hk,Rat.mul_assoc]
   rw [e,sumN_inS (fun k=>hlf t*chA (catT (Pl n l) (J+1)) k i) (P.fit a ha),sumN_mul,P.mv a ha,hlf]
   grind
  by_cases e:a+1<v+p
  ·refine ⟨a+1,e,fun ht=>by rw [hat (by omega)],fun i hi'=>?_,fun j hj'=>?_⟩
   ·rw [hstep i hi',Fx,if_pos e]
   ·rw [rmd_succ,hj j hj',← rmd_succ]
  ·have ev:v+p=a+1:=by omega
   refine ⟨v,by omega,fun ht=>by have:=hat (by omega);omega,fun i hi'=>?_,fun j hj'=>?_⟩
   ·rw [hstep i hi',Fx,if_neg e]
   ·rw [rmd_succ,hj j hj',← rmd_succ,← ev]
    exact P.ag j hj'
theorem LP.out (P:LP n l J v p)(h:JS n l J) {j:Nat} (hj:j<l.length):∀ t,outC (bgL n l (J+1)) (chA (catT (Pl n l) (J+1))) (chB (catT (Pl n l) (J+1))) e1 t j=gR (l.getD j 0).toNat n.toNat 0-gR (l.getD j 0).toNat n.toNat t
 | 0=>by
  show (0:Rat)=_
  grind
 | t+1=>by
  obtain ⟨a,ha,hat,hi,hr⟩:=P.at h t
  show outC (bgL n l (J+1)) (chA (catT (Pl n l) (J+1))) (chB (catT (Pl n l) (J+1))) e1 t j+(sumN (bgL n l (J+1)) fun k=>atC (bgL n l (J+1)) (chA (catT (Pl n l) (J+1))) e1 t k*chB (catT (Pl n l) (J+1)) k j)=_
  have e:(sumN (bgL n l (J+1)) fun k=>atC (bgL n l (J+1)) (chA (catT (Pl n l) (J+1))) e1 t k*chB (catT (Pl n l) (J+1)) k j)=sumN (bgL n l (J+1)) fun k=>inS (bgL n l a) (ml n l a) k*(hlf t*chB (catT (Pl n l) (J+1)) k j):=sumN_congr fun k hk=>by
   rw [hi k hk,Rat.mul_assoc]
  have hd:=dig_g (o:=(l.getD j 0).toNat) (i:=t) h.nn
  have hda:dig (l.getD j 0).toNat n.toNat t=dig (l.getD j 0).toNat n.toNat a:=by
   unfold dig
   rw [hr j hj]
  rw [LP.out P h hj t,e,sumN_inS (fun k=>hlf t*chB (catT (Pl n l) (J+1)) k j) (P.fit a ha),sumN_mul,P.pt a ha j hj]
  rw [hda,hlf] at hd
  grind
theorem exI_le {T:T2} {B:Int} (hB:0≤B)(h:∀ x ∈ T,-B≤x.1∧-B≤x.2):∀ i,i≤T.length→exI T i≤B
 | 0,_=>hB
 | i+1,hi=>by
  have hx:=h _ (getD_mem_T (T:=T) (j:=i) (by omega))
  exact mx3_bd (exI_le hB h i (by omega)) hx.1 hx.2
theorem JS.low (h:JS n l J):∀ x ∈ catT (Pl n l) (J+1),-(l.length:Int)≤x.1∧-(l.length:Int)≤x.2:=fun x hx=>by
 obtain ⟨a,ha,hx⟩:=mem_cat hx
 obtain ⟨k,hk,rfl⟩:=mem_pairs hx
 have h2:=h.lv.two a
 rw [endsI_get (by omega),endsI_get (by omega)]
 have key:∀ q,-(l.length:Int)≤xE (ol n l a) (tt n l a:Nat) q:=fun q=>by
  unfold xE
  by_cases hq:q<(ol n l a).length
  ·rw [if_pos hq]
   have hm:(ol n l a).getD q 0 ∈ ol n l a:=by
    rw [List.getD_eq_getElem?_getD,List.getElem?_eq_getElem hq]
    exact List.getElem_mem _
   obtain ⟨c,hc,e⟩:=mem_outI hm
   rw [e]
   have hL:=(h.lv.is a).len
   omega
  ·rw [if_neg hq]
   omega
 exact ⟨key _,key _⟩
theorem JS.used (h:JS n l J) {j:Nat} (hj:j<l.length):∃ i,i<bgL n l (J+1)∧chB (catT (Pl n l) (J+1)) i j≠0:=by
 refine Classical.byContradiction fun hn=>?_
 have hz:∀ i,i<bgL n l (J+1)→chB (catT (Pl n l) (J+1)) i j=0:=fun i hi=>Classical.byContradiction fun e=>hn ⟨i,hi,e⟩
 obtain ⟨v,p,P⟩:=h.per
 have h0:∀ t,outC (bgL n l (J+1)) (chA (catT (Pl n l) (J+1))) (chB (catT (Pl n l) (J+1))) e1 t j=0:=fun t=>by
  induction t with
  | zero=>rfl
  | succ t ih=>
   show outC (bgL n l (J+1)) (chA (catT (Pl n l) (J+1))) (chB (catT (Pl n l) (J+1))) e1 t j+(sumN (bgL n l (J+1)) fun k=>atC (bgL n l (J+1)) (chA (catT (Pl n l) (J+1))) e1 t k*chB (catT (Pl n l) (J+1)) k j)=0
   rw [ih,sumN_eq_zero fun k hk=>by rw [hz k hk,Rat.mul_zero]]
   exact Rat.add_zero 0
 have hp:=h.g0p hj
 have hle:gR (l.getD j 0).toNat n.toNat 0≤0:=le_of_hlf (c:=1) fun K=>by
  have h1:=P.out h hj K
  have h2:=gR_le (o:=(l.getD j 0).toNat) (i:=K) h.nn
  rw [h0 K] at h1
  grind
 grind
theorem chB_ge {T:T2} {i j:Nat} (hi:i<T.length)(h0:chB T i j≠0):(1 / 2:Rat)≤chB T i j∧(j:Int)+1≤exI T T.length:=by
 have e:chB T i j=_:=half_row (T:=T) (w:=wE) (k:=j) hi
 have hg:=exI_ge T T.length i hi
 rw [e] at h0 ⊢
 unfold hit wE at *
 by_cases a1:(T.getD i z2).1=-1-(j:Int)
 ·refine ⟨?_,by omega⟩
  rw [if_pos a1]
  split<;>decide +kernel
 ·by_cases a2:(T.getD i z2).2=-1-(j:Int)
  ·refine ⟨?_,by omega⟩
   rw [if_neg a1,if_pos a2]
   decide +kernel
  ·rw [if_neg a1,if_neg a2] at h0
   exact absurd (by decide +kernel) h0
theorem JS.ex (h:JS n l J):exI (catT (Pl n l) (J+1)) (catT (Pl n l) (J+1)).length=(l.length:Int)∧exT (catT (Pl n l) (J+1))=l.length:=by
 have h1:=exI_le (B:=(l.length:Int)) (by omega) h.low _ (Nat.le_refl _)
 have hL:=h.lv.L1
 obtain ⟨i,hi,h0⟩:=h.used (j:=l.length-1) (by omega)
 have h2:=(chB_ge (by rw [cat_length];exact hi) h0).2
 have e:exI (catT (Pl n l) (J+1)) (catT (Pl n l) (J+1)).length=(l.length:Int):=by omega
 exact ⟨e,by unfold exT;omega⟩
end
theorem sumN_tight {n:Nat} {f g:Nat→Rat} (h:∀ i,i<n→f i≤g i)(hs:sumN n g≤sumN n f):∀ i,i<n→g i=f i:=fun i hi=>by
 have h1:sumN n f≤sumN n g:=sumN_le h
 have h2:=sumN_zero_each (n:=n) (f:=fun i=>g i-f i) (fun i hi=>by have:=h i hi;grind) (by rw [sumN_sub];grind) i hi
 have h2:g i-f i=0:=h2
 grind
theorem sumN_shift1 (f:Nat→Rat):∀ K,(sumN K fun a=>f (a+1))=sumN K f-f 0+f K
 | 0=>by
  show (0:Rat)=0-f 0+f 0
  grind
 | K+1=>by
  rw [sumN_succ,sumN_shift1 f K,sumN_succ]
  grind
def wgV (v p a:Nat):Rat:=if a<v then hlf a else hlf a*(1-hlf p)⁻¹
theorem wg_sum (v p:Nat)(F:Nat→Rat):(sumN (v+p) fun a=>wgV v p a*F a)=(sumN v fun a=>hlf a*F a)+((sumN (v+p) fun a=>hlf a*F a)-sumN v fun a=>hlf a*F a)*(1-hlf p)⁻¹:=by
 have e1:(sumN v fun a=>wgV v p a*F a)=sumN v fun a=>hlf a*F a:=sumN_congr fun a ha=>by rw [wgV,if_pos ha]
 have e2:(sumN p fun k=>wgV v p (v+k)*F (v+k))=(sumN p fun k=>hlf (v+k)*F (v+k))*(1-hlf p)⁻¹:=by
  rw [← sumN_mulr]
  refine sumN_congr fun k hk=>?_
  rw [wgV,if_neg (by omega)]
  generalize (1-hlf p)⁻¹=z
  grind
 rw [sumN_split,sumN_split,e1,e2]
 grind
section
variable {n:Int} {l:List Int} {J:Nat}
theorem JS.isC (h:JS n l J):isC (bgL n l (J+1)) l.length (chA (catT (Pl n l) (J+1))) (chB (catT (Pl n l) (J+1)))=true:=by
 have hS:=cat_isS h.lv h.go h.hb h.st
 have hr:=(isS_iff.1 hS).2.2
 have hge:=exI_ge (catT (Pl n l) (J+1)) (catT (Pl n l) (J+1)).length
 rw [h.ex.1] at hge
 have:=chain_isC hr hge
 rwa [cat_length] at this
theorem JS.is (h:JS n l J):(chn (bgL n l (J+1)) l.length (chA (catT (Pl n l) (J+1))) (chB (catT (Pl n l) (J+1)))).IsEach (eachM (bgL n l (J+1)) l.length (chA (catT (Pl n l) (J+1))) (chB (catT (Pl n l) (J+1)))):=each_is (L:=1) h.isC (fun i k _ _=>hM_len ..) (fun i k _ _=>hM_len ..) (by decide)
theorem e1_len (i:Nat):rL (e1 i)≤1:=by unfold e1;split<;>decide +kernel
theorem JS.isV (h:JS n l J):(chn (bgL n l (J+1)) l.length (chA (catT (Pl n l) (J+1))) (chB (catT (Pl n l) (J+1)))).IsVis e1 (visV (bgL n l (J+1)) l.length (chA (catT (Pl n l) (J+1))) (chB (catT (Pl n l) (J+1))) e1):=vis_is (L:=1) h.isC (fun i k _ _=>hM_len ..) (fun i _=>Nat.le_trans (e1_len i) (by decide)) (by decide)
theorem e1_pos (i:Nat):0≤e1 i:=by unfold e1;split<;>decide +kernel
theorem JS.N1 (h:JS n l J):1≤bgL n l (J+1):=by
 have:=bgL_mono n l (i:=1) (j:=J+1) (by omega)
 have e:bgL n l 1=1:=(Nat.zero_add _).trans h.lv.one
 omega
theorem JS.ends (h:JS n l J):∀ j,j<l.length→thr (bgL n l (J+1)) e1 (eachM (bgL n l (J+1)) l.length (chA (catT (Pl n l) (J+1))) (chB (catT (Pl n l) (J+1)))) j=gR (l.getD j 0).toNat n.toNat 0:=by
 have hok:=isC_ok h.isC
 have hX:=h.is
 obtain ⟨v,p,P⟩:=h.per
 have hgs:=h.gsum 0
 rw [h.lv.one] at hgs
 generalize hx:eachM (bgL n l (J+1)) l.length (chA (catT (Pl n l) (J+1))) (chB (catT (Pl n l) (J+1)))=X at *
 have hle:∀ j,j<l.length→gR (l.getD j 0).toNat n.toNat 0≤thr (bgL n l (J+1)) e1 X j:=fun j hj=>le_of_hlf (c:=1) fun K=>by
  have hs:=Chn.ends_split hok hX e1 K j hj
  have hs:thr (bgL n l (J+1)) e1 X j=(chn (bgL n l (J+1)) l.length (chA (catT (Pl n l) (J+1))) (chB (catT (Pl n l) (J+1)))).outs e1 K j+sumN (bgL n l (J+1)) fun i=>(chn (bgL n l (J+1)) l.length (chA (catT (Pl n l) (J+1))) (chB (catT (Pl n l) (J+1)))).at e1 K i*X i j:=hs
  have hat:=Chn.at_nonneg hok (fun i _=>e1_pos i) K
  have hnn:0≤sumN (bgL n l (J+1)) fun i=>(chn (bgL n l (J+1)) l.length (chA (catT (Pl n l) (J+1))) (chB (catT (Pl n l) (J+1)))).at e1 K i*X i j:=sumN_nonneg fun i hi=>Rat.mul_nonneg (hat i hi) (hX.nonneg hok i j hi hj)
  have ho:=P.out h hj K
  rw [(at_atC ..).2] at hs
  have h2:=gR_le (o:=(l.getD j 0).toNat) (i:=K) h.nn
  generalize (sumN (bgL n l (J+1)) fun i=>(chn (bgL n l (J+1)) l.length (chA (catT (Pl n l) (J+1))) (chB (catT (Pl n l) (J+1)))).at e1 K i*X i j)=z at *
  rw [ho] at hs
  grind
 refine sumN_tight hle ?_
 have hnv:=Chn.never_nonneg hok hX (fun i _=>e1_pos i)
 have hnv:0≤sumN (bgL n l (J+1)) e1-sumN l.length (thr (bgL n l (J+1)) e1 X):=hnv
 rw [e1_sum h.N1] at hnv
 rw [hgs,show hlf 0=1 from rfl]
 have:((1:Nat):Rat)=1:=rfl
 grind
theorem JS.never (h:JS n l J):neverQ (bgL n l (J+1)) l.length (chA (catT (Pl n l) (J+1))) (chB (catT (Pl n l) (J+1))) e1=0:=by
 have hgs:=h.gsum 0
 rw [h.lv.one] at hgs
 unfold neverQ
 rw [e1_sum h.N1,sumN_congr h.ends,hgs,show hlf 0=1 from rfl]
 have:((1:Nat):Rat)=1:=rfl
 grind
theorem JS.rch (h:JS n l J):∀ i,i<bgL n l (J+1)→(chn (bgL n l (J+1)) l.length (chA (catT (Pl n l) (J+1))) (chB (catT (Pl n l) (J+1)))).Rch i:=by
 have hok:=isC_ok h.isC
 have hX:=h.is
 have hnv:(chn (bgL n l (J+1)) l.length (chA (catT (Pl n l) (J+1))) (chB (catT (Pl n l) (J+1)))).never (eachM (bgL n l (J+1)) l.length (chA (catT (Pl n l) (J+1))) (chB (catT (Pl n l) (J+1)))) e1=0:=h.never
 rw [Chn.never_eq] at hnv
 obtain ⟨v,p,P⟩:=h.per
 generalize hx:eachM (bgL n l (J+1)) l.length (chA (catT (Pl n l) (J+1))) (chB (catT (Pl n l) (J+1)))=X at *
 have hq0:∀ i,i<bgL n l (J+1)→0≤1-sumN l.length (X i):=fun i hi=>by
  have:sumN l.length (X i)≤1:=(hX.row hok i hi).1
  grind
 have hlost:∀ i,i<bgL n l (J+1)→1-sumN l.length (X i)=sumN (bgL n l (J+1)) fun k=>chA (catT (Pl n l) (J+1)) i k*(1-sumN l.length (X k)):=fun i hi=>hX.lost hok hi
 have hall:∀ t,(sumN (bgL n l (J+1)) fun i=>atC (bgL n l (J+1)) (chA (catT (Pl n l) (J+1))) e1 t i*(1-sumN l.length (X i)))=0:=fun t=>by
  induction t with
  | zero=>exact hnv
  | succ t ih=>
   rw [← ih]
   have e:(sumN (bgL n l (J+1)) fun i=>atC (bgL n l (J+1)) (chA (catT (Pl n l) (J+1))) e1 (t+1) i*(1-sumN l.length (X i)))=sumN (bgL n l (J+1)) fun i=>sumN (bgL n l (J+1)) fun k=>atC (bgL n l (J+1)) (chA (catT (Pl n l) (J+1))) e1 t k*(chA (catT (Pl n l) (J+1)) k i*(1-sumN l.length (X i))):=sumN_congr fun i hi=>by
    show (sumN (bgL n l (J+1)) fun k=>atC (bgL n l (J+1)) (chA (catT (Pl n l) (J+1))) e1 t k*chA (catT (Pl n l) (J+1)) k i) * _=_
    rw [← sumN_mulr]
    exact sumN_congr fun k _=>Rat.mul_assoc ..
   rw [e,sumN_swap]
   refine sumN_congr fun k hk=>?_
   rw [sumN_mul,← hlost k hk]
 have key:∀ a,a≤J→∀ k,k<ml n l a→(chn (bgL n l (J+1)) l.length (chA (catT (Pl n l) (J+1))) (chB (catT (Pl n l) (J+1)))).Rch (bgL n l a+k):=fun a ha k hk=>by
  have hfit:=h.fits ha
  obtain ⟨b,hb,hbt,hat,_⟩:=P.at h a
  obtain rfl:b=a:=hbt (by have:=P.jv;omega)
  have hi:bgL n l b+k<bgL n l (J+1):=by omega
  have hz:=sumN_zero_each (n:=bgL n l (J+1)) (f:=fun i=>atC (bgL n l (J+1)) (chA (catT (Pl n l) (J+1))) e1 b i*(1-sumN l.length (X i))) (fun i hi=>Rat.mul_nonneg (by
   rw [hat i hi]
   have:=hlf_pos b
   exact Rat.mul_nonneg (by unfold inS;split<;>decide +kernel) (by grind)) (hq0 i hi)) (hall b) _ hi
  have hz:atC (bgL n l (J+1)) (chA (catT (Pl n l) (J+1))) e1 b (bgL n l b+k)*(1-sumN l.length (X (bgL n l b+k)))=0:=hz
  rw [hat _ hi,inS,if_pos (by omega),Rat.one_mul] at hz
  refine Classical.byContradiction fun hn=>?_
  have hs:sumN l.length (X (bgL n l b+k))=0:=sumN_eq_zero fun j hj=>hX.z _ j hi hj hn
  rw [hs] at hz
  have:=hlf_pos b
  grind
 intro i hi
 have cover:∀ a,i<bgL n l a→a≤J+1→∃ b k,b<a∧k<ml n l b∧i=bgL n l b+k:=fun a=>by
  induction a with
  | zero=>intro h0;exact absurd h0 (Nat.not_lt_zero _)
  | succ a ih=>
   intro h0 ha
   by_cases h1:i<bgL n l a
   ·obtain ⟨b,k,hb,hk,e⟩:=ih h1 (by omega)
    exact ⟨b,k,by omega,hk,e⟩
   ·rw [bgL] at h0
    exact ⟨a,i-bgL n l a,by omega,by omega,by omega⟩
 obtain ⟨b,k,hb,hk,rfl⟩:=cover (J+1) hi (Nat.le_refl _)
 exact key b (by omega) k hk
theorem JS.mean (h:JS n l J):∃ a p,1≤p∧(∀ j,j<l.length→rmd (l.getD j 0).toNat n.toNat (a+p)=rmd (l.getD j 0).toNat n.toNat a)∧sumN (bgL n l (J+1)) (visV (bgL n l (J+1)) l.length (chA (catT (Pl n l) (J+1))) (chB (catT (Pl n l) (J+1))) e1)=sumN l.length fun j=>dgV (l.getD j 0).toNat n.toNat a p:=by
 obtain ⟨v,p,P⟩:=h.per
 have hok:=isC_ok h.isC
 have hV:=h.isV
 have hR:=h.rch
 have hp1:=P.p1
 have hlt:=hlf_lt p hp1
 have hdd:(1-hlf p)*(1-hlf p)⁻¹=1:=Rat.mul_inv_cancel _ (by grind)
 refine ⟨v,p,hp1,P.ag,?_⟩
 have hFx:∀ i,∀ a,a<v+p→Fx n l v p i a=inS (bgL n l a) (ml n l a) i:=fun i a ha=>if_pos ha
 have hFe:∀ i,Fx n l v p i (v+p)=Fx n l v p i v:=fun i=>by
  rw [hFx i v (by omega)]
  exact if_neg (by omega)
 have hW:(chn (bgL n l (J+1)) l.length (chA (catT (Pl n l) (J+1))) (chB (catT (Pl n l) (J+1)))).IsVis e1 fun i=>sumN (v+p) fun a=>wgV v p a*Fx n l v p i a:=by
  refine ⟨fun i hi hn=>absurd (hR i hi) hn,fun i hi _=>?_⟩
  show (sumN (v+p) fun a=>wgV v p a*Fx n l v p i a)=e1 i+sumN (bgL n l (J+1)) fun k=>(sumN (v+p) fun a=>wgV v p a*Fx n l v p k a)*chA (catT (Pl n l) (J+1)) k i
  have e:(sumN (bgL n l (J+1)) fun k=>(sumN (v+p) fun a=>wgV v p a*Fx n l v p k a)*chA (catT (Pl n l) (J+1)) k i)=sumN (v+p) fun a=>wgV v p a*(Fx n l v p i (a+1)*(1 / 2)):=by
   have e1:(sumN (bgL n l (J+1)) fun k=>(sumN (v+p) fun a=>wgV v p a*Fx n l v p k a)*chA (catT (Pl n l) (J+1)) k i)=sumN (bgL n l (J+1)) fun k=>sumN (v+p) fun a=>inS (bgL n l a) (ml n l a) k*(wgV v p a*chA (catT (Pl n l) (J+1)) k i):=sumN_congr fun k hk=>by
    rw [← sumN_mulr]
    refine sumN_congr fun a ha=>?_
    rw [hFx k a ha]
    grind
   rw [e1,sumN_swap]
   refine sumN_congr fun a ha=>?_
   rw [sumN_inS (fun k=>wgV v p a*chA (catT (Pl n l) (J+1)) k i) (P.fit a ha),sumN_mul,P.mv a ha]
  have e2:(fun a=>hlf a*(Fx n l v p i (a+1)*(1 / 2)))=fun a=>hlf (a+1)*Fx n l v p i (a+1):=by
   funext a
   rw [hlf]
   grind
  have s1:=sumN_shift1 (fun a=>hlf a*Fx n l v p i a) v
  have s2:=sumN_shift1 (fun a=>hlf a*Fx n l v p i a) (v+p)
  have h0:Fx n l v p i 0=e1 i:=by
   rw [hFx i 0 (by omega),h.lv.one]
   unfold e1 inS
   show (if 0≤i∧i<0+1 then (1:Rat) else 0)=_
   by_cases e:i=0
   ·rw [if_pos e,if_pos (by omega)]
   ·rw [if_neg e,if_neg (by omega)]
  rw [e,wg_sum,wg_sum,e2,s1,s2,h0,hFe,hlf_add,show hlf 0=1 from rfl]
  generalize (1-hlf p)⁻¹=d at *
  generalize hlf p=q at *
  generalize hlf v=u at *
  generalize (sumN v fun a=>hlf a*Fx n l v p i a)=A
  generalize (sumN (v+p) fun a=>hlf a*Fx n l v p i a)=B
  generalize Fx n l v p i v=f
  generalize e1 i=g
  have hd:d=1+q*d:=by grind
  grind
 have hu:∀ i,i<bgL n l (J+1)→visV (bgL n l (J+1)) l.length (chA (catT (Pl n l) (J+1))) (chB (catT (Pl n l) (J+1))) e1 i=sumN (v+p) fun a=>wgV v p a*Fx n l v p i a:=hV.unique hok hW
 rw [sumN_congr hu,sumN_swap]
 have e:(sumN (v+p) fun a=>sumN (bgL n l (J+1)) fun i=>wgV v p a*Fx n l v p i a)=sumN (v+p) fun a=>wgV v p a*((ml n l a:Nat):Rat):=sumN_congr fun a ha=>by
  rw [sumN_mul]
  congr 1
  have e1:(sumN (bgL n l (J+1)) fun i=>Fx n l v p i a)=sumN (bgL n l (J+1)) fun i=>inS (bgL n l a) (ml n l a) i*1:=sumN_congr fun i _=>by rw [hFx i a ha,Rat.mul_one]
  rw [e1,sumN_inS (fun _=>1) (P.fit a ha)]
  generalize ml n l a=m
  induction m with
  | zero=>rfl
  | succ m ih=>
   rw [sumN_succ,ih]
   push_cast
   rfl
 have hg:∀ K,(sumN K fun a=>hlf a*((ml n l a:Nat):Rat))=sumN l.length fun j=>sumN K (gR (l.getD j 0).toNat n.toNat):=fun K=>by
  rw [sumN_swap]
  refine sumN_congr fun a _=>?_
  rw [h.gsum a,Rat.mul_comm]
 rw [e,wg_sum,hg,hg,← sumN_sub,← sumN_mulr,← sumN_add]
 refine sumN_congr fun j _=>?_
 unfold dgV
 rw [Rat.div_def]
theorem JS.fewer (h:JS n l J):l.length≤2*bgL n l (J+1):=by
 have hok:=isC_ok h.isC
 have h1:∀ i,i<bgL n l (J+1)→sumN l.length (chB (catT (Pl n l) (J+1)) i)≤1:=fun i hi=>by
  have e:=hok.one i hi
  have e:sumN (bgL n l (J+1)) (chA (catT (Pl n l) (J+1)) i)+sumN l.length (chB (catT (Pl n l) (J+1)) i)=1:=e
  have:0≤sumN (bgL n l (J+1)) (chA (catT (Pl n l) (J+1)) i):=sumN_nonneg fun k hk=>hok.M0 i k hi hk
  grind
 have h2:∀ j,j<l.length→(1 / 2:Rat)≤sumN (bgL n l (J+1)) fun i=>chB (catT (Pl n l) (J+1)) i j:=fun j hj=>by
  obtain ⟨i,hi,h0⟩:=h.used hj
  have h3:=(chB_ge (by rw [cat_length];exact hi) h0).1
  refine Rat.le_trans h3 ?_
  have h4:(sumN (bgL n l (J+1)) fun k=>if k=i then chB (catT (Pl n l) (J+1)) k j else 0)≤sumN (bgL n l (J+1)) fun k=>chB (catT (Pl n l) (J+1)) k j:=sumN_le fun k hk=>by
   have:0≤chB (catT (Pl n l) (J+1)) k j:=hok.E0 k j hk hj
   by_cases e:k=i
   ·rw [if_pos e]
    exact Rat.le_refl
   ·rw [if_neg e]
    exact this
  rw [sumN_single (f:=fun k=>if k=i then chB (catT (Pl n l) (J+1)) k j else 0) (k:=i) hi fun k _ hk=>if_neg hk,if_pos rfl] at h4
  exact h4
 have cst:∀ (c:Rat) m,(sumN m fun _=>c)=(m:Rat)*c:=fun c m=>by
  induction m with
  | zero=>exact (Rat.zero_mul c).symm
  | succ m ih=>
   rw [sumN_succ,ih]
   push_cast
   grind
 have h3:=sumN_le h2
 rw [sumN_swap,cst] at h3
 have h4:=sumN_le (n:=bgL n l (J+1)) (g:=fun _=>1) h1
 rw [cst] at h4
 have h5:(l.length:Rat)≤((2*bgL n l (J+1):Nat):Rat):=by
  push_cast
  have h4:(sumN (bgL n l (J+1)) fun i=>sumN l.length fun j=>chB (catT (Pl n l) (J+1)) i j)≤(bgL n l (J+1):Rat)*1:=h4
  grind
 exact_mod_cast h5
end
end Go.Proofs.YteidabibgjokkaaGreatDoor
