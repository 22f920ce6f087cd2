import Derived.Test.YteidabibgjokkaaGreatDoorHL
set_option maxRecDepth 20000
set_option linter.all false
namespace Go.Proofs.YteidabibgjokkaaGreatDoor
open Go Go.Proofs.YteidabibgjokkaaGreatDoor.Lift
attribute [local irreducible] Lift.PCall Lift.HCall
theorem right_digits_val:∀ {l:List Nat},Dg l→right l=true→digits (val l)=l:=by
 intro l
 induction l with
 | nil=>intro _ _;exact digits_zero
 | cons d l ih=>
  intro hd hr
  obtain ⟨h1,h2⟩:=Dg_cons.1 hd
  have hr:=of_decide_eq_true hr
  have e:val (d :: l)=d+4294967296*val l:=rfl
  cases l with
  | nil=>
   have hd0:d≠0:=by
    rcases hr with h | h
    ·simp at h
    ·simpa using h
   rw [e,digits_pos (by omega)]
   have e0:val ([]:List Nat)=0:=rfl
   rw [e0,Nat.mul_zero,Nat.add_zero,Nat.mod_eq_of_lt h1,Nat.div_eq_of_lt h1,digits_zero]
  | cons d' l=>
   have hr':right (d' :: l)=true:=by
    refine decide_eq_true (.inr ?_)
    rcases hr with h | h
    ·simp at h
    ·simpa using h
   have hi:=ih h2 hr'
   have hp:val (d' :: l)≠0:=by
    intro h
    rw [h,digits_zero] at hi
    cases hi
   rw [e,digits_pos (by omega),show (d+4294967296*val (d' :: l)) % 4294967296=d by omega,show (d+4294967296*val (d' :: l)) / 4294967296=val (d' :: l) by omega,hi]
theorem isR_rat {s:Bool} {a b:List Nat} (ha:Dg a)(hb:Dg b)(h:isR s a b=true):∃ q:Rat,(s,a,b)=toRT q:=by
 unfold isR at h
 simp only [Bool.and_eq_true,decide_eq_true_eq] at h
 obtain ⟨⟨⟨⟨h1,h2⟩,h3⟩,h4⟩,h5⟩:=h
 have ea:=right_digits_val ha h1
 have eb:=right_digits_val hb h2
 have hb0:val b≠0:=by
  intro h
  rw [h,digits_zero] at eb
  rw [← eb] at h3
  simp at h3
 have hg:Nat.gcd (val a) (val b)=1:=of_decide_eq_true h4
 refine ⟨rq s (val a) (val b),?_⟩
 have hn:(rq s (val a) (val b)).num=sg s (val a):=by rw [rq_num hb0,hg,Nat.div_one]
 have hd:(rq s (val a) (val b)).den=val b:=by rw [rq_den hb0,hg,Nat.div_one]
 unfold toRT
 rw [hn,hd,sg_natAbs,sg_neg,ea,eb]
 have hs:(s && decide (val a≠0))=s:=by
  cases s
  ·rfl
  ·have:0<a.length:=by simpa using h5
   rw [Bool.true_and]
   exact decide_eq_true fun h=>by
    rw [h,digits_zero] at ea
    rw [← ea] at this
    simp at this
 rw [hs]
theorem isR3_rat {x:RT} (ha:Dg x.2.1)(hb:Dg x.2.2)(h:isR3 x=true):∃ q:Rat,x=toRT q:=by
 obtain ⟨s,a,b⟩:=x
 exact isR_rat ha hb h
theorem toRT_len {q:Rat} {L:Nat} (h1:(toRT q).2.1.length≤L)(h2:(toRT q).2.2.length≤L):rL q≤L:=Nat.max_le.2 ⟨h1,h2⟩
theorem all_rat {xs:List RT} (hd:∀ x ∈ xs,Dg x.2.1∧Dg x.2.2)(h:xs.all isR3=true):∃ qs:List Rat,xs=qs.map toRT:=by
 induction xs with
 | nil=>exact ⟨[],rfl⟩
 | cons x xs ih=>
  rw [List.all_cons,Bool.and_eq_true] at h
  obtain ⟨qs,hq⟩:=ih (fun y hy=>hd y (List.mem_cons_of_mem _ hy)) h.2
  obtain ⟨q,hx⟩:=isR3_rat (hd x List.mem_cons_self).1 (hd x List.mem_cons_self).2 h.1
  exact ⟨q :: qs,by rw [hx,hq];rfl⟩
theorem list_vl {n:Nat} {qs:List Rat} (h:qs.length=n):∃ v:Nat→Rat,qs=vl n v:=by
 refine ⟨fun i=>qs.getD i 0,?_⟩
 apply List.ext_getElem?
 intro j
 unfold vl
 by_cases hj:j<n
 ·simp only [List.getElem?_map,List.getElem?_range hj,Option.map_some]
  rw [List.getD_eq_getElem?_getD,List.getElem?_eq_getElem (by omega)]
  rfl
 ·rw [List.getElem?_eq_none (by omega),List.getElem?_eq_none (by simp;omega)]
theorem isW_vec {n:Nat} {ss:List RT} (hd:∀ x ∈ ss,Dg x.2.1∧Dg x.2.2)(h:isW n ss=true):∃ v:Nat→Rat,ss=(vl n v).map toRT∧∀ i,i<n→0≤v i:=by
 unfold isW at h
 rw [Bool.and_eq_true,decide_eq_true_eq,Bool.not_eq_true',List.any_eq_false] at h
 obtain ⟨h1,h2⟩:=h
 obtain ⟨qs,rfl⟩:=all_rat hd (List.all_eq_true.2 fun x hx=>by
  have:=h2 x hx
  cases h:isR3 x
  ·simp [h] at this
  ·rfl)
 rw [List.length_map] at h1
 obtain ⟨v,rfl⟩:=list_vl h1
 refine ⟨v,rfl,fun i hi=>?_⟩
 have hm:toRT (v i) ∈ (vl n v).map toRT:=List.mem_map.2 ⟨v i,List.mem_map.2 ⟨i,by simpa using hi,rfl⟩,rfl⟩
 have:=h2 _ hm
 have h3:(toRT (v i)).1=false:=by
  cases h:(toRT (v i)).1
  ·rfl
  ·simp [h] at this
 exact num_nonneg.1 h3
theorem lay_chain20:lay Tryz.prog 48=some ⟨6,true,80,[.i .i64 0,.i .i64 0,.nl,.i .i64 0,.i .i64 0,.nl]⟩:=by kernel_rfl
attribute [go_sem] Tryz.underlying48 lay_chain20 Tryz.underlying166
end Go.Proofs.YteidabibgjokkaaGreatDoor
