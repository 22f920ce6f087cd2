import Derived.Test.YteidabibgjokkaaGreatDoorGB
set_option linter.all false
namespace Go.Proofs.YteidabibgjokkaaGreatDoor.Lift
open Go
def fam (b n:Nat) (F:Nat→Row):List (Nat × Row):=rowsFr b ((List.range n).map F)
theorem range_getD {n a:Nat} (F:Nat→Row)(h:a<n):((List.range n).map F).getD a r0=F a:=by simp [List.getD_eq_getElem?_getD,h]
theorem lkp_fam' (b n:Nat)(F:Nat→Row)(m:Nat):lkp (fam b n F) m=if b≤m∧m<b+n then some (F (m-b)) else none:=by
 unfold fam
 rw [rowsFr_lkp,List.length_map,List.length_range]
 split
 ·rw [range_getD _ (by omega)]
 ·rfl
theorem lkp_fam {b n a:Nat} (F:Nat→Row)(h:a<n):lkp (fam b n F) (b+a)=some (F a):=by
 rw [lkp_fam',if_pos (by omega),Nat.add_sub_cancel_left]
theorem lkp_ne {α:Type} {k n:Nat} {x:α} {l:List (Nat × α)} (h:n≠k):lkp ((k,x) :: l) n=lkp l n:=if_neg h
theorem fam_congr {b n:Nat} {F G:Nat→Row} (h:∀ a,a<n→F a=G a):fam b n F=fam b n G:=by
 unfold fam
 congr 1
 exact List.map_congr_left fun a ha=>h a (by simpa using ha)
theorem rowsFr_set:∀ (qs:List Row) (b a:Nat) (r:Row),a<qs.length→setL (rowsFr b qs) (b+a) r=rowsFr b (qs.set a r)
 | [],_,_,_,h=>absurd h (Nat.not_lt_zero _)
 | q :: qs,b,0,r,_=>by
  show (if b=b+0 then _ else _)=_
  rw [if_pos (by omega)]
  rfl
 | q :: qs,b,a+1,r,h=>by
  show (if b=b+(a+1) then _ else _)=_
  rw [if_neg (by omega),show b+(a+1)=b+1+a by omega,rowsFr_set qs (b+1) a r (by simpa using h)]
  rfl
def updR (F:Nat→Row) (i:Nat) (r:Row):Nat→Row:=fun j=>if j=i then r else F j
theorem setL_fam {b n a:Nat} (F:Nat→Row)(r:Row)(h:a<n):setL (fam b n F) (b+a) r=fam b n (updR F a r):=by
 unfold fam
 rw [rowsFr_set _ _ _ _ (by simpa using h)]
 congr 1
 apply List.ext_getElem?
 intro j
 rw [List.getElem?_set]
 simp only [List.length_map,List.length_range]
 by_cases hj:j<n
 ·simp only [List.getElem?_map,List.getElem?_range hj,Option.map_some]
  unfold updR
  by_cases e:a=j
  ·subst e
   rw [if_pos rfl,if_pos h,if_pos rfl]
  ·rw [if_neg e,if_neg fun e'=>e e'.symm]
 ·have h1:∀ G:Nat→Row,(List.map G (List.range n))[j]? = none:=fun f=>List.getElem?_eq_none (by simp;omega)
  rw [h1,h1,if_neg (by omega)]
theorem dlt_rows:∀ (qs:List Row) (b m:Nat),(m<b∨b+qs.length≤m)→dlt (rowsFr b qs) m=rowsFr b qs
 | [],_,_,_=>rfl
 | q :: qs,b,m,h=>by
  show (if b=m then _ else _)=_
  rw [if_neg (by simp only [List.length_cons] at h;omega),dlt_rows qs (b+1) m (by simp only [List.length_cons] at h;omega)]
  rfl
theorem dlt_fam {b n m:Nat} (F:Nat→Row)(h:m<b∨b+n≤m):dlt (fam b n F) m=fam b n F:=dlt_rows _ _ _ (by simpa using h)
theorem AX.hp {P:Program} {C:Ctx} {st:St} {Q:Exit→St→Prop} {c:Code} {hp':List (Nat × Row)} (e:lkp st.hp=lkp hp')(h:AX P C c ⟨st.fr,hp',st.nx⟩ Q):AX P C c st Q:=by
 intro env a w hs
 refine h env a w ?_
 show Sim C env (lkp st.fr) (lkp hp') (· < st.nx) a w
 rw [← e]
 exact hs
theorem leHp_rows {f:Nat→Nat} {hp:List (Nat × Row)} {n:Nat}:∀ (qs:List Row) (b:Nat),(∀ a,a<qs.length→b+a<n∧lkp hp (f (b+a))=some ((qs.getD a r0).ren f)∧V.ltL n (qs.getD a r0).cells=true)→LeHp f hp n (rowsFr b qs)
 | [],_,_=>trivial
 | q :: qs,b,h=>by
  refine ⟨(h 0 (by simp)).1,(h 0 (by simp)).2.1,(h 0 (by simp)).2.2,leHp_rows qs (b+1) fun a ha=>?_⟩
  have:=h (a+1) (by simpa using ha)
  rw [show b+(a+1)=b+1+a by omega] at this
  exact this
theorem leHp_app {f:Nat→Nat} {hp:List (Nat × Row)} {n:Nat} {l2:List (Nat × Row)} (h2:LeHp f hp n l2):∀ l1,LeHp f hp n l1→LeHp f hp n (l1++l2)
 | [],_=>h2
 | (k,q) :: l1,h=>⟨h.1,h.2.1,h.2.2.1,leHp_app h2 l1 h.2.2.2⟩
theorem leF {g:Nat} {f:Nat→Nat} {st:St} {fr':List (Nat × V)} {pre:List (Nat × Row)} {b n nx':Nat} {F:Nat→Row} (h1:LeFr f st.fr nx' fr') (h2:LeHp f st.hp nx' pre)
  (h3:∀ a,a<n→b+a<nx'∧lkp st.hp (f (b+a))=some ((F a).ren f)∧V.ltL nx' (F a).cells=true) (h4:Apart f (pre++fam b n F)) (h5:g≤nx') (h6:∀ n,n<g→f n=n):Le g f ⟨fr',pre++fam b n F,nx'⟩ st:=
 ⟨h1,leHp_app (leHp_rows _ _ fun a ha=>by
  rw [List.length_map,List.length_range] at ha
  rw [range_getD _ ha]
  exact h3 a ha) _ h2,h4,h5,h6⟩
theorem fam_mem {b n:Nat} {F:Nat→Row} {p:Nat × Row} (h:p ∈ fam b n F):b≤p.1∧p.1<b+n:=by
 unfold fam at h
 generalize hq:(List.range n).map F=qs at h
 have hl:qs.length=n:=by rw [← hq];simp
 clear hq
 induction qs generalizing b n with
 | nil=>simp [rowsFr] at h
 | cons q qs ih=>
  rcases List.mem_cons.1 h with e | h
  ·subst e
   simp at hl ⊢
   omega
  ·have:=ih h rfl
   simp at hl
   omega
end Go.Proofs.YteidabibgjokkaaGreatDoor.Lift
