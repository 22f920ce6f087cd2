import Derived.Test.YteidabibgjokkaaGreatDoorGD
import Derived.Test.YteidabibgjokkaaGreatDoorGN
set_option maxRecDepth 20000
set_option linter.all false
namespace Go.Proofs.YteidabibgjokkaaGreatDoor
open Go Go.Proofs.YteidabibgjokkaaGreatDoor.Lift
attribute [local irreducible] Lift.PCall Lift.HCall
theorem rL_mk (z:Int)(n L:Nat)(hz:(digits z.natAbs).length≤L)(hn:(digits n).length≤L)(hL:1≤L):rL (mkRat z n)≤L:=by
 have e:mkRat z n=rq (decide (z<0)) z.natAbs n:=by
  unfold rq
  rw [sg_self]
 rw [e]
 exact rL_rq hz hn hL
theorem len_sum {m n K:Nat} (hm:(digits m).length≤K)(hn:(digits n).length≤K):(digits (m+n)).length≤K+1:=by
 apply digits_length_le
 have h1:=val_lt (Dg_digits m)
 have h2:=val_lt (Dg_digits n)
 rw [val_digits] at h1 h2
 have h3:(4294967296:Nat) ^ (digits m).length≤4294967296 ^ K:=Nat.pow_le_pow_right (by omega) hm
 have h4:(4294967296:Nat) ^ (digits n).length≤4294967296 ^ K:=Nat.pow_le_pow_right (by omega) hn
 rw [Nat.pow_succ]
 omega
theorem rL_add (p q:Rat) {A B:Nat} (hp:rL p≤A)(hq:rL q≤B):rL (p+q)≤A+B+1:=by
 have ep:=rq_self p
 have eq:=rq_self q
 have p1:(digits p.num.natAbs).length≤A:=Nat.le_trans (Nat.le_max_left _ _) hp
 have p2:(digits p.den).length≤A:=Nat.le_trans (Nat.le_max_right _ _) hp
 have q1:(digits q.num.natAbs).length≤B:=Nat.le_trans (Nat.le_max_left _ _) hq
 have q2:(digits q.den).length≤B:=Nat.le_trans (Nat.le_max_right _ _) hq
 rw [← ep,← eq,add_rq p.den_nz q.den_nz]
 have l1:=digits_len_mul p.num.natAbs q.den
 have l2:=digits_len_mul q.num.natAbs p.den
 have l3:=digits_len_mul p.den q.den
 have l4:=len_sum (m:=p.num.natAbs*q.den) (n:=q.num.natAbs*p.den) (K:=A+B) (by omega) (by omega)
 refine rL_mk _ _ _ ?_ (by omega) (by omega)
 refine Nat.le_trans (digits_len_mono (n:=p.num.natAbs*q.den+q.num.natAbs*p.den) ?_) ?_
 ·have h1:=sg_natAbs (decide (p.num<0)) (p.num.natAbs*q.den)
  have h2:=sg_natAbs (decide (q.num<0)) (q.num.natAbs*p.den)
  omega
 ·omega
theorem rL_mul (p q:Rat) {A B:Nat} (hp:rL p≤A)(hq:rL q≤B)(h:1≤A+B):rL (p*q)≤A+B:=by
 have ep:=rq_self p
 have eq:=rq_self q
 have p1:(digits p.num.natAbs).length≤A:=Nat.le_trans (Nat.le_max_left _ _) hp
 have p2:(digits p.den).length≤A:=Nat.le_trans (Nat.le_max_right _ _) hp
 have q1:(digits q.num.natAbs).length≤B:=Nat.le_trans (Nat.le_max_left _ _) hq
 have q2:(digits q.den).length≤B:=Nat.le_trans (Nat.le_max_right _ _) hq
 rw [← ep,← eq,mul_rq]
 have l1:=digits_len_mul p.num.natAbs q.num.natAbs
 have l3:=digits_len_mul p.den q.den
 exact rL_rq (by omega) (by omega) (by omega)
theorem rL_div (p q:Rat) {A B:Nat} (hp:rL p≤A)(hq:rL q≤B)(h:1≤A+B):rL (p / q)≤A+B:=by
 have ep:=rq_self p
 have eq:=rq_self q
 have p1:(digits p.num.natAbs).length≤A:=Nat.le_trans (Nat.le_max_left _ _) hp
 have p2:(digits p.den).length≤A:=Nat.le_trans (Nat.le_max_right _ _) hp
 have q1:(digits q.num.natAbs).length≤B:=Nat.le_trans (Nat.le_max_left _ _) hq
 have q2:(digits q.den).length≤B:=Nat.le_trans (Nat.le_max_right _ _) hq
 rw [← ep,← eq,div_rq]
 have l1:=digits_len_mul p.num.natAbs q.den
 have l3:=digits_len_mul p.den q.num.natAbs
 exact rL_rq (by omega) (by omega) (by omega)
theorem rL_sub (p q:Rat) {A B:Nat} (hp:rL p≤A)(hq:rL q≤B):rL (p-q)≤A+B+1:=by
 rw [Rat.sub_eq_add_neg]
 exact rL_add _ _ hp (by rw [rL_neg];exact hq)
def sumTo (qs:List Rat):Nat→Rat
 | 0=>0
 | n+1=>sumTo qs n+qs.getD n 0
def IsQs (els:List V) (qs:List Rat) (L:Nat):Prop:=els.length=qs.length∧∀ i,i<els.length→IsQ (els.getD i .junk) (qs.getD i 0) L
theorem IsQ.rL {v:V} {q:Rat} {L:Nat} (h:IsQ v q L)(hL:1≤L):rL q≤L:=by
 obtain ⟨s,a,b,rfl,ha,hb,hq,hla,hlb⟩:=h
 rw [← hq]
 exact rL_rq (Nat.le_trans (digits_length_val ha) hla) (Nat.le_trans (digits_length_val hb) hlb) hL
theorem sumTo_len {els:List V} {qs:List Rat} {L:Nat} (h:IsQs els qs L)(hL:1≤L):∀ n,n≤els.length→rL (sumTo qs n)≤n*(L+1)+1
 | 0,_=>by
  have e:sumTo qs 0=0:=rfl
  rw [e]
  unfold Go.Proofs.YteidabibgjokkaaGreatDoor.rL
  have h0:(0:Rat).num.natAbs=0:=rfl
  have h1:(0:Rat).den=1:=rfl
  rw [h0,h1,digits_zero]
  have:=lenS (n:=1) (by omega)
  have:(digits 1).length≤1:=digits_length_le (by omega)
  simp
  omega
 | n+1,hn=>by
  have ih:=sumTo_len h hL n (by omega)
  have:=rL_add (sumTo qs n) (qs.getD n 0) ih ((h.2 n (by omega)).rL hL)
  have e:(n+1)*(L+1)=n*(L+1)+(L+1):=by rw [Nat.succ_mul]
  rw [e]
  show rL (sumTo qs n+qs.getD n 0)≤_
  omega
attribute [go_sem] Tryz.underlying39
theorem effIxR {els:List V} {j:Nat} {x y:Operand} (hj:j<els.length) {s:Bool} {a b:List Nat} (he:els.getD j .junk=rR s a b):eff Tryz.prog (.indexAddr 39 x y) [.sl els,.i .i64 (j:Int)]=some (.val (.rp [.b s,dg a,dg b])):=by
 simp only [eff,effIndexAddr,Tryz.underlying39,lay_ratio,Int.toNat_natCast,he]
 rw [if_pos ⟨by omega,by omega,rfl⟩]
 rfl
set_option maxHeartbeats 4000000 in
theorem qsum_ok {els:List V} {qs:List Rat} {L:Nat} (h:IsQs els qs L)(hL:els.length*(L+1)+L+1<2 ^ 34)(hL1:1≤L):PCall Tryz.prog 95 [.sl els] (rV (sumTo qs els.length)) []:=by
 have hlen:els.length<2 ^ 34:=by
  have:els.length*1≤els.length*(L+1):=Nat.mul_le_mul_left _ (by omega)
  omega
 refine PCall.of_ax Tryz.call95 Tryz.func95 rfl (by simp [Tryz.ntmps95]) fun O w=>?_
 simp only [Tryz.ntmps95,Tryz.results95,argFr]
 have c1:PCall Tryz.prog 67 [] (rR (decide ((0:Rat).num<0)) (digits (0:Rat).num.natAbs) (digits (0:Rat).den)) []:=zero_ok
 refine AX.sR (rgAV [0,2]) ?_
 refine AX.sR (rgCV [0,2,3] (aI c1 oT)) ?_
 refine AX.seq ?_
 refine AX.sR (rgAV [7,2,3,8,9]) ?_
 refine AX.block ?_
 refine AX.loop (fun N st=>∃ i:Nat,i≤els.length∧N=els.length-i∧st=⟨[(9,.i .i64 i),(8,.i .i64 els.length),(7,.sl els),(3,.ptr 1 0),(2,.ptr 0 0)],[(1,⟨54,[.b (decide ((sumTo qs i).num<0)),dg (digits (sumTo qs i).num.natAbs),dg (digits (sumTo qs i).den)]⟩),(0,⟨54,[.b false,.nl,.nl]⟩)],2⟩) els.length ⟨0,Nat.zero_le _,rfl,rfl⟩ ?_
 rintro N st ⟨i,hi,rfl,rfl⟩
 by_cases h1:i<els.length
 ·obtain ⟨s,a,b,he,ha,hb,hq,hla,hlb⟩:=h.2 i h1
  have hm:i*(L+1)+(L+1)≤els.length*(L+1):=by
   rw [← Nat.succ_mul]
   exact Nat.mul_le_mul_right _ (by omega)
  have hs:=sumTo_len h hL1 i hi
  have c2:PCall Tryz.prog 50 [rR (decide ((sumTo qs i).num<0)) (digits (sumTo qs i).num.natAbs) (digits (sumTo qs i).den),rR s a b] (rR (decide ((sumTo qs (i+1)).num<0)) (digits (sumTo qs (i+1)).num.natAbs) (digits (sumTo qs (i+1)).den)) []:=
   qadd_ok (L:=i*(L+1)+1+L) (IsQ.of (by omega)) ⟨s,a,b,rfl,ha,hb,hq,by omega,by omega⟩ (by omega)
  have hix:=fun x y=>effIxR (x:=x) (y:=y) h1 he
  generalize sumTo qs i=P0 at *
  refine AX.sR (rgAV [2,3,7,8,9,10]) ?_
  refine AX.seq ?_
  refine AX.condT ?_
  refine AX.keepA [2,3,7,8,9] ?_
  refine AX.skip ?_
  refine nmZ ?_
  refine AX.seq ?_
  refine AX.block ?_
  refine AX.sR (rgEV [2,3,5,7,8,9] oT oT (aI hix oT)) ?_
  refine AX.rR (rgCV [2,3,7,8,9] (aI c2 oT)) ?_
  refine nmZ ?_
  refine AX.rR (rgWV [2,3,7,8,9] (aI @lit_add oT) oT) ?_
  refine nmZ ?_
  refine ⟨els.length-(i+1),_,id,by omega,
   leA
   , ⟨i+1,by omega,rfl,rfl⟩⟩
 ·refine AX.sR (rgAV [2,3,7,8,9,10]) ?_
  refine AX.seq ?_
  refine AX.condF ?_
  refine AX.keepA [2,3] ?_
  refine AX.exit ?_
  refine nmZ ?_
  have e:i=els.length:=by omega
  subst e
  refine AX.sR (rgAV [2]) ?_
  refine AX.ret ⟨.inl rfl,?_⟩
  exact Done.cell rfl rfl
abbrev RT:=Bool × List Nat × List Nat
abbrev fR (x:RT):V:=rR x.1 x.2.1 x.2.2
def d0:RT:=(false,[],[])
theorem getD_fR {xs:List RT} {j:Nat} (h:j<xs.length):(xs.map fR).getD j .junk=rR (xs.getD j d0).1 (xs.getD j d0).2.1 (xs.getD j d0).2.2:=by
 simp [List.getD_eq_getElem?_getD,h]
end Go.Proofs.YteidabibgjokkaaGreatDoor
