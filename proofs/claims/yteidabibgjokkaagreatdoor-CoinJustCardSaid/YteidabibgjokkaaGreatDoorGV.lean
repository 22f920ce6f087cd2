import Derived.Test.YteidabibgjokkaaGreatDoorGF
import Derived.Test.YteidabibgjokkaaGreatDoorGG
set_option maxRecDepth 20000
set_option linter.all false
namespace Go.Proofs.YteidabibgjokkaaGreatDoor
open Go Go.Proofs.YteidabibgjokkaaGreatDoor.Lift
attribute [local irreducible] Lift.PCall Lift.HCall
theorem rtrim_ok (l:List Nat)(hl:l.length<2 ^ 40):PCall Tryz.prog 104 [dg l] (dg (trim l)) []:=by
 refine PCall.of_ax Tryz.call104 Tryz.func104 rfl (by simp [Tryz.ntmps104]) fun O w=>?_
 simp only [Tryz.ntmps104,Tryz.results104,argFr]
 refine AX.sR (rgA [0]) ?_
 refine AX.sR (rgA [0,3]) ?_
 refine AX.seq (AX.block ?_)
 refine AX.loop (fun n st=>∃ k:Nat,k≤l.length∧n=k∧tr l l.length=tr l k∧st=⟨[(3,.i .i64 k),(0,dg l)],[],0⟩) l.length ⟨l.length,Nat.le_refl _,rfl,rfl,rfl⟩ ?_
 rintro n st ⟨k,hk,rfl,htr,rfl⟩
 refine AX.seq ?_
 cases n with
 | zero=>
  refine AX.sR (rgA [0,3,15]) ?_
  refine AX.condF ?_
  refine AX.exit ?_
  simp only [zn3,zn8,zn6,if_true,zn1]
  refine AX.sR (rgA [2]) ?_
  refine AX.ret ⟨.inl rfl,?_⟩
  rw [trim,htr,tr]
  exact Done.own rfl rfl (by simp) rfl
 | succ k=>
  have hk1:((k+1:Nat):Int)-1=k:=by omega
  by_cases hz:l.getD k 0=0
  ·refine AX.sR (rgW [0,3,15] (aI @hk1 (aI @hz oT)) oT) ?_
   refine AX.condT ?_
   refine AX.skip ?_
   simp only [zn1]
   refine AX.block ?_
   refine AX.rR (rgW [0,3] (aI @hk1 oT) oT) ?_
   simp only [zn4]
   refine ⟨k,_,id,Nat.lt_succ_self k,
    leA
    , ⟨k,by omega,rfl,by rw [htr,tr,if_pos hz],rfl⟩⟩
  ·refine AX.sR (rgW [0,3,15] (aI @hk1 oT) oT) ?_
   refine AX.condF ?_
   refine AX.exit ?_
   simp only [zn3,zn8,zn6,if_true,zn1]
   refine AX.sR (rgA [2]) ?_
   refine AX.ret ⟨.inl rfl,?_⟩
   rw [trim,htr,tr,if_neg hz]
   exact Done.own rfl rfl (by simp) rfl
theorem at_ok (l:List Nat)(i:Nat)(hd:Dg l)(hl:l.length<2 ^ 40):PCall Tryz.prog 129 [dg l,.i .i64 i] (.i .u64 (l.getD i 0:Nat)) []:=by
 refine PCall.of_ax Tryz.call129 Tryz.func129 rfl (by simp [Tryz.ntmps129]) fun O w=>?_
 simp only [Tryz.ntmps129,Tryz.results129,argFr]
 have hb:=Dg_getD hd i
 refine AX.sR (rgA [0,1]) ?_
 refine AX.seq ?_
 by_cases h:i<l.length
 ·refine AX.sR (rgA [0,1,8]) ?_
  refine AX.condT ?_
  refine AX.sR (rgA [4]) ?_
  refine AX.ret ⟨.inl rfl,?_⟩
  exact Done.one rfl (by simp only [frz];rfl) rfl rfl
 ·refine AX.sR (rgA [0,1,8]) ?_
  refine AX.condF ?_
  refine AX.skip ?_
  refine nmZ ?_
  refine AX.sR (rgA [4]) ?_
  refine AX.ret ⟨.inl rfl,?_⟩
  have:l.getD i 0=0:=by rw [List.getD_eq_getElem?_getD,List.getElem?_eq_none (by omega)];rfl
  rw [this]
  exact Done.one rfl (by simp only [frz];rfl) rfl rfl
theorem rntrim_ok (l:List Nat)(hd:Dg l)(hl:l.length<2 ^ 40):PCall Tryz.prog 104 [dg l] (nv (val l)) []:=by
 have:=rtrim_ok l hl
 rwa [trim_eq hd] at this
theorem rof_ok (n:Nat)(hn:n<18446744073709551616):PCall Tryz.prog 59 [.i .u64 n] (nv n) []:=by
 have hv:val [n % 4294967296,n / 4294967296]=n:=by simp only [val];omega
 have hd:Dg [n % 4294967296,n / 4294967296]:=by
  intro x hx
  simp at hx
  omega
 refine PCall.of_ax Tryz.call59 Tryz.func59 rfl (by simp [Tryz.ntmps59]) fun O w=>?_
 simp only [Tryz.ntmps59,Tryz.results59,argFr]
 have h1:=rntrim_ok _ hd (by simp)
 rw [hv] at h1
 refine AX.sR (rgA [0]) ?_
 have hm:n / 4294967296 % 4294967296=n / 4294967296:=Nat.mod_eq_of_lt (by omega)
 refine AX.sR (rgW [2] (aI @shr32 (aI @u32n (aI @hm oT))) (aI h1 oT)) ?_
 refine AX.ret ⟨.inl rfl,?_⟩
 exact Done.sl rfl
theorem rcmp_ok (a b:List Nat)(ha:Dg a)(hb:Dg b)(hla:a.length<2 ^ 40)(hlb:b.length<2 ^ 40):PCall Tryz.prog 91 [dg a,dg b] (.i .i64 (cmp (val a) (val b))) []:=by
 refine PCall.of_ax Tryz.call91 Tryz.func91 rfl (by simp [Tryz.ntmps91]) fun O w=>?_
 simp only [Tryz.ntmps91,Tryz.results91,argFr]
 have c1:=rntrim_ok a ha hla
 have c2:=rntrim_ok b hb hlb
 have hma:=digits_length_val ha
 have hmb:=digits_length_val hb
 generalize val a=m at *
 generalize val b=n at *
 refine AX.sR (rgA [0,1]) ?_
 refine AX.sR (rgC [0,1] (aI c1 (aI c2 oT))) ?_
 refine AX.seq ?_
 by_cases h0:(digits m).length=(digits n).length
 ·refine AX.sR (rgA [0,1,14]) ?_
  refine AX.condF ?_
  refine AX.skip ?_
  refine nmZ ?_
  refine AX.seq ?_
  refine AX.sR (rgA [0,1,5]) ?_
  refine AX.block ?_
  refine AX.loop (fun N st=>∃ k:Nat,k≤(digits m).length∧N=k∧(∀ j,k≤j→j<(digits m).length→(digits m).getD j 0=(digits n).getD j 0)∧st=⟨[(5,.i .i64 ((k:Int)-1)),(1,nv n),(0,nv m)],[],0⟩) (digits m).length ⟨(digits m).length,Nat.le_refl _,rfl,fun j h1 h2=>absurd h2 (Nat.not_lt.2 h1),rfl⟩ ?_
  rintro N st ⟨k,hk,rfl,hj,rfl⟩
  refine AX.seq ?_
  cases N with
  | zero=>
   refine AX.sR (rgA [0,1,5,24]) ?_
   refine AX.condF ?_
   refine AX.exit ?_
   refine nmZ ?_
   refine AX.sR (rgA [4]) ?_
   refine AX.ret ⟨.inl rfl,?_⟩
   have:=digits_inj (eq_of_getD h0 fun j h=>hj j (Nat.zero_le _) h)
   subst this
   rw [cmp_eq]
   exact Done.one rfl (by simp only [frz];rfl) rfl rfl
  | succ k=>
   have e1:((k+1:Nat):Int)-1=(k:Int):=by omega
   rw [e1]
   refine AX.sR (rgA [0,1,5,24]) ?_
   refine AX.condT ?_
   refine AX.skip ?_
   refine nmZ ?_
   refine AX.seq ?_
   refine AX.block ?_
   by_cases h3:(digits m).getD k 0=(digits n).getD k 0
   ·refine AX.sD (rgDW [0,1,5,35] (aI @h3 oT) oT) ?_
    refine AX.condF ?_
    refine AX.skip ?_
    refine nmZ ?_
    refine AX.rR (rgA [0,1,5]) ?_
    refine nmZ ?_
    refine ⟨_,_,id,?_,
     leA
     , ⟨k,by omega,rfl,?_,rfl⟩⟩
    ·omega
    ·intro j h1 h2
     by_cases e:j=k
     ·subst e;exact h3
     ·exact hj j (by omega) h2
   ·refine AX.sD (rgDA [0,1,5,35]) ?_
    refine AX.condT ?_
    refine AX.seq ?_
    by_cases h4:(digits m).getD k 0<(digits n).getD k 0
    ·refine AX.sD (rgDA [0,1,5,44]) ?_
     refine AX.condT ?_
     refine AX.sR (rgA [4]) ?_
     refine AX.ret ⟨.inl rfl,?_⟩
     have:=val_lt_at (Dg_digits m) (Dg_digits n) h0 (i:=k) (by omega) (fun j h1 h2=>hj j (by omega) h2) h4
     rw [val_digits,val_digits] at this
     rw [cmp_lt this]
     exact Done.one rfl (by simp only [frz];rfl) rfl rfl
    ·refine AX.sD (rgDA [0,1,5,44]) ?_
     refine AX.condF ?_
     refine AX.skip ?_
     refine nmZ ?_
     refine AX.sR (rgA [4]) ?_
     refine AX.ret ⟨.inl rfl,?_⟩
     have:=val_lt_at (Dg_digits n) (Dg_digits m) h0.symm (i:=k) (by omega) (fun j h1 h2=>(hj j (by omega) (by omega)).symm) (by omega)
     rw [val_digits,val_digits] at this
     rw [cmp_gt this]
     exact Done.one rfl (by simp only [frz];rfl) rfl rfl
 ·refine AX.sR (rgA [0,1,14]) ?_
  refine AX.condT ?_
  refine AX.seq ?_
  by_cases h1:(digits m).length<(digits n).length
  ·refine AX.sR (rgA [0,1,19]) ?_
   refine AX.condT ?_
   refine AX.sR (rgA [4]) ?_
   refine AX.ret ⟨.inl rfl,?_⟩
   rw [cmp_lt (digits_len_lt h1)]
   exact Done.one rfl (by simp only [frz];rfl) rfl rfl
  ·refine AX.sR (rgA [0,1,19]) ?_
   refine AX.condF ?_
   refine AX.skip ?_
   refine nmZ ?_
   refine AX.sR (rgA [4]) ?_
   refine AX.ret ⟨.inl rfl,?_⟩
   rw [cmp_gt (digits_len_lt (by omega))]
   exact Done.one rfl (by simp only [frz];rfl) rfl rfl
theorem rbits_ok (a:List Nat)(ha:Dg a)(hl:a.length<2 ^ 40):PCall Tryz.prog 112 [dg a] (.i .i64 (blen (val a))) []:=by
 refine PCall.of_ax Tryz.call112 Tryz.func112 rfl (by simp [Tryz.ntmps112]) fun O w=>?_
 simp only [Tryz.ntmps112,Tryz.results112,argFr]
 have c1:=rntrim_ok a ha hl
 have hm:=digits_length_val ha
 generalize val a=m at *
 refine AX.sR (rgA [0]) ?_
 refine AX.sR (rgC [0] (aI c1 oT)) ?_
 refine AX.seq ?_
 by_cases h:(digits m).length=0
 ·refine AX.sR (rgA [0,9]) ?_
  refine AX.condT ?_
  refine AX.sR (rgA [2]) ?_
  refine AX.ret ⟨.inl rfl,?_⟩
  rw [digits_len_zero.1 h,blen_zero]
  exact Done.one rfl (by simp only [frz];rfl) rfl rfl
 ·refine AX.sR (rgA [0,9]) ?_
  refine AX.condF ?_
  refine AX.skip ?_
  refine nmZ ?_
  have h1:(((digits m).length:Nat):Int)-1=(((digits m).length-1:Nat):Int):=by omega
  have hb:=Dg_getD (Dg_digits m) ((digits m).length-1)
  have hb2:=blen_le (n:=(digits m).getD ((digits m).length-1) 0) (k:=32) (by omega)
  have hbl:=blen_digits (n:=m) (fun e=>h (by rw [e,digits_zero];rfl))
  generalize hy:(digits m).getD ((digits m).length-1) 0=y at *
  refine AX.sR (rgW [0,3] (aI @h1 oT) oT) ?_
  refine AX.seq ?_
  refine AX.sR (rgW [3,4] (aI @h1 (aI @hy oT)) oT) ?_
  refine AX.block ?_
  refine AX.loop (fun N st=>∃ c x:Nat,N=x∧x<4294967296∧c+blen x=blen m∧blen m<2 ^ 50∧st=⟨[(4,.i .u32 x),(3,.i .i64 c)],[],0⟩) y ⟨32*((digits m).length-1),y,rfl,hb,hbl.symm,by omega,?_⟩ ?_
  ·rw [Int.natCast_mul];rfl
  rintro N st ⟨c,x,rfl,hx,hc,hm',rfl⟩
  refine AX.seq ?_
  cases N with
  | zero=>
   refine AX.sR (rgA [3,4,21]) ?_
   refine AX.condF ?_
   refine AX.exit ?_
   refine nmZ ?_
   refine AX.sR (rgA [2]) ?_
   refine AX.ret ⟨.inl rfl,?_⟩
   refine Done.of rfl (by simp only [packV,frz];rfl) ?_ rfl rfl
   rw [← hc]
   rfl
  | succ x=>
   have h2:=blen_half (n:=x+1) (by omega)
   refine AX.sR (rgA [3,4,21]) ?_
   refine AX.condT ?_
   refine AX.skip ?_
   refine nmZ ?_
   refine AX.seq ?_
   refine AX.block ?_
   refine AX.rR (rgW [3,4] (aI @lit_add oT) oT) ?_
   refine nmZ ?_
   refine AX.rR (rgW [3,4] (aI @tdiv_two oT) oT) ?_
   refine nmZ ?_
   refine ⟨_,_,id,?_,
    leA
    , ⟨c+1,(x+1) / 2,rfl,by omega,by omega,hm',rfl⟩⟩
   omega
theorem bits_ok (a:List Nat)(ha:Dg a)(hl:a.length<2 ^ 40):PCall Tryz.prog 182 [dg a] (.i .i64 (blen (val a))) []:=by
 refine PCall.of_ax Tryz.call182 Tryz.func182 rfl (by simp [Tryz.ntmps182]) fun O w=>?_
 simp only [Tryz.ntmps182,Tryz.results182,argFr]
 have c1:=ntrim_ok a ha hl
 have hm:=digits_length_val ha
 generalize val a=m at *
 refine AX.sR (rgA [0]) ?_
 refine AX.sR (rgC [0] (aI c1 oT)) ?_
 refine AX.seq ?_
 by_cases h:(digits m).length=0
 ·refine AX.sR (rgA [0,7]) ?_
  refine AX.condT ?_
  refine AX.sR (rgA [2]) ?_
  refine AX.ret ⟨.inl rfl,?_⟩
  rw [digits_len_zero.1 h,blen_zero]
  exact Done.one rfl (by simp only [frz];rfl) rfl rfl
 ·refine AX.sR (rgA [0,7]) ?_
  refine AX.condF ?_
  refine AX.skip ?_
  refine nmZ ?_
  have h1:(((digits m).length:Nat):Int)-1=(((digits m).length-1:Nat):Int):=by omega
  have hb:=Dg_getD (Dg_digits m) ((digits m).length-1)
  have hb2:=blen_le (n:=(digits m).getD ((digits m).length-1) 0) (k:=32) (by omega)
  have c2:=len32_ok _ hb
  have hbl:=blen_digits (n:=m) (fun e=>h (by rw [e,digits_zero];rfl))
  refine AX.sR (rgW [2] (aI @h1 oT) (aI c2 oT)) ?_
  refine AX.ret ⟨.inl rfl,?_⟩
  refine Done.of rfl (by simp only [packV,frz];rfl) ?_ rfl rfl
  rw [hbl]
  congr 1
end Go.Proofs.YteidabibgjokkaaGreatDoor
