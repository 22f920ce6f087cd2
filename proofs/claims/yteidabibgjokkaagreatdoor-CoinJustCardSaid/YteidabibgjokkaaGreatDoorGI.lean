import Derived.Test.YteidabibgjokkaaGreatDoorGG
set_option maxRecDepth 20000
set_option linter.all false
namespace Go.Proofs.YteidabibgjokkaaGreatDoor
open Go Go.Proofs.YteidabibgjokkaaGreatDoor.Lift
attribute [local irreducible] Lift.PCall Lift.HCall
abbrev numE (n:Nat) (e:Int):V:=.tup [nv n,.i .i64 e]
theorem Lift.Done.ne {P:Program} {st:St} {t t':Tmp} {n:Nat} {e:Int} (h1:lkp st.fr t=some (nv n))(h2:lkp st.fr t'=some (.i .i64 e)):Done P #[.tmp t,.tmp t'] (numE n e) [] st:=
 Done.of (vs:=[nv n,.i .i64 e]) (by simp [resVs,resV,h1,h2]) (by simp only [packV,frz,frzL];rfl) rfl (by simp only [V.lt,V.ltL,ltL_u];rfl) (by simp only [V.ren,V.renL,renL_u])
theorem Lift.Done.nil_ne {P:Program} {st:St} {t t':Tmp} {e:Int} (h1:lkp st.fr t=some .nl)(h2:lkp st.fr t'=some (.i .i64 e)):Done P #[.tmp t,.tmp t'] (numE 0 e) [] st:=
 Done.of (vs:=[.nl,.i .i64 e]) (by simp [resVs,resV,h1,h2]) (by simp only [packV,frz,frzL];rfl) (by show V.tup [V.sl [],V.i .i64 e]=V.tup [V.sl ((digits 0).map u),V.i .i64 e];rw [digits_zero];rfl) (by simp only [V.lt,V.ltL,ltL_u];rfl) (by simp only [V.ren,V.renL,renL_u])
theorem sub_ok (a b:List Nat)(ha:Dg a)(hb:Dg b)(hla:a.length<2 ^ 39)(hlb:b.length<2 ^ 39):PCall Tryz.prog 88 [dg a,dg b] (numE (val a-val b) (if val a<val b then 1 else 0)) []:=by
 refine PCall.of_ax Tryz.call88 Tryz.func88 rfl (by simp [Tryz.ntmps88]) fun O w=>?_
 simp only [Tryz.ntmps88,Tryz.results88,argFr]
 have c0:=cmp_ok a b ha hb (by omega) (by omega)
 have c1:=ntrim_ok a ha (by omega)
 have c2:=ntrim_ok b hb (by omega)
 have hma:=digits_length_val ha
 have hmb:=digits_length_val hb
 generalize val a=m at *
 generalize val b=n at *
 refine AX.sR (rgA [0,1,4,5]) ?_
 refine AX.seq ?_
 by_cases h:m<n
 ·rw [cmp_lt h] at c0
  refine AX.sR (rgC [0,1,4,5,14] (aI c0 oT)) ?_
  refine AX.condT ?_
  refine AX.sR (rgA [4,5]) ?_
  refine AX.ret ⟨.inl rfl,?_⟩
  rw [if_pos h,show m-n=0 by omega]
  exact Done.nil_ne rfl rfl
 have h0:cmp m n=0∨cmp m n=1:=by
  unfold cmp
  rw [if_neg h]
  split
  ·exact .inl rfl
  ·exact .inr rfl
 have h0':¬ cmp m n<0:=by omega
 generalize cmp m n=z at *
 refine AX.sR (rgC [0,1,4,5,14] (aI c0 oT)) ?_
 refine AX.condF ?_
 refine AX.skip ?_
 refine nmZ ?_
 refine AX.sR (rgC [0,1,4,5] (aI c1 (aI c2 oT))) ?_
 refine AX.sR (rgA [0,1,6]) ?_
 refine AX.sR (rgA [0,1,6,7]) ?_
 refine AX.seq ?_
 refine AX.sR (rgA [0,1,6,7,22,23,24]) ?_
 have hdx:=Dg_digits m
 have hdy:=Dg_digits n
 refine AX.block ?_
 refine AX.loop (fun N st=>∃ (i c:Nat) (r:List Nat),N=(digits m).length-i∧i≤(digits m).length∧r.length=(digits m).length∧Dg r∧c≤1∧val (r.take i)+val ((digits n).take i)=val ((digits m).take i)+4294967296 ^ i*c ∧
  st=⟨[(24,.i .i64 i),(23,.i .i64 (digits m).length),(22,nv m),(7,.i .u64 c),(6,.own 0 0 (digits m).length 1),(1,nv n),(0,nv m)],[(0,⟨142,r.map u⟩)],1⟩) (digits m).length ⟨0,0,List.replicate (digits m).length 0,rfl,Nat.zero_le _,by simp,Dg_replicate _,by omega,by simp [val],rfl⟩ ?_
 rintro N st ⟨i,c,r,rfl,hi,hr,hdr,hc,hval,rfl⟩
 by_cases h1:i<(digits m).length
 ·refine AX.sR (rgA [0,1,6,7,22,23,24,25]) ?_
  refine AX.seq ?_
  refine AX.condT ?_
  refine AX.skip ?_
  refine nmZ ?_
  refine AX.seq ?_
  refine AX.block ?_
  have hx:=Dg_getD hdx i
  have hy:=Dg_getD hdy i
  refine AX.sR (rgA [0,1,6,7,8,9,22,23,24]) ?_
  refine AX.sR (rgA [0,1,6,7,8,9,10,22,23,24]) ?_
  refine AX.cut (fun st=>st=⟨[(10,.i .u64 (c+(digits n).getD i 0:Nat)),(9,.i .u32 ((digits m).getD i 0:Nat)),(8,.i .i64 i),(24,.i .i64 i),(23,.i .i64 (digits m).length),(22,nv m),(6,.own 0 0 (digits m).length 1),(1,nv n),(0,nv m)],[(0,⟨142,r.map u⟩)],1⟩) ?_ ?_
  ·by_cases h2:i<(digits n).length
   ·refine AX.sR (rgA [0,1,6,8,9,10,22,23,24,33]) ?_
    refine AX.condT ?_
    refine AX.rR (rgW [0,1,6,8,9,10,22,23,24] (aI @cAdd oT) oT) ?_
    exact ⟨rfl,rfl⟩
   ·refine AX.sR (rgA [0,1,6,8,9,10,22,23,24,33]) ?_
    refine AX.condF ?_
    refine AX.keepA [0,1,6,8,9,10,22,23,24] ?_
    refine AX.skip ?_
    rw [getD_out (l:=digits n) (by omega)]
    exact ⟨rfl,rfl⟩
  rintro st rfl
  refine AX.sR (rgA [0,1,6,7,8,9,10,22,23,24]) ?_
  generalize hy':(digits n).getD i 0=y at *
  generalize hx':(digits m).getD i 0=x at *
  refine AX.cut (fun st=>∃ c':Nat,c'≤1∧c+y≤x+c' * 4294967296∧x+c' * 4294967296<c+y+4294967296∧st=⟨[(7,.i .u64 c'),(10,.i .u64 (c+y:Nat)),(9,.i .u32 (x:Nat)),(8,.i .i64 i),(24,.i .i64 i),(23,.i .i64 (digits m).length),(22,nv m),(6,.own 0 0 (digits m).length 1),(1,nv n),(0,nv m)],[(0,⟨142,r.map u⟩)],1⟩) ?_ ?_
  ·by_cases h3:x<c+y
   ·refine AX.sR (rgA [0,1,6,7,8,9,10,22,23,24,44]) ?_
    refine AX.condT ?_
    refine AX.rR (rgA [0,1,6,7,8,9,10,22,23,24]) ?_
    exact ⟨rfl,1,by omega,by omega,by omega,rfl⟩
   ·refine AX.sR (rgA [0,1,6,7,8,9,10,22,23,24,44]) ?_
    refine AX.condF ?_
    refine AX.keepA [0,1,6,7,8,9,10,22,23,24] ?_
    refine AX.skip ?_
    exact ⟨rfl,0,by omega,by omega,by omega,rfl⟩
  rintro st ⟨c',hc',hle,hlt,rfl⟩
  have hs:=sub_cast hle
  refine AX.rR (rgW [0,1,6,7,22,23,24] (aI @shl32 (aI @cAdd (aI @hs oT))) oT) ?_
  refine nmZ ?_
  refine AX.rR (rgW [0,1,6,7,22,23,24] (aI @lit_add oT) oT) ?_
  refine nmZ ?_
  refine ⟨(digits m).length-(i+1),_,id,by omega,
   leA
   , ⟨i+1,c',r.set i (x+c' * 4294967296-(c+y)),rfl,by omega,by simp [hr],Dg_set hdr (by omega),hc',?_,rfl⟩⟩
  rw [take_set_succ r i _ (by omega),val_append,List.length_take,Nat.min_eq_left (by omega),val_take_step,val_take_step,hx',hy',Nat.pow_succ]
  simp only [val,Nat.mul_zero,Nat.add_zero]
  refine diff_step (w:=c) (w':=c') hval ?_
  rw [Nat.mul_comm 4294967296 c']
  omega
 ·refine AX.sR (rgA [0,1,6,7,22,23,24,25]) ?_
  refine AX.seq ?_
  refine AX.condF ?_
  refine AX.exit ?_
  refine nmZ ?_
  have hi':i=(digits m).length:=by omega
  have c3:=ntrim_ok r hdr (by omega)
  have hv:val r=m-n:=by
   subst hi'
   rw [← hr,List.take_length,hr,List.take_length,val_digits,List.take_of_length_le (digits_len_mono (by omega)),val_digits] at hval
   have:=val_lt hdr
   rw [hr] at this
   exact diff_end this hval (by omega)
  rw [hv] at c3
  have ht:List.take (digits m).length r=r:=List.take_of_length_le (by omega)
  refine AX.sR (rgW [4,5] (aI @ht oT) (aI c3 oT)) ?_
  refine AX.ret ⟨.inl rfl,?_⟩
  rw [if_neg h]
  exact Done.ne rfl rfl
theorem mul_ok (a b:List Nat)(ha:Dg a)(hb:Dg b)(hla:a.length<2 ^ 38)(hlb:b.length<2 ^ 38):PCall Tryz.prog 85 [dg a,dg b] (nv (val a*val b)) []:=by
 refine PCall.of_ax Tryz.call85 Tryz.func85 rfl (by simp [Tryz.ntmps85]) fun O w=>?_
 simp only [Tryz.ntmps85,Tryz.results85,argFr]
 have c1:=ntrim_ok a ha (by omega)
 have c2:=ntrim_ok b hb (by omega)
 have hma:=digits_length_val ha
 have hmb:=digits_length_val hb
 generalize val a=m at *
 generalize val b=n at *
 have hdx:=Dg_digits m
 have hdy:=Dg_digits n
 refine AX.sR (rgA [0,1]) ?_
 refine AX.sR (rgC [0,1] (aI c1 (aI c2 oT))) ?_
 refine AX.sR (rgW [0,1,5] (aI @cAdd oT) oT) ?_
 generalize hL:(digits m).length+(digits n).length=L at *
 refine AX.seq ?_
 refine AX.sR (rgA [0,1,5,21,22,23]) ?_
 refine AX.block ?_
 refine AX.loop (fun N st=>∃ (i:Nat) (r:List Nat),N=(digits m).length-i∧i≤(digits m).length∧r.length=L∧Dg r∧(∀ j,i+(digits n).length≤j→r.getD j 0=0)∧val r=val ((digits m).take i)*n ∧
  st=⟨[(23,.i .i64 i),(22,.i .i64 (digits m).length),(21,nv m),(5,.own 0 0 L 1),(1,nv n),(0,nv m)],[(0,⟨142,r.map u⟩)],1⟩) (digits m).length ⟨0,List.replicate L 0,rfl,Nat.zero_le _,by simp,Dg_replicate _,fun j _=>by simp [List.getD_eq_getElem?_getD,List.getElem?_replicate];split<;>rfl,by simp [val,val_replicate],rfl⟩ ?_
 rintro N st ⟨i,r,rfl,hi,hr,hdr,hz,hval,rfl⟩
 by_cases h1:i<(digits m).length
 ·refine AX.sR (rgA [0,1,5,21,22,23,24]) ?_
  refine AX.seq ?_
  refine AX.condT ?_
  refine AX.skip ?_
  refine nmZ ?_
  refine AX.seq ?_
  refine AX.block ?_
  have hx:=Dg_getD hdx i
  refine AX.sR (rgA [0,1,5,6,7,21,22,23]) ?_
  refine AX.sR (rgA [0,1,5,6,7,8,21,22,23]) ?_
  have htm:=val_take_step (digits m) i
  generalize hxx:(digits m).getD i 0=x at *
  refine AX.cut (fun st=>∃ (c:Nat) (r':List Nat),c<4294967296∧r'.length=L∧Dg r'∧(∀ j,i+(digits n).length≤j→r'.getD j 0=0)∧val r'+4294967296 ^ i*4294967296 ^ (digits n).length*c=val ((digits m).take i)*n+4294967296 ^ i*(x*n) ∧
   st=⟨[(8,.i .u64 c),(7,.i .u32 x),(6,.i .i64 i),(23,.i .i64 i),(22,.i .i64 (digits m).length),(21,nv m),(5,.own 0 0 L 1),(1,nv n),(0,nv m)],[(0,⟨142,r'.map u⟩)],1⟩) ?_ ?_
  ·refine AX.sR (rgA [0,1,5,6,7,8,21,22,23,28,29,30]) ?_
   refine AX.block ?_
   refine AX.loop (fun N st=>∃ (k c:Nat) (r':List Nat),N=(digits n).length-k∧k≤(digits n).length∧c<4294967296∧r'.length=L∧Dg r'∧(∀ j,i+(digits n).length≤j→r'.getD j 0=0)∧val r'+4294967296 ^ i*4294967296 ^ k*c=val ((digits m).take i)*n+4294967296 ^ i*(x*val ((digits n).take k)) ∧
    st=⟨[(30,.i .i64 k),(29,.i .i64 (digits n).length),(28,nv n),(8,.i .u64 c),(7,.i .u32 x),(6,.i .i64 i),(23,.i .i64 i),(22,.i .i64 (digits m).length),(21,nv m),(5,.own 0 0 L 1),(1,nv n),(0,nv m)],[(0,⟨142,r'.map u⟩)],1⟩) (digits n).length ⟨0,0,r,rfl,Nat.zero_le _,by omega,hr,hdr,hz,by simp [val,hval],rfl⟩ ?_
   clear hz hdr hr hval r
   rintro N st ⟨k,c,r,rfl,hk,hc,hr,hdr,hz,hval,rfl⟩
   by_cases h2:k<(digits n).length
   ·refine AX.sR (rgA [0,1,5,6,7,8,21,22,23,28,29,30,31]) ?_
    refine AX.seq ?_
    refine AX.condT ?_
    refine AX.skip ?_
    refine nmZ ?_
    refine AX.seq ?_
    refine AX.block ?_
    have hy:=Dg_getD hdy k
    have htn:=val_take_step (digits n) k
    have hrj:=Dg_getD hdr (i+k)
    have hset:=fun v=>val_set r (i+k) v (by omega)
    refine AX.sR (rgA [0,1,5,6,7,8,9,10,21,22,23,28,29,30]) ?_
    generalize (digits n).getD k 0=y at *
    generalize hrr:r.getD (i+k) 0=rj at *
    have hxy:=mul_bound hx hy
    refine AX.sR (rgW [0,1,5,6,7,8,9,21,22,23,28,29,30] (aI @cAdd (aI @cMul (aI @hrr oT))) oT) ?_
    generalize hs:c+(rj+x*y)=s at *
    refine AX.sR (rgW [0,1,5,6,7,8,21,22,23,28,29,30] (aI @cAdd (aI @u32n oT)) oT) ?_
    refine AX.rR (rgW [0,1,5,6,7,8,21,22,23,28,29,30] (aI @shr32 oT) oT) ?_
    refine nmZ ?_
    refine AX.rR (rgW [0,1,5,6,7,8,21,22,23,28,29,30] (aI @lit_add oT) oT) ?_
    refine nmZ ?_
    refine ⟨(digits n).length-(k+1),_,id,by omega,
     leA
     , ⟨k+1,s / 4294967296,r.set (i+k) (s % 4294967296),rfl,by omega,by omega,by simp [hr],Dg_set hdr (by omega),?_,?_,rfl⟩⟩
    ·intro j hj
     rw [List.getD_eq_getElem?_getD,List.getElem?_set_ne (by omega),← List.getD_eq_getElem?_getD]
     exact hz j hj
    ·rw [Nat.pow_succ,htn]
     refine mul_inner (c:=c) hval ?_
     rw [← Nat.pow_add]
     exact mul_step (hset _) hs
   ·refine AX.sR (rgA [0,1,5,6,7,8,21,22,23,28,29,30,31]) ?_
    refine AX.seq ?_
    refine AX.condF ?_
    refine AX.keepA [0,1,5,6,7,8,21,22,23] ?_
    refine AX.exit ?_
    refine nmZ ?_
    refine ⟨trivial,c,r,hc,hr,hdr,hz,?_,rfl⟩
    have hk':k=(digits n).length:=by omega
    rw [hk',List.take_length,val_digits] at hval
    exact hval
  rintro st ⟨c,r',hc,hr',hdr',hz',hval',rfl⟩
  have hrj:=hz' (i+(digits n).length) (Nat.le_refl _)
  have hset:=val_set r' (i+(digits n).length) c (by omega)
  have hcm:c % 4294967296=c:=Nat.mod_eq_of_lt hc
  refine AX.rR (rgW [0,1,5,21,22,23] (aI @cAdd (aI @u32n (aI @hcm oT))) oT) ?_
  refine nmZ ?_
  refine AX.rR (rgW [0,1,5,21,22,23] (aI @lit_add oT) oT) ?_
  refine nmZ ?_
  refine ⟨(digits m).length-(i+1),_,id,by omega,
   leA
   , ⟨i+1,r'.set (i+(digits n).length) c,rfl,by omega,by simp [hr'],Dg_set hdr' hc,?_,?_,rfl⟩⟩
  ·intro j hj
   rw [List.getD_eq_getElem?_getD,List.getElem?_set_ne (by omega),← List.getD_eq_getElem?_getD]
   exact hz' j (by omega)
  ·rw [hrj,Nat.mul_zero,Nat.add_zero,Nat.pow_add] at hset
   rw [htm]
   exact mul_outer hval' hset
 ·refine AX.sR (rgA [0,1,5,21,22,23,24]) ?_
  refine AX.seq ?_
  refine AX.condF ?_
  refine AX.exit ?_
  refine nmZ ?_
  have hi':i=(digits m).length:=by omega
  rw [hi',List.take_length,val_digits] at hval
  have c3:=ntrim_ok r hdr (by omega)
  rw [hval] at c3
  have ht:List.take L r=r:=List.take_of_length_le (by omega)
  refine AX.sR (rgW [4] (aI @ht oT) (aI c3 oT)) ?_
  refine AX.ret ⟨.inl rfl,?_⟩
  exact Done.sl rfl
end Go.Proofs.YteidabibgjokkaaGreatDoor
