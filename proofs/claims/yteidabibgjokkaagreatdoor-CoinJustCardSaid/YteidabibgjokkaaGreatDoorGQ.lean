import Derived.Test.YteidabibgjokkaaGreatDoorGN
set_option maxRecDepth 20000
set_option linter.all false
namespace Go.Proofs.YteidabibgjokkaaGreatDoor
open Go Go.Proofs.YteidabibgjokkaaGreatDoor.Lift
attribute [local irreducible] Lift.PCall Lift.HCall
def sg (s:Bool) (m:Nat):Int:=if s=true then -(m:Int) else m
def rq (s:Bool) (m n:Nat):Rat:=mkRat (sg s m) n
abbrev rR (s:Bool) (a b:List Nat):V:=.agg [.b s,dg a,dg b]
abbrev rV (q:Rat):V:=rR (decide (q.num<0)) (digits q.num.natAbs) (digits q.den)
theorem sg_natAbs (s:Bool)(m:Nat):(sg s m).natAbs=m:=by
 cases s<;>simp [sg]
theorem sg_neg (s:Bool)(m:Nat):decide (sg s m<0)=(s && decide (m≠0)):=by
 cases s
 ·show decide ((m:Int)<0)=false
  exact decide_eq_false (by omega)
 ·show decide (-(m:Int)<0)=(true && decide (m≠0))
  rw [Bool.true_and]
  exact decide_eq_decide.2 (by omega)
theorem sg_self (z:Int):sg (decide (z<0)) z.natAbs=z:=by
 unfold sg
 by_cases h:z<0
 ·rw [decide_eq_true h,if_pos rfl];omega
 ·rw [decide_eq_false h,if_neg (by simp)];omega
theorem sg_zero (s:Bool):sg s 0=0:=by cases s<;>rfl
theorem rq_self (q:Rat):rq (decide (q.num<0)) q.num.natAbs q.den=q:=by
 unfold rq
 rw [sg_self,Rat.mkRat_self]
theorem rq_den0 (s:Bool)(m:Nat):rq s m 0=0:=Rat.mkRat_zero _
theorem rq_num0 (s:Bool)(n:Nat):rq s 0 n=0:=by
 unfold rq
 rw [sg_zero,Rat.zero_mkRat]
theorem rq_num {s:Bool} {m n:Nat} (hn:n≠0):(rq s m n).num=sg s (m / Nat.gcd m n):=by
 unfold rq
 rw [Rat.num_mkRat,if_neg hn,sg_natAbs,Nat.gcd_comm]
 obtain ⟨k,hk⟩:=Nat.gcd_dvd_left m n
 have hg:Nat.gcd m n≠0:=fun e=>hn (Nat.gcd_eq_zero_iff.1 e).2
 generalize Nat.gcd m n=g at *
 subst hk
 rw [Nat.mul_div_cancel_left _ (Nat.pos_of_ne_zero hg)]
 have hgi:(g:Int)≠0:=by omega
 cases s
 ·show ((g*k:Nat):Int) / (g:Int)=(k:Int)
  rw [Int.natCast_mul,Int.mul_ediv_cancel_left _ hgi]
 ·show -((g*k:Nat):Int) / (g:Int)=-(k:Int)
  rw [Int.natCast_mul,← Int.mul_neg,Int.mul_ediv_cancel_left _ hgi]
theorem rq_den {s:Bool} {m n:Nat} (hn:n≠0):(rq s m n).den=n / Nat.gcd m n:=by
 unfold rq
 rw [Rat.den_mkRat,if_neg hn,sg_natAbs,Nat.gcd_comm]
theorem rV_rq {s:Bool} {m n:Nat} (hn:n≠0):rV (rq s m n)=.agg [.b (s && decide (0<(digits (m / Nat.gcd m n)).length)),nv (m / Nat.gcd m n),nv (n / Nat.gcd m n)]:=by
 unfold rV
 rw [rq_num hn,rq_den hn,sg_natAbs,sg_neg]
 have:decide (m / Nat.gcd m n≠0)=decide (0<(digits (m / Nat.gcd m n)).length):=by
  apply decide_eq_decide.2
  have:=digits_len_zero (n:=m / Nat.gcd m n)
  omega
 rw [this]
theorem rV_zero:rV 0=.agg [.b false,.sl [],nv 1]:=by
 show V.agg [.b (decide ((0:Int)<0)),nv 0,nv 1]=_
 rw [show nv 0=V.sl [] by show V.sl ((digits 0).map u)=_;rw [digits_zero];rfl]
 rfl
theorem rq_eq_zero {s:Bool} {m n:Nat}:rq s m n=0↔m=0∨n=0:=by
 constructor
 ·intro h
  by_cases hn:n=0
  ·exact .inr hn
  left
  have h1:=rq_num (s:=s) (m:=m) hn
  rw [h] at h1
  have h2:=sg_natAbs s (m / Nat.gcd m n)
  rw [← h1] at h2
  have h3:m / Nat.gcd m n=0:=h2.symm
  have hd:=Nat.div_mul_cancel (Nat.gcd_dvd_left m n)
  rw [h3,Nat.zero_mul] at hd
  exact hd.symm
 ·rintro (rfl | rfl)
  ·exact rq_num0 _ _
  ·exact rq_den0 _ _
def rL (q:Rat):Nat:=max (digits q.num.natAbs).length (digits q.den).length
theorem rL_rq {s:Bool} {m n L:Nat} (hm:(digits m).length≤L)(hn:(digits n).length≤L)(hL:1≤L):rL (rq s m n)≤L:=by
 unfold rL
 by_cases h:n=0
 ·subst h
  rw [rq_den0]
  have h1:(digits ((0:Rat).num.natAbs)).length=0:=by show (digits 0).length=0;rw [digits_zero];rfl
  have h2:(digits ((0:Rat).den)).length≤1:=digits_length_le (n:=1) (k:=1) (by omega)
  omega
 ·rw [rq_num h,rq_den h,sg_natAbs]
  have h1:=digits_len_mono (Nat.div_le_self m (Nat.gcd m n))
  have h2:=digits_len_mono (Nat.div_le_self n (Nat.gcd m n))
  omega
theorem neg_rq (s:Bool)(m n:Nat):-rq s m n=rq (!s) m n:=by
 unfold rq
 rw [Rat.neg_mkRat]
 congr 1
 cases s<;>simp [sg]
theorem mul_rq (s t:Bool)(m n p q:Nat):rq s m n*rq t p q=rq (s != t) (m*p) (n*q):=by
 unfold rq
 rw [Rat.mkRat_mul_mkRat]
 congr 1
 cases s<;>cases t<;>simp [sg,Int.natCast_mul,Int.neg_mul,Int.mul_neg]
theorem add_rq {s t:Bool} {m n p q:Nat} (hn:n≠0)(hq:q≠0):rq s m n+rq t p q=mkRat (sg s (m*q)+sg t (p*n)) (n*q):=by
 unfold rq
 rw [Rat.mkRat_add_mkRat _ _ hn hq]
 congr 1
 cases s<;>cases t<;>simp [sg,Int.natCast_mul,Int.neg_mul]
theorem sg_add_same (s:Bool)(x y:Nat):sg s x+sg s y=sg s (x+y):=by
 cases s<;>simp [sg] <;> omega
theorem sg_add_diff {s t:Bool} (h:s≠t) {x y:Nat} (hxy:y≤x):sg s x+sg t y=sg s (x-y):=by
 cases s<;>cases t<;>simp [sg] at h ⊢ <;> omega
theorem sg_mul (s:Bool)(m q:Nat):sg s m*(q:Int)=sg s (m*q):=by
 cases s<;>simp [sg,Int.natCast_mul,Int.neg_mul]
theorem natCast_pos' {n:Nat} (h:n≠0):(0:Rat)<(n:Rat):=Rat.natCast_pos.2 (by omega)
theorem rq_lt {s t:Bool} {m n p q:Nat} (hn:n≠0)(hq:q≠0):rq s m n<rq t p q↔sg s (m*q)<sg t (p*n):=by
 have h1:=natCast_pos' hn
 have h2:=natCast_pos' hq
 unfold rq
 rw [Rat.mkRat_eq_div,Rat.mkRat_eq_div,Rat.div_lt_iff h1,Rat.div_def,Rat.mul_assoc,Rat.mul_comm (q:Rat)⁻¹,← Rat.mul_assoc,← Rat.div_def,Rat.lt_div_iff h2,← Rat.intCast_lt_intCast (a:=sg s (m*q)),← sg_mul,← sg_mul,Rat.intCast_mul,Rat.intCast_mul]
 rfl
theorem rq_neg {s:Bool} {m n:Nat} (hn:n≠0):rq s m n<0↔sg s m<0:=by
 have h1:=natCast_pos' hn
 unfold rq
 rw [Rat.mkRat_eq_div,Rat.div_lt_iff h1,Rat.zero_mul,← Rat.intCast_lt_intCast (a:=sg s m)]
 rfl
theorem add_same (s:Bool) {m n p q:Nat} (hn:n≠0)(hq:q≠0):rq s m n+rq s p q=rq s (m*q+p*n) (n*q):=by
 rw [add_rq hn hq,sg_add_same];rfl
theorem add_ge {s t:Bool} (h:s≠t) {m n p q:Nat} (hn:n≠0)(hq:q≠0)(hle:p*n≤m*q):rq s m n+rq t p q=rq s (m*q-p*n) (n*q):=by
 rw [add_rq hn hq,sg_add_diff h hle];rfl
theorem add_lt {s t:Bool} (h:s≠t) {m n p q:Nat} (hn:n≠0)(hq:q≠0)(hlt:m*q<p*n):rq s m n+rq t p q=rq t (p*n-m*q) (n*q):=by
 rw [add_rq hn hq,Int.add_comm,sg_add_diff (Ne.symm h) (Nat.le_of_lt hlt)];rfl
theorem inv_rq (t:Bool)(p q:Nat):(rq t p q)⁻¹=rq t q p:=by
 unfold rq
 rw [← Rat.divInt_ofNat,Rat.inv_divInt]
 cases t
 ·show Rat.divInt (q:Int) (p:Int)=_
  rw [Rat.divInt_ofNat];rfl
 ·show Rat.divInt (q:Int) (-(p:Int))=_
  rw [Rat.divInt_neg',Rat.divInt_ofNat];rfl
theorem div_rq (s t:Bool)(m n p q:Nat):rq s m n / rq t p q=rq (s != t) (m*q) (n*p):=by
 rw [Rat.div_def,inv_rq,mul_rq]
def sgnR (q:Rat):Int:=if q<0 then -1 else if q=0 then 0 else 1
def cmpR (p q:Rat):Int:=if p<q then -1 else if p=q then 0 else 1
theorem sgnR_rq {s:Bool} {m n:Nat} (hm:m≠0)(hn:n≠0):sgnR (rq s m n)=if s=true then -1 else 1:=by
 unfold sgnR
 have h0:rq s m n≠0:=fun e=>by rcases rq_eq_zero.1 e with h | h;exact hm h;exact hn h
 cases s
 ·rw [if_neg (fun h=>by have:=(rq_neg hn).1 h;simp [sg] at this;omega),if_neg h0,if_neg (by simp)]
 ·rw [if_pos ((rq_neg hn).2 (by simp [sg];omega)),if_pos rfl]
theorem cmpR_lt {p q:Rat} (h:p<q):cmpR p q=-1:=if_pos h
theorem cmpR_gt {p q:Rat} (h:q<p):cmpR p q=1:=by
 unfold cmpR
 rw [if_neg (by grind),if_neg (by grind)]
theorem cmpR_self (p:Rat):cmpR p p=0:=by
 unfold cmpR
 rw [if_neg Rat.lt_irrefl,if_pos rfl]
theorem cmpR_rq {s t:Bool} {m n p q:Nat}:cmpR (rq s m n) (rq t p q)=if sgnR (rq s m n)<sgnR (rq t p q) then -1 else if sgnR (rq t p q)<sgnR (rq s m n) then 1 else sgnR (rq s m n)*cmp (m*q) (p*n):=by
 by_cases ha:rq s m n=0
 ·rw [ha]
  by_cases hb:rq t p q=0
  ·rw [hb];simp [sgnR,cmpR_self,Rat.lt_irrefl]
  ·by_cases h:rq t p q<0
   ·rw [cmpR_gt h];simp [sgnR,h,Rat.lt_irrefl]
   ·rw [cmpR_lt (by grind)];simp [sgnR,h,hb,Rat.lt_irrefl]
 ·by_cases hb:rq t p q=0
  ·rw [hb]
   by_cases h:rq s m n<0
   ·rw [cmpR_lt h];simp [sgnR,h,Rat.lt_irrefl]
   ·rw [cmpR_gt (by grind)];simp [sgnR,h,ha,Rat.lt_irrefl]
  ·have hm:m≠0:=fun e=>ha (rq_eq_zero.2 (.inl e))
   have hn:n≠0:=fun e=>ha (rq_eq_zero.2 (.inr e))
   have hp:p≠0:=fun e=>hb (rq_eq_zero.2 (.inl e))
   have hq:q≠0:=fun e=>hb (rq_eq_zero.2 (.inr e))
   have hl:=rq_lt (s:=s) (t:=t) (m:=m) (p:=p) hn hq
   have hg:=rq_lt (s:=t) (t:=s) (m:=p) (p:=m) hq hn
   rw [sgnR_rq hm hn,sgnR_rq hp hq]
   unfold cmpR cmp
   have he:rq s m n=rq t p q↔¬ rq s m n<rq t p q∧¬ rq t p q<rq s m n:=by grind
   have h1:0<m*q:=Nat.mul_pos (by omega) (by omega)
   have h2:0<p*n:=Nat.mul_pos (by omega) (by omega)
   generalize rq s m n=x at *
   generalize rq t p q=y at *
   generalize m*q=X at *
   generalize p*n=Y at *
   cases s<;>cases t<;>simp only [sg,if_true,if_false,Bool.false_eq_true] at hl hg ⊢ <;> simp only [he,hl,hg] <;> (repeat' split)<;>omega
theorem sgnR_zero:sgnR 0=0:=by simp [sgnR,Rat.lt_irrefl]
theorem cmpR_eq_zero {p q:Rat}:cmpR p q=0↔p=q:=by
 unfold cmpR
 split
 ·rename_i h
  constructor
  ·intro h2;omega
  ·intro h2;subst h2;exact absurd h Rat.lt_irrefl
 ·split
  ·simp [*]
  ·simp [*]
theorem lay_ratio:lay Tryz.prog 54=some ⟨3,true,56,[.b false,.nl,.nl]⟩:=by kernel_rfl
theorem lay_bool:lay Tryz.prog 4=some ⟨1,false,1,[.b false]⟩:=by kernel_rfl
attribute [go_sem] Tryz.underlying54 Tryz.underlying2 lay_ratio lay_bool
def IsQ (v:V) (q:Rat) (L:Nat):Prop:=∃ (s:Bool) (a b:List Nat),v=rR s a b∧Dg a∧Dg b∧rq s (val a) (val b)=q∧a.length≤L∧b.length≤L
theorem IsQ.self (q:Rat):IsQ (rV q) q (rL q):=
 ⟨_,_,_,rfl,Dg_digits _,Dg_digits _,by rw [val_digits,val_digits,rq_self],Nat.le_max_left _ _,Nat.le_max_right _ _⟩
theorem IsQ.mono {v:V} {q:Rat} {L L':Nat} (h:IsQ v q L)(hL:L≤L'):IsQ v q L':=by
 obtain ⟨s,a,b,h1,h2,h3,h4,h5,h6⟩:=h
 exact ⟨s,a,b,h1,h2,h3,h4,by omega,by omega⟩
theorem IsQ.of {q:Rat} {L:Nat} (h:rL q≤L):IsQ (rV q) q L:=(IsQ.self q).mono h
abbrev zR:V:=.agg [.b false,.sl [],.sl []]
theorem Lift.Done.cell {st:St} {a:Tmp} {h:Nat} {T:TypeId} {s:Bool} {x y:List Nat} (h1:lkp st.fr a=some (.ptr h 0))(h2:lkp st.hp h=some ⟨T,[.b s,dg x,dg y]⟩):Done Tryz.prog #[.cell a 54] (rR s x y) [] st:=by
 refine Done.of (vs:=[rR s x y]) (hp:=st.hp) ?_ ?_ rfl ?_ ?_
 ·simp only [resVs,resV,h1,h2,lay_ratio];rfl
 ·rfl
 ·simp only [rR,V.lt,V.ltL,ltL_u];rfl
 ·simp only [rR,V.ren,V.renL,renL_u]
theorem Lift.Done.cellE {st:St} {a t':Tmp} {h:Nat} {T:TypeId} {s:Bool} {x y:List Nat} {e:Int} (h1:lkp st.fr a=some (.ptr h 0))(h2:lkp st.hp h=some ⟨T,[.b s,dg x,dg y]⟩)(h3:lkp st.fr t'=some (.i .i64 e)):Done Tryz.prog #[.cell a 54,.tmp t'] (.tup [rR s x y,.i .i64 e]) [] st:=by
 refine Done.of (vs:=[rR s x y,.i .i64 e]) (hp:=st.hp) ?_ ?_ rfl ?_ ?_
 ·simp only [resVs,resV,h1,h2,h3,lay_ratio];rfl
 ·rfl
 ·simp only [rR,V.lt,V.ltL,ltL_u];rfl
 ·simp only [rR,V.ren,V.renL,renL_u]
theorem Lift.Done.cellZ {st:St} {a t':Tmp} {h:Nat} {T:TypeId} {e:Int} (h1:lkp st.fr a=some (.ptr h 0))(h2:lkp st.hp h=some ⟨T,[.b false,.nl,.nl]⟩)(h3:lkp st.fr t'=some (.i .i64 e)):Done Tryz.prog #[.cell a 54,.tmp t'] (.tup [zR,.i .i64 e]) [] st:=by
 refine Done.of (vs:=[.agg [.b false,.nl,.nl],.i .i64 e]) (hp:=st.hp) ?_ ?_ rfl rfl rfl
 ·simp only [resVs,resV,h1,h2,h3,lay_ratio];rfl
 ·rfl
theorem Lift.Done.cell0 {st:St} {a:Tmp} {h:Nat} {T:TypeId} {y:List Nat} (h1:lkp st.fr a=some (.ptr h 0))(h2:lkp st.hp h=some ⟨T,[.b false,.nl,dg y]⟩):Done Tryz.prog #[.cell a 54] (.agg [.b false,.sl [],dg y]) [] st:=by
 refine Done.of (vs:=[.agg [.b false,.nl,dg y]]) (hp:=st.hp) ?_ ?_ rfl ?_ ?_
 ·simp only [resVs,resV,h1,h2,lay_ratio];rfl
 ·rfl
 ·simp only [V.lt,V.ltL,ltL_u];rfl
 ·simp only [V.ren,V.renL,renL_u]
theorem zero_ok:PCall Tryz.prog 67 [] (rV 0) []:=by
 refine PCall.of_ax Tryz.call67 Tryz.func67 rfl (by simp [Tryz.ntmps67]) fun O w=>?_
 simp only [Tryz.ntmps67,Tryz.results67,argFr]
 have c1:=of_ok 1 (by omega)
 refine AX.sR (rgAV [0]) ?_
 refine AX.sR (rgCV [0] (aI c1 oT)) ?_
 refine AX.ret ⟨.inl rfl,?_⟩
 rw [rV_zero]
 exact Done.cell0 rfl rfl
theorem one_ok:PCall Tryz.prog 96 [] (rV 1) []:=by
 refine PCall.of_ax Tryz.call96 Tryz.func96 rfl (by simp [Tryz.ntmps96]) fun O w=>?_
 simp only [Tryz.ntmps96,Tryz.results96,argFr]
 have c1:=of_ok 1 (by omega)
 refine AX.sR (rgAV [0]) ?_
 refine AX.sR (rgCV [0] (aI c1 oT)) ?_
 refine AX.ret ⟨.inl rfl,?_⟩
 exact Done.cell rfl rfl
def ofV (s:Bool) (m n:Nat):V:=if n=0 then .tup [zR,.i .i64 31] else .tup [rV (rq s m n),.i .i64 0]
theorem cmp_zero {n:Nat}:cmp n 0=if n=0 then 0 else 1:=by
 unfold cmp
 rw [if_neg (by omega)]
set_option maxHeartbeats 2000000 in
theorem qof_ok (s:Bool)(a b:List Nat)(ha:Dg a)(hb:Dg b)(hla:a.length<2 ^ 36)(hlb:b.length<2 ^ 36):PCall Tryz.prog 78 [.b s,dg a,dg b] (ofV s (val a) (val b)) []:=by
 refine PCall.of_ax Tryz.call78 Tryz.func78 rfl (by simp [Tryz.ntmps78]) fun O w=>?_
 simp only [Tryz.ntmps78,Tryz.results78,argFr]
 have hma:=digits_length_val ha
 have hmb:=digits_length_val hb
 have c1:=gcd_ok a b ha hb hla hlb
 have c2:=cmp_ok b [] hb Dg_nil (by omega) (by decide)
 have hgl:(digits (Nat.gcd (val a) (val b))).length<2 ^ 37:=by
  have h1:=digits_len_mono (show Nat.gcd (val a) (val b)≤val a+val b by
   by_cases h:val a=0
   ·rw [h];simp
   ·have:=Nat.gcd_le_left (val b) (Nat.pos_of_ne_zero h);omega)
  have h2:=digits_len_add (val a) (val b)
  omega
 rw [show val []=0 from rfl,cmp_zero] at c2
 refine AX.sR (rgAV [0,1,2,6,7]) ?_
 refine AX.sR (rgCV [0,1,2,6,7,8] (aI c1 oT)) ?_
 refine AX.seq ?_
 unfold ofV
 by_cases hn:val b=0
 ·rw [if_pos hn] at c2 ⊢
  refine AX.sR (rgCV [0,1,2,6,7,20] (aI c2 oT)) ?_
  refine AX.condT ?_
  refine AX.sR (rgAV [6,7]) ?_
  refine AX.ret ⟨.inl rfl,?_⟩
  exact Done.cellZ rfl rfl rfl
 rw [if_neg hn] at c2 ⊢
 have hg0:Nat.gcd (val a) (val b)≠0:=fun e=>hn (Nat.gcd_eq_zero_iff.1 e).2
 have hgl2:(digits (Nat.gcd (val a) (val b))).length<2 ^ 36:=by
  have h1:=digits_len_mono (Nat.gcd_le_right (val a) (Nat.pos_of_ne_zero hn))
  omega
 have c3:=div_ok a (digits (Nat.gcd (val a) (val b))) ha (Dg_digits _) hla hgl2
 have c4:=div_ok b (digits (Nat.gcd (val a) (val b))) hb (Dg_digits _) hlb hgl2
 rw [val_digits] at c3 c4
 unfold divV at c3 c4
 rw [rV_rq hn]
 have hq:=digits_len_mono (Nat.div_le_self (val a) (Nat.gcd (val a) (val b)))
 generalize val a=m at *
 generalize val b=n at *
 generalize Nat.gcd m n=g at *
 generalize remN m g=r1 at *
 generalize remN n g=r2 at *
 generalize divE g=e at *
 generalize m / g=x at *
 generalize n / g=y at *
 refine AX.sR (rgCV [0,1,2,6,8,20] (aI c2 oT)) ?_
 refine AX.condF ?_
 refine AX.keepA [0,1,2,6,8] ?_
 refine AX.skip ?_
 refine nmZ ?_
 refine AX.sR (rgCV [0,2,6,8,9] (aI c3 oT)) ?_
 refine AX.sR (rgCV [0,6,9,12] (aI c4 oT)) ?_
 cases s
 ·refine AX.sR (rgAV [6,7]) ?_
  refine AX.ret ⟨.inl rfl,?_⟩
  exact Done.cellE rfl rfl rfl
 ·by_cases hx:0<(digits x).length
  ·rw [decide_eq_true hx]
   refine AX.sR (rgAV [6,7]) ?_
   refine AX.ret ⟨.inl rfl,?_⟩
   exact Done.cellE rfl rfl rfl
  ·rw [decide_eq_false hx]
   refine AX.sR (rgAV [6,7]) ?_
   refine AX.ret ⟨.inl rfl,?_⟩
   exact Done.cellE rfl rfl rfl
set_option maxHeartbeats 2000000 in
theorem made_ok (s:Bool)(a b:List Nat)(ha:Dg a)(hb:Dg b)(hla:a.length<2 ^ 36)(hlb:b.length<2 ^ 36):PCall Tryz.prog 84 [.b s,dg a,dg b] (rV (rq s (val a) (val b))) []:=by
 refine PCall.of_ax Tryz.call84 Tryz.func84 rfl (by simp [Tryz.ntmps84]) fun O w=>?_
 simp only [Tryz.ntmps84,Tryz.results84,argFr]
 have c1:=qof_ok s a b ha hb hla hlb
 unfold ofV at c1
 refine AX.sR (rgAV [0,1,2,6]) ?_
 by_cases hn:val b=0
 ·rw [if_pos hn] at c1
  have c2:=zero_ok
  rw [hn,rq_den0,rV_zero]
  rw [rV_zero] at c2
  refine AX.sR (rgCV [6,7,8] (aI c1 oT)) ?_
  refine AX.seq ?_
  refine AX.sR (rgAV [6,7,17]) ?_
  refine AX.condT ?_
  refine AX.sR (rgCV [6] (aI c2 oT)) ?_
  refine AX.ret ⟨.inl rfl,?_⟩
  exact Done.cell (x:=[]) rfl rfl
 ·rw [if_neg hn] at c1
  refine AX.sR (rgCV [6,7,8] (aI c1 oT)) ?_
  refine AX.seq ?_
  refine AX.sR (rgAV [6,7,17]) ?_
  refine AX.condF ?_
  refine AX.keepA [6,7] ?_
  refine AX.skip ?_
  refine nmZ ?_
  refine AX.sR (rgAV [6]) ?_
  refine AX.ret ⟨.inl rfl,?_⟩
  exact Done.cell rfl rfl
end Go.Proofs.YteidabibgjokkaaGreatDoor
