import Derived.Test.YteidabibgjokkaaGreatDoorGE
import Derived.Test.YteidabibgjokkaaGreatDoorProg
import Derived.KernelRfl
set_option maxRecDepth 20000
set_option linter.all false
namespace Go.Proofs.YteidabibgjokkaaGreatDoor
open Go Go.Proofs.YteidabibgjokkaaGreatDoor.Lift
attribute [local irreducible] Lift.PCall Lift.HCall
def val:List Nat→Nat
 | []=>0
 | x :: l=>x+4294967296*val l
def Dg (l:List Nat):Prop:=∀ x ∈ l,x<4294967296
def digits (n:Nat):List Nat:=if h:n=0 then [] else n % 4294967296 :: digits (n / 4294967296)
termination_by n
decreasing_by omega
theorem digits_zero:digits 0=[]:=by rw [digits];simp
theorem digits_pos {n:Nat} (h:n≠0):digits n=n % 4294967296 :: digits (n / 4294967296):=by rw [digits];simp [h]
theorem Dg_nil:Dg []:=by intro x hx;cases hx
theorem Dg_cons {x:Nat} {l:List Nat}:Dg (x :: l)↔x<4294967296∧Dg l:=by
 unfold Dg;simp
theorem Dg_append {a b:List Nat}:Dg (a++b)↔Dg a∧Dg b:=by
 unfold Dg
 constructor
 ·intro h;exact ⟨fun x hx=>h x (by simp [hx]),fun x hx=>h x (by simp [hx])⟩
 ·rintro ⟨h1,h2⟩ x hx
  rcases List.mem_append.1 hx with h | h
  ·exact h1 x h
  ·exact h2 x h
theorem Dg_take {l:List Nat} (h:Dg l)(n:Nat):Dg (l.take n):=fun x hx=>h x (List.mem_of_mem_take hx)
theorem Dg_drop {l:List Nat} (h:Dg l)(n:Nat):Dg (l.drop n):=fun x hx=>h x (List.mem_of_mem_drop hx)
theorem Dg_getD {l:List Nat} (h:Dg l)(i:Nat):l.getD i 0<4294967296:=by
 rw [List.getD_eq_getElem?_getD]
 cases e:l[i]? with
 | none=>simp
 | some x=>exact h x (List.mem_of_getElem? e)
theorem Dg_set {l:List Nat} (h:Dg l) {i x:Nat} (hx:x<4294967296):Dg (l.set i x):=by
 intro y hy
 rcases List.mem_or_eq_of_mem_set hy with h1 | rfl
 ·exact h y h1
 ·exact hx
theorem Dg_replicate (n:Nat):Dg (List.replicate n 0):=by
 intro x hx;rw [List.mem_replicate] at hx;omega
theorem Dg_digits (n:Nat):Dg (digits n):=by
 induction n using Nat.strongRecOn with
 | _ n ih=>
  by_cases h:n=0
  ·subst h;rw [digits_zero];exact Dg_nil
  ·rw [digits_pos h,Dg_cons]
   exact ⟨Nat.mod_lt _ (by omega),ih _ (by omega)⟩
theorem val_digits (n:Nat):val (digits n)=n:=by
 induction n using Nat.strongRecOn with
 | _ n ih=>
  by_cases h:n=0
  ·subst h;rw [digits_zero];rfl
  ·rw [digits_pos h,val,ih _ (by omega)]
   omega
theorem val_append (a b:List Nat):val (a++b)=val a+4294967296 ^ a.length*val b:=by
 induction a with
 | nil=>simp [val]
 | cons x a ih=>
  simp only [List.cons_append,val,ih,List.length_cons,Nat.pow_succ]
  rw [Nat.mul_add,Nat.mul_comm (4294967296 ^ a.length) 4294967296,Nat.mul_assoc]
  omega
theorem val_replicate (n:Nat):val (List.replicate n 0)=0:=by
 induction n with
 | zero=>rfl
 | succ n ih=>simp [List.replicate_succ,val,ih]
theorem val_lt {l:List Nat} (h:Dg l):val l<4294967296 ^ l.length:=by
 induction l with
 | nil=>simp [val]
 | cons x l ih=>
  rw [Dg_cons] at h
  have:=ih h.2
  have hx:=h.1
  simp only [val,List.length_cons,Nat.pow_succ]
  omega
theorem take_succ_getD (l:List Nat)(i:Nat)(h:i<l.length):l.take (i+1)=l.take i++[l.getD i 0]:=by
 rw [List.take_add_one,List.getElem?_eq_getElem h]
 simp [List.getD_eq_getElem?_getD,h]
theorem val_take_succ (l:List Nat)(i:Nat)(h:i<l.length):val (l.take (i+1))=val (l.take i)+4294967296 ^ i*l.getD i 0:=by
 rw [take_succ_getD l i h,val_append]
 simp [val,List.length_take,Nat.min_eq_left (Nat.le_of_lt h)]
theorem val_take_drop (l:List Nat)(i:Nat)(h:i≤l.length):val l=val (l.take i)+4294967296 ^ i*val (l.drop i):=by
 conv=>lhs;rw [← List.take_append_drop i l,val_append]
 simp [List.length_take,Nat.min_eq_left h]
theorem val_drop_step (l:List Nat)(i:Nat)(h:i<l.length):val (l.drop i)=l.getD i 0+4294967296*val (l.drop (i+1)):=by
 rw [List.drop_eq_getElem_cons h,val]
 simp [List.getD_eq_getElem?_getD,h]
def tr:List Nat→Nat→Nat
 | l,0=>0
 | l,n+1=>if l.getD n 0=0 then tr l n else n+1
def trim (l:List Nat):List Nat:=l.take (tr l l.length)
theorem tr_le (l:List Nat):∀ n,tr l n≤n:=by
 intro n
 induction n with
 | zero=>exact Nat.le_refl _
 | succ n ih=>
  rw [tr]
  split
  ·omega
  ·omega
theorem val_tr (l:List Nat):∀ n,n≤l.length→val (l.take (tr l n))=val (l.take n):=by
 intro n
 induction n with
 | zero=>intro _;rfl
 | succ n ih=>
  intro h
  rw [tr]
  split
  ·rename_i h0
   rw [ih (by omega),val_take_succ l n (by omega),h0]
   simp
  ·rfl
theorem val_trim (l:List Nat):val (trim l)=val l:=by
 rw [trim,val_tr l _ (Nat.le_refl _),List.take_length]
theorem Dg_trim {l:List Nat} (h:Dg l):Dg (trim l):=Dg_take h _
theorem tr_last (l:List Nat):∀ n,n≤l.length→tr l n≠0→l.getD (tr l n-1) 0≠0:=by
 intro n
 induction n with
 | zero=>intro _ h;exact absurd rfl h
 | succ n ih=>
  intro h
  rw [tr]
  split
  ·exact ih (by omega)
  ·rename_i h0;intro _;exact h0
theorem canon_unique:∀ (a b:List Nat),Dg a→Dg b→(a≠[]→a.getD (a.length-1) 0≠0)→(b≠[]→b.getD (b.length-1) 0≠0)→val a=val b→a=b:=by
 intro a
 induction a with
 | nil=>
  intro b _ hb _ hb1 h
  cases b with
  | nil=>rfl
  | cons y b=>
   exfalso
   -- the last digit is not zero
   have:∀ (b:List Nat),b≠[]→b.getD (b.length-1) 0≠0→val b≠0:=by
    intro b
    induction b with
    | nil=>intro h;exact absurd rfl h
    | cons y b ih=>
     intro _ h1 h2
     simp only [val] at h2
     by_cases hb:b=[]
     ·subst hb;simp at h1;omega
     ·refine ih hb ?_ (by omega)
      have:(y :: b).length-1=(b.length-1)+1:=by
       have:=List.length_pos_iff.2 hb
       simp only [List.length_cons]
       omega
      rw [this] at h1
      simpa using h1
   exact this _ (by simp) (hb1 (by simp)) h.symm
 | cons x a ih=>
  intro b ha hb ha1 hb1 h
  have step:∀ (y:Nat) (c:List Nat),(y :: c≠[]→(y :: c).getD ((y :: c).length-1) 0≠0)→(c≠[]→c.getD (c.length-1) 0≠0):=by
   intro y c h1 hc
   have h2:=h1 (by simp)
   have:(y :: c).length-1=(c.length-1)+1:=by
    have:=List.length_pos_iff.2 hc
    simp only [List.length_cons]
    omega
   rw [this] at h2
   simpa using h2
  cases b with
  | nil=>
   exfalso
   have key:∀ (b:List Nat),b≠[]→b.getD (b.length-1) 0≠0→val b≠0:=by
    intro b
    induction b with
    | nil=>intro h;exact absurd rfl h
    | cons y b ih=>
     intro _ h1 h2
     simp only [val] at h2
     by_cases hb:b=[]
     ·subst hb;simp at h1;omega
     ·exact ih hb (step y b (fun _=>h1) hb) (by omega)
   exact key _ (by simp) (ha1 (by simp)) h
  | cons y b=>
   rw [Dg_cons] at ha hb
   simp only [val] at h
   have h1:=ha.1
   have h2:=hb.1
   have e1:x=y:=by omega
   subst e1
   rw [ih b ha.2 hb.2 (step x a ha1) (step x b hb1) (by omega)]
theorem trim_canon (l:List Nat):trim l≠[]→(trim l).getD ((trim l).length-1) 0≠0:=by
 intro h
 have hl:(trim l).length=tr l l.length:=by
  unfold trim
  rw [List.length_take]
  have:=tr_le l l.length
  omega
 have h0:tr l l.length≠0:=by
  intro e
  rw [e] at hl
  exact h (List.eq_nil_of_length_eq_zero hl)
 have:=tr_last l _ (Nat.le_refl _) h0
 rw [hl]
 have h3:(trim l).getD (tr l l.length-1) 0=l.getD (tr l l.length-1) 0:=by
  unfold trim
  rw [List.getD_eq_getElem?_getD,List.getD_eq_getElem?_getD,List.getElem?_take]
  rw [if_pos (by omega)]
 rw [h3]
 exact this
theorem digits_canon (n:Nat):digits n≠[]→(digits n).getD ((digits n).length-1) 0≠0:=by
 induction n using Nat.strongRecOn with
 | _ n ih=>
  intro h
  by_cases h0:n=0
  ·subst h0;rw [digits_zero] at h;exact absurd rfl h
  ·rw [digits_pos h0]
   by_cases h1:n / 4294967296=0
   ·rw [h1,digits_zero]
    simp
    omega
   ·have h2:digits (n / 4294967296)≠[]:=by rw [digits_pos h1];simp
    have:=ih _ (by omega) h2
    have e:(n % 4294967296 :: digits (n / 4294967296)).length-1=((digits (n / 4294967296)).length-1)+1:=by
     have:=List.length_pos_iff.2 h2
     simp only [List.length_cons]
     omega
    rw [e]
    simpa using this
theorem trim_eq {l:List Nat} (h:Dg l):trim l=digits (val l):=
 canon_unique _ _ (Dg_trim h) (Dg_digits _) (trim_canon l) (digits_canon _) (by rw [val_trim,val_digits])
theorem digits_length_le {n k:Nat} (h:n<4294967296 ^ k):(digits n).length≤k:=by
 induction k generalizing n with
 | zero=>
  have:n=0:=by simp at h;exact h
  subst this
  rw [digits_zero]
  simp
 | succ k ih=>
  by_cases h0:n=0
  ·subst h0;rw [digits_zero];simp
  ·rw [digits_pos h0,List.length_cons]
   have:n / 4294967296<4294967296 ^ k:=by
    rw [Nat.div_lt_iff_lt_mul (by omega)]
    rw [Nat.pow_succ] at h
    exact h
   have:=ih this
   omega
theorem digits_length_val {l:List Nat} (h:Dg l):(digits (val l)).length≤l.length:=digits_length_le (val_lt h)
theorem lt_pow_digits (n:Nat):n<4294967296 ^ (digits n).length:=by
 have:=val_lt (Dg_digits n)
 rwa [val_digits] at this
theorem pow_le_digits {n:Nat} (h:n≠0):4294967296 ^ ((digits n).length-1)≤n:=by
 induction n using Nat.strongRecOn with
 | _ n ih=>
  rw [digits_pos h,List.length_cons,Nat.add_sub_cancel]
  by_cases h1:n / 4294967296=0
  ·rw [h1,digits_zero];simp;omega
  ·have:=ih _ (by omega) h1
   have h2:(digits (n / 4294967296)).length≠0:=by rw [digits_pos h1];simp
   obtain ⟨k,hk⟩:=Nat.exists_eq_succ_of_ne_zero h2
   rw [hk,Nat.succ_sub_one] at this
   rw [hk,Nat.pow_succ]
   omega
theorem digits_len_mono {m n:Nat} (h:m≤n):(digits m).length≤(digits n).length:=
 digits_length_le (Nat.lt_of_le_of_lt h (lt_pow_digits n))
theorem digits_inj {m n:Nat} (h:digits m=digits n):m=n:=by
 have:=congrArg val h
 rwa [val_digits,val_digits] at this
theorem digits_len_zero {n:Nat}:(digits n).length=0↔n=0:=by
 constructor
 ·intro h
  by_cases h0:n=0
  ·exact h0
  ·rw [digits_pos h0] at h;simp at h
 ·rintro rfl;rw [digits_zero];rfl
def u (x:Nat):V:=.i .u32 x
abbrev dg (l:List Nat):V:=.sl (l.map u)
abbrev nv (n:Nat):V:=dg (digits n)
@[go_sem] theorem getD_u (l:List Nat) (j:Nat) (h:j<l.length):(l.map u).getD j .junk=V.i .u32 ((l.getD j 0:Nat):Int):=by
 simp [List.getD_eq_getElem?_getD,h,u]
@[go_sem] theorem cells_u_len (l:List Nat) (j:Nat):(((l.map u).getD j .junk).cells).length=1:=by
 rw [List.getD_eq_getElem?_getD,List.getElem?_map]
 cases l[j]? <;> rfl
theorem flatCells_u (l:List Nat):flatCells (l.map u)=l.map u:=by
 unfold flatCells
 induction l with
 | nil=>rfl
 | cons x l ih=>simp only [List.map_cons,List.flatMap_cons,ih];rfl
theorem flat_u (l:List Nat):(l.map u).all V.flat=true:=by
 rw [List.all_eq_true]
 intro v hv
 obtain ⟨x,_,rfl⟩:=List.mem_map.1 hv
 rfl
theorem hfL_u (l:List Nat):V.hfL (l.map u)=true:=by
 induction l with
 | nil=>rfl
 | cons x l ih=>simp only [List.map_cons,V.hfL,ih];rfl
theorem renL_u (f:Nat→Nat)(l:List Nat):V.renL f (l.map u)=l.map u:=by
 induction l with
 | nil=>rfl
 | cons x l ih=>simp only [List.map_cons,V.renL,ih];rfl
theorem ltL_u (n:Nat)(l:List Nat):V.ltL n (l.map u)=true:=by
 induction l with
 | nil=>rfl
 | cons x l ih=>simp only [List.map_cons,V.ltL,ih];rfl
theorem set_u (l:List Nat)(j:Nat)(x:Nat):(l.map u).set j (V.i .u32 ((x:Nat):Int))=(l.set j x).map u:=by
 rw [List.map_set];rfl
theorem replicate_u (n:Nat):List.replicate n (V.i .u32 0)=(List.replicate n 0).map u:=by
 rw [List.map_replicate];rfl
theorem append_u (l:List Nat)(x:Nat):l.map u++[V.i .u32 ((x:Nat):Int)]=(l++[x]).map u:=by simp [u]
theorem take_u (l:List Nat)(n:Nat):(l.map u).take n=(l.take n).map u:=by rw [List.map_take]
theorem drop_u (l:List Nat)(n:Nat):(l.map u).drop n=(l.drop n).map u:=by rw [List.map_drop]
theorem one_set (x:Nat):(List.replicate 1 0).set 0 x=[x]:=rfl
theorem take_one {α:Type} (x:α):List.take 1 [x]=[x]:=rfl
theorem append_ux (l:List Nat)(x:Nat):l.map u++[u x]=(l++[x]).map u:=by simp
theorem flat_ux (x:Nat):V.flat (u x)=true:=rfl
theorem hf_ux (x:Nat):V.hf (u x)=true:=rfl
theorem cells_ux (x:Nat):V.cells (u x)=[u x]:=rfl
theorem ren_ux (f:Nat→Nat)(x:Nat):V.ren f (u x)=u x:=rfl
theorem take_app1 (o:List Nat)(c n:Nat)(h:o.length+1≤n):List.take n (o++[c])=o++[c]:=List.take_of_length_le (by simpa using h)
theorem take_set (o:List Nat)(i c n:Nat)(h:o.length≤n):List.take n (o.set i c)=o.set i c:=List.take_of_length_le (by simpa using h)
theorem take_rep (m n:Nat)(h:m≤n):List.take n (List.replicate m 0)=List.replicate m 0:=List.take_of_length_le (by simpa using h)
attribute [go_sem] take_app1 take_set take_rep List.take_length
attribute [go_sem] one_set take_one append_ux flat_ux hf_ux cells_ux ren_ux
attribute [go_sem] true_or or_true List.length_take List.length_drop List.length_append List.length_set List.length_replicate flatCells_u flat_u hfL_u renL_u ltL_u set_u replicate_u append_u take_u drop_u
theorem u64n (n:Nat)(h:n<18446744073709551616):IntKind.u64.wrap (n:Int)=n:=u64_of _ (by omega) (by omega)
theorem u32n (n:Nat):IntKind.u32.wrap (n:Int)=((n % 4294967296:Nat):Int):=by rw [u32_wrap];omega
theorem i64n (n:Nat)(h:n<9223372036854775808):IntKind.i64.wrap (n:Int)=n:=i64_of _ (by omega) (by omega)
theorem lit_add (n:Nat):(n:Int)+1=((n+1:Nat):Int):=by omega
theorem frz_u {keep:List Nat} {h len:Nat} {l:List Nat} {T:TypeId} {hp:List (Nat × Row)} (hk:h ∉ keep)(h2:lkp hp h=some ⟨T,l.map u⟩)(h3:len=l.length):frz keep (.own h 0 len 1) hp=some (dg l,dlt hp h):=by
 subst h3
 have e:(List.take (l.length*1) (List.drop 0 (l.map u)))=l.map u:=by rw [Nat.mul_one,List.drop_zero,← List.map_take,List.take_length]
 simp only [frz,if_neg hk,h2]
 rw [e,if_pos ⟨by omega,by simp,flat_u l,hfL_u l⟩,chunks_one]
theorem Lift.Done.own {P:Program} {st:St} {t:Tmp} {h len:Nat} {l r:List Nat} {T:TypeId} (h1:lkp st.fr t=some (.own h 0 len 1))(h2:lkp st.hp h=some ⟨T,l.map u⟩)(h3:len=l.length)(h4:l=r):Done P #[.tmp t] (dg r) [] st:=by
 subst h4
 exact Done.one h1 (frz_u (by simp) h2 h3) (by simp only [V.lt,ltL_u]) (by simp only [V.ren,renL_u])
theorem Lift.Done.sl {P:Program} {st:St} {t:Tmp} {l:List Nat} (h1:lkp st.fr t=some (dg l)):Done P #[.tmp t] (dg l) [] st:=
 Done.one h1 (by simp only [frz];rfl) (by simp only [V.lt,ltL_u]) (by simp only [V.ren,renL_u])
theorem Lift.Done.of {P:Program} {rs:Array ResultVar} {vs:List V} {r v:V} {st:St} {hp:List (Nat × Row)} (h1:resVs P st rs.toList=some vs)(h2:frz [] (packV vs) st.hp=some (v,hp))(h:v=r)(h3:r.lt 0=true)(h4:r.ren id=r):Done P rs r [] st:=
 ⟨vs,h1,[],id,v,hp,h2,by rw [h4];exact h,h3,fun h q hq=>by simp at hq,fun h h' hh=>by simp at hh⟩
theorem Lift.AX.cut {P:Program} {C:Ctx} {st:St} {Q:Exit→St→Prop} {x y:Code} (I:St→Prop)(h:AX P C x st (fun e s=>e=.normal∧I s))(h2:∀ s,I s→AX P C y s Q):AX P C (.seq x y) st Q:=by
 refine AX.seq (h.mono ?_)
 rintro e s ⟨rfl,hi⟩
 exact h2 s hi
def blen (n:Nat):Nat:=if n=0 then 0 else n.log2+1
theorem blen_zero:blen 0=0:=rfl
theorem blen_iff {n m:Nat} (hm:0<m):blen n=m↔2 ^ (m-1)≤n∧n<2 ^ m:=by
 obtain ⟨k,rfl⟩:∃ k,m=k+1:=⟨m-1,by omega⟩
 unfold blen
 by_cases h:n=0
 ·subst h
  simp
 ·rw [if_neg h,Nat.add_sub_cancel,← Nat.log2_eq_iff h]
  omega
theorem blen_pos {n:Nat} (h:n≠0):0<blen n:=by
 unfold blen;rw [if_neg h];omega
theorem blen_spec {n:Nat} (h:n≠0):2 ^ (blen n-1)≤n∧n<2 ^ blen n:=(blen_iff (blen_pos h)).1 rfl
theorem blen_le {n k:Nat} (h:n<2 ^ k):blen n≤k:=by
 by_cases h0:n=0
 ·subst h0;simp [blen]
 ·have:=(blen_spec h0).1
  have h1:2 ^ (blen n-1)<2 ^ k:=Nat.lt_of_le_of_lt this h
  have:=(Nat.pow_lt_pow_iff_right (by omega:1<2)).1 h1
  omega
theorem blen_half {n:Nat} (h:n≠0):blen n=blen (n / 2)+1:=by
 obtain ⟨h1,h2⟩:=blen_spec h
 have hp:=blen_pos h
 obtain ⟨k,hk⟩:∃ k,blen n=k+1:=⟨blen n-1,by omega⟩
 rw [hk] at h1 h2 ⊢
 rw [Nat.add_sub_cancel] at h1
 by_cases hk0:k=0
 ·subst hk0
  have:n / 2=0:=by simp at h2;omega
  rw [this,blen_zero]
 ·have:blen (n / 2)=k:=by
   rw [blen_iff (by omega)]
   obtain ⟨j,rfl⟩:∃ j,k=j+1:=⟨k-1,by omega⟩
   rw [Nat.add_sub_cancel]
   rw [Nat.pow_succ] at h1 h2
   omega
  rw [this]
theorem blen_shift {n:Nat} (s:Nat)(h:n / 2 ^ s≠0):blen n=blen (n / 2 ^ s)+s:=by
 induction s generalizing n with
 | zero=>simp
 | succ s ih=>
  have e:n / 2 ^ (s+1)=n / 2 / 2 ^ s:=by rw [Nat.pow_succ,Nat.mul_comm,Nat.div_div_eq_div_mul]
  rw [e] at h ⊢
  have hn:n≠0:=by rintro rfl;simp at h
  rw [blen_half hn,ih h]
  omega
theorem blen_digits {n:Nat} (h:n≠0):blen n=32*((digits n).length-1)+blen ((digits n).getD ((digits n).length-1) 0):=by
 induction n using Nat.strongRecOn with
 | _ n ih=>
  rw [digits_pos h]
  by_cases h1:n / 4294967296=0
  ·rw [h1,digits_zero]
   simp
   congr 1
   omega
  ·have h2:=ih _ (by omega) h1
   have h3:blen n=blen (n / 2 ^ 32)+32:=blen_shift 32 (by simpa using h1)
   have h4:(digits (n / 4294967296)).length≠0:=by rw [digits_pos h1];simp
   rw [h3]
   rw [show (2:Nat) ^ 32=4294967296 from rfl,h2]
   obtain ⟨k,hk⟩:=Nat.exists_eq_succ_of_ne_zero h4
   rw [List.length_cons,hk]
   simp
   omega
theorem blen_digits_le (n:Nat):blen n≤32*(digits n).length:=by
 apply blen_le
 have:=lt_pow_digits n
 rwa [show (4294967296:Nat)=2 ^ 32 from rfl,← Nat.pow_mul] at this
def cmp (m n:Nat):Int:=if m<n then -1 else if m=n then 0 else 1
theorem cmp_lt {m n:Nat} (h:m<n):cmp m n=-1:=if_pos h
theorem cmp_gt {m n:Nat} (h:n<m):cmp m n=1:=by unfold cmp;rw [if_neg (by omega),if_neg (by omega)]
theorem cmp_eq (m:Nat):cmp m m=0:=by simp [cmp]
theorem digits_len_lt {m n:Nat} (h:(digits m).length<(digits n).length):m<n:=by
 apply Nat.lt_of_not_le
 intro h1
 have:=digits_len_mono h1
 omega
theorem val_lt_at {a b:List Nat} (ha:Dg a)(hb:Dg b)(hl:a.length=b.length) {i:Nat} (hi:i<a.length)(he:∀ j,i<j→j<a.length→a.getD j 0=b.getD j 0)(h:a.getD i 0<b.getD i 0):val a<val b:=by
 have e:a.drop (i+1)=b.drop (i+1):=by
  apply List.ext_getElem (by simp [hl])
  intro j h1 h2
  simp only [List.length_drop] at h1
  have:=he (i+1+j) (by omega) (by omega)
  rw [List.getElem_drop,List.getElem_drop]
  rw [List.getD_eq_getElem?_getD,List.getD_eq_getElem?_getD,List.getElem?_eq_getElem (by omega),List.getElem?_eq_getElem (by omega)] at this
  exact this
 rw [val_take_drop a i (by omega),val_take_drop b i (by omega),val_drop_step a i hi,val_drop_step b i (by omega),e]
 have h1:=val_lt (Dg_take ha i)
 rw [List.length_take,Nat.min_eq_left (by omega)] at h1
 have h2:4294967296 ^ i*(a.getD i 0+4294967296*val (b.drop (i+1))+1)≤4294967296 ^ i*(b.getD i 0+4294967296*val (b.drop (i+1))):=Nat.mul_le_mul_left _ (by omega)
 rw [Nat.mul_add _ _ 1,Nat.mul_one] at h2
 omega
theorem eq_of_getD {a b:List Nat} (hl:a.length=b.length)(he:∀ j,j<a.length→a.getD j 0=b.getD j 0):a=b:=by
 apply List.ext_getElem hl
 intro j h1 h2
 have:=he j h1
 simpa [List.getD_eq_getElem?_getD,h1,h2] using this
theorem getD_out {l:List Nat} {i:Nat} (h:l.length≤i):l.getD i 0=0:=by
 rw [List.getD_eq_getElem?_getD,List.getElem?_eq_none h];rfl
theorem take_out_val (l:List Nat)(i:Nat)(h:l.length≤i):val (l.take (i+1))=val (l.take i):=by
 rw [List.take_of_length_le h,List.take_of_length_le (by omega)]
theorem val_take_step (l:List Nat)(i:Nat):val (l.take (i+1))=val (l.take i)+4294967296 ^ i*l.getD i 0:=by
 by_cases h:i<l.length
 ·exact val_take_succ l i h
 ·rw [take_out_val l i (by omega),getD_out (by omega)];simp
theorem sum_step {o:List Nat} {i s:Nat} (ho:o.length=i)(hs:s<18446744073709551616):val (o++[s % 4294967296])+4294967296 ^ (i+1)*(s / 4294967296)=val o+4294967296 ^ i*s:=by
 rw [val_append,ho]
 simp only [val,Nat.mul_zero,Nat.add_zero]
 have:s=s % 4294967296+4294967296*(s / 4294967296):=by omega
 conv=>rhs;rw [this]
 rw [Nat.mul_add,Nat.pow_succ,Nat.mul_assoc]
 omega
theorem take_set_succ (r:List Nat)(i v:Nat)(h:i<r.length):(r.set i v).take (i+1)=r.take i++[v]:=by
 rw [take_succ_getD _ i (by simpa using h)]
 congr 1
 ·rw [List.take_set_of_le (Nat.le_refl _)]
 ·simp [List.getD_eq_getElem?_getD,h]
theorem val_take_all {l:List Nat} {i:Nat} (h:val l<4294967296 ^ i):val (l.take i)=val l:=by
 by_cases h1:i≤l.length
 ·have h2:=val_take_drop l i h1
  have:val (l.drop i)=0:=by
   apply Nat.eq_zero_of_not_pos
   intro hp
   have:4294967296 ^ i*1≤4294967296 ^ i*val (l.drop i):=Nat.mul_le_mul_left _ hp
   omega
  rw [this] at h2
  omega
 ·rw [List.take_of_length_le (by omega)]
theorem diff_step {p q B x y w w' v r:Nat} (h:r+q=p+B*w)(hv:v+(y+w)=x+4294967296*w'):(r+B*v)+(q+B*y)=(p+B*x)+B*4294967296*w':=by
 have h1:B*v+(B*y+B*w)=B*x+B*4294967296*w':=by
  rw [← Nat.mul_add,← Nat.mul_add,hv,Nat.mul_add,Nat.mul_assoc]
 omega
theorem diff_end {r b a B w:Nat} (hr:r<B)(h:r+b=a+B*w)(hba:b≤a):r=a-b:=by
 cases w with
 | zero=>omega
 | succ w=>
  rw [Nat.mul_succ] at h
  omega
theorem sub_cast {a b:Nat} (h:b≤a):(a:Int)-(b:Int)=((a-b:Nat):Int):=by omega
theorem val_set (r:List Nat)(j v:Nat)(h:j<r.length):val (r.set j v)+4294967296 ^ j*r.getD j 0=val r+4294967296 ^ j*v:=by
 induction r generalizing j with
 | nil=>simp at h
 | cons x r ih=>
  cases j with
  | zero=>simp [val];omega
  | succ j=>
   simp only [List.length_cons] at h
   have:=ih j (by omega)
   simp only [List.set_cons_succ,val,List.getD_cons_succ,Nat.pow_succ]
   rw [Nat.mul_comm (4294967296 ^ j) 4294967296,Nat.mul_assoc,Nat.mul_assoc]
   omega
theorem mul_step {R R' P c s rj xy:Nat} (h1:R'+P*rj=R+P*(s % 4294967296))(hs:c+(rj+xy)=s):R'+P*4294967296*(s / 4294967296)=R+P*c+P*xy:=by
 have h2:P*s=P*(s % 4294967296)+P*4294967296*(s / 4294967296):=by
  rw [Nat.mul_assoc,← Nat.mul_add]
  congr 1
  omega
 have h3:P*s=P*c+(P*rj+P*xy):=by rw [← Nat.mul_add,← Nat.mul_add,hs]
 omega
theorem mul_inner {R R' V0 Bi Bk c c' x y Y:Nat} (h:R+Bi*Bk*c=V0+Bi*(x*Y))(h2:R'+Bi*Bk*4294967296*c'=R+Bi*Bk*c+Bi*Bk*(x*y)):R'+Bi*(Bk*4294967296)*c'=V0+Bi*(x*(Y+Bk*y)):=by
 grind
theorem mul_bound {x y:Nat} (hx:x<4294967296)(hy:y<4294967296):x*y≤18446744065119617025:=by
 have:=Nat.mul_le_mul (show x≤4294967295 by omega) (show y≤4294967295 by omega)
 omega
theorem mul_outer {R R' V Y P Q c x:Nat} (h:R+P*Q*c=V*Y+P*(x*Y))(h2:R'=R+P*Q*c):R'=(V+P*x)*Y:=by
 grind
theorem drop_set_self (r:List Nat)(k v:Nat)(h:k<r.length):(r.set k v).drop k=v :: r.drop (k+1):=by
 rw [List.drop_eq_getElem_cons (by simpa using h)]
 simp [List.drop_set_of_lt]
theorem short_step {A Q R d x q R' s:Nat} (h:A=d*Q+R)(hs:R*4294967296+x=s)(hq:q=s / d)(hR:R'=s % d):x+4294967296*A=d*(q+4294967296*Q)+R':=by
 subst h hq hR
 have:=Nat.div_add_mod s d
 rw [Nat.mul_add,Nat.mul_add,Nat.mul_left_comm d 4294967296 Q]
 omega
theorem short_lt {R d x:Nat} (h:R<d)(hx:x<4294967296):(R*4294967296+x) / d<4294967296:=by
 rw [Nat.div_lt_iff_lt_mul (by omega)]
 have:(R+1)*4294967296≤d*4294967296:=Nat.mul_le_mul_right _ h
 rw [Nat.mul_comm 4294967296 d]
 omega
theorem divmod_unique {n d q r:Nat} (h:n=d*q+r)(hr:r<d):q=n / d∧r=n % d:=by
 subst h
 rw [Nat.mul_add_div (by omega),Nat.div_eq_of_lt hr,Nat.mul_add_mod,Nat.mod_eq_of_lt hr]
 exact ⟨rfl,rfl⟩
theorem shr32 (n:Nat):Int.fdiv (n:Int) (2 ^ (min 32 64))=((n / 4294967296:Nat):Int):=by
 have:((2:Int) ^ (min 32 64))=((4294967296:Nat):Int):=by decide
 rw [this]
 exact (Int.ofNat_fdiv n 4294967296).symm
theorem shr_nat (n k:Nat):Int.fdiv (n:Int) (2 ^ k)=((n / 2 ^ k:Nat):Int):=by
 have:((2:Int) ^ k)=((2 ^ k:Nat):Int):=by simp
 rw [this]
 exact (Int.ofNat_fdiv n (2 ^ k)).symm
theorem tab_fact {s:ByteArray} (hs:((List.range 256).all fun z=>decide (byteAt s z=(blen z:Int)))=true) {z:Nat} (hz:z<256):byteAt s z=(blen z:Int):=by
 rw [List.all_eq_true] at hs
 simpa using hs z (by simp [hz])
theorem effIdx {P:Program} {t:TypeId} {x y:Operand} {s:ByteArray} {k:IntKind} {j m:Nat} (hu:P.underlying t=some .string)(hs:Nat.ble m s.size=true)(hj:j<m):eff P (.index t x y) [.s s,.i k (j:Int)]=some (.val (.i .u8 (byteAt s j))):=by
 have h1:m≤s.size:=Nat.le_of_ble_eq_true hs
 show effIndex P t [.s s,.i k (j:Int)]=_
 simp only [effIndex,hu]
 rw [if_pos ⟨by omega,by omega⟩,Int.toNat_natCast]
theorem u8n (n:Nat)(h:n<256):IntKind.u8.wrap (n:Int)=n:=by
 simp [IntKind.wrap,IntKind.bits,IntKind.signed];omega
theorem valsStr {fr:List (Nat × V)} {s:ByteArray} {t:Nat} {v:V} (hs:Nat.blt s.size (2 ^ 62)=true)(h:lkp fr t=some v):valsOf fr [.const (.string s),.tmp t]=some [.s s,v]:=by
 have h1:s.size<2 ^ 62:=by
  simp [Nat.blt] at hs
  omega
 simp only [valsOf,valOf,h,ofConst,ofCell,if_pos h1]
theorem tdiv_two (m:Nat):Int.tdiv (m:Int) 2=((m / 2:Nat):Int):=rfl
theorem shl32 (n:Nat):(n:Int)*2 ^ (min 32 64)=((n*4294967296:Nat):Int):=by
 have:((2:Int) ^ (min 32 64))=((4294967296:Nat):Int):=by decide
 rw [this,Int.natCast_mul]
theorem ofInt_toNat64 (a:Nat)(h:a<18446744073709551616):(BitVec.ofInt 64 (a:Int)).toNat=a:=by
 rw [BitVec.toNat_ofInt]
 omega
theorem or_lo_hi {a b:Nat} (ha:a<4294967296):a ||| b*4294967296=a+b*4294967296:=by
 rw [Nat.or_comm,show b*4294967296=b <<< 32 by rw [Nat.shiftLeft_eq],← Nat.shiftLeft_add_eq_or_of_lt (by simpa using ha)]
 omega
theorem ori {a b:Nat} (ha:a<4294967296)(hb:b<4294967296):orI .u64 (a:Int) ((b*4294967296:Nat):Int)=((a+b*4294967296:Nat):Int):=by
 show (((BitVec.ofInt 64 (a:Int) ||| BitVec.ofInt 64 ((b*4294967296:Nat):Int)).toNat:Nat):Int)=_
 rw [BitVec.toNat_or,ofInt_toNat64 a (by omega),ofInt_toNat64 _ (by omega),or_lo_hi ha]
theorem ori' {a b:Nat} (ha:a<4294967296)(hb:b<4294967296):orI .u64 ((b*4294967296:Nat):Int) (a:Int)=((b*4294967296+a:Nat):Int):=by
 show (((BitVec.ofInt 64 ((b*4294967296:Nat):Int) ||| BitVec.ofInt 64 (a:Int)).toNat:Nat):Int)=_
 rw [BitVec.toNat_or,ofInt_toNat64 a (by omega),ofInt_toNat64 _ (by omega),Nat.or_comm,or_lo_hi ha,Nat.add_comm]
theorem getD_dg (ls:List (List Nat))(j:Nat)(h:j<ls.length):(ls.map dg).getD j .junk=dg (ls.getD j []):=by
 simp [List.getD_eq_getElem?_getD,h]
theorem cells_dg_len (ls:List (List Nat))(j:Nat):(((ls.map dg).getD j .junk).cells).length=1:=by
 rw [List.getD_eq_getElem?_getD,List.getElem?_map]
 cases ls[j]? <;> rfl
attribute [go_sem] getD_dg cells_dg_len
theorem lay_u32:lay Tryz.prog 142=some ⟨1,false,4,[.i .u32 0]⟩:=by kernel_rfl
theorem lay_nat:lay Tryz.prog 52=some ⟨1,false,24,[.nl]⟩:=by kernel_rfl
theorem lay_u8:lay Tryz.prog 5=some ⟨1,false,1,[.i .u8 0]⟩:=by kernel_rfl
attribute [go_sem] Tryz.underlying3 Tryz.underlying4 Tryz.underlying9 Tryz.underlying5 Tryz.underlying106 Tryz.underlying76 Tryz.underlying142 Tryz.underlying52 Tryz.underlying190 Tryz.underlying26 lay_u32 lay_nat lay_u8
theorem trim_ok (l:List Nat)(hl:l.length<2 ^ 40):PCall Tryz.prog 128 [dg l] (dg (trim l)) []:=by
 refine PCall.of_ax Tryz.call128 Tryz.func128 rfl (by simp [Tryz.ntmps128]) fun O w=>?_
 simp only [Tryz.ntmps128,Tryz.results128,argFr]
 refine AX.sR (rgA [0]) ?_
 refine AX.sR (rgA [0,3]) ?_
 refine AX.seq (AX.block ?_)
 refine AX.loop (fun n st=>∃ k:Nat,k≤l.length∧n=k∧tr l l.length=tr l k∧st=⟨[(3,.i .i64 k),(0,dg l)],[],0⟩) l.length ⟨l.length,Nat.le_refl _,rfl,rfl,rfl⟩ ?_
 rintro n st ⟨k,hk,rfl,htr,rfl⟩
 refine AX.seq ?_
 cases n with
 | zero=>
  refine AX.sR (rgA [0,3,15]) ?_
  refine AX.condF ?_
  refine AX.exit ?_
  simp only [zn3,zn8,zn6,if_true,zn1]
  refine AX.sR (rgA [2]) ?_
  refine AX.ret ⟨.inl rfl,?_⟩
  rw [trim,htr,tr]
  exact Done.one rfl (by simp only [frz];rfl) rfl rfl
 | succ k=>
  have hk1:((k+1:Nat):Int)-1=k:=by omega
  by_cases hz:l.getD k 0=0
  ·refine AX.sR (rgW [0,3,15] (aI @hk1 (aI @hz oT)) oT) ?_
   refine AX.condT ?_
   refine AX.skip ?_
   simp only [zn1]
   refine AX.block ?_
   refine AX.rR (rgW [0,3] (aI @hk1 oT) oT) ?_
   simp only [zn4]
   refine ⟨k,_,id,Nat.lt_succ_self k,
    ⟨by simp only [LeFr,LeHp,lkp,V.ren,V.renL,Row.ren,V.lt,V.ltL,renL_u,ltL_u,List.length_append,List.length_cons,List.length_nil,List.length_set,id_eq,Option.some.injEq,V.i.injEq,V.b.injEq,V.own.injEq,Row.mk.injEq,decide_true,decide_eq_true_eq,true_and,and_true,Bool.and_true,Bool.true_and,if_true,if_false,and_self,Nat.reduceLT,Nat.reduceLeDiff,Nat.reduceEqDiff,Nat.reduceAdd,Nat.reduceSub,Nat.reduceMul,Nat.reducePow,Nat.reduceBEq,Int.reduceLE,Int.reduceLT,Int.reduceToNat,Int.reduceEq,Int.reduceNeg,↓reduceIte,reduceCtorEq] <;> (first | done | trivial | (and_intros<;>first | trivial | omega | assumption)),by simp only [LeFr,LeHp,lkp,V.ren,V.renL,Row.ren,V.lt,V.ltL,renL_u,ltL_u,List.length_append,List.length_cons,List.length_nil,List.length_set,id_eq,Option.some.injEq,V.i.injEq,V.b.injEq,V.own.injEq,Row.mk.injEq,decide_true,decide_eq_true_eq,true_and,and_true,Bool.and_true,Bool.true_and,if_true,if_false,and_self,Nat.reduceLT,Nat.reduceLeDiff,Nat.reduceEqDiff,Nat.reduceAdd,Nat.reduceSub,Nat.reduceMul,Nat.reducePow,Nat.reduceBEq,Int.reduceLE,Int.reduceLT,Int.reduceToNat,Int.reduceEq,Int.reduceNeg,↓reduceIte,reduceCtorEq] <;> (first | done | trivial | (and_intros<;>first | trivial | omega | assumption)),by simp [Apart],by first | exact Nat.zero_le _ | simp,by intro n hn;first | rfl | exact absurd hn (Nat.not_lt_zero _) | (have h0:n=0:=Nat.lt_one_iff.1 hn;subst h0;rfl)⟩
    , ⟨k,by omega,rfl,by rw [htr,tr,if_pos hz],rfl⟩⟩
  ·refine AX.sR (rgW [0,3,15] (aI @hk1 oT) oT) ?_
   refine AX.condF ?_
   refine AX.exit ?_
   simp only [zn3,zn8,zn6,if_true,zn1]
   refine AX.sR (rgA [2]) ?_
   refine AX.ret ⟨.inl rfl,?_⟩
   rw [trim,htr,tr,if_neg hz]
   exact Done.one rfl (by simp only [frz];rfl) rfl rfl
theorem clone_ok (l:List Nat)(hl:l.length<2 ^ 40):PCall Tryz.prog 148 [dg l] (dg l) []:=by
 refine PCall.of_ax Tryz.call148 Tryz.func148 rfl (by simp [Tryz.ntmps148]) fun O w=>?_
 simp only [Tryz.ntmps148,Tryz.results148,argFr]
 refine AX.sR (rgA [0,2]) ?_
 refine AX.seq ?_
 cases l with
 | nil=>
  refine AX.seq (AX.isnil (t0:=0) (t3:=3) (t4:=4) rfl rfl rfl rfl rfl rfl (fun _=>rfl) Tryz.underlying52 rfl ⟨(by decide:3<8),(by decide:4<8)⟩ fun b=>?_)
  refine nmZ ?_
  cases b with
  | true=>
   refine AX.condT ?_
   refine AX.sR (rgA [0,2]) ?_
   refine AX.ret ⟨.inl rfl,?_⟩
   exact Done.one rfl (by simp only [frz];rfl) rfl rfl
  | false=>
   refine AX.condF ?_
   refine AX.skip ?_
   refine nmZ ?_
   refine AX.sR (rgA [2]) ?_
   refine AX.ret ⟨.inl rfl,?_⟩
   exact Done.own (l:=[]) rfl rfl rfl rfl
 | cons x l=>
  refine AX.sR (rgA [0,4]) ?_
  refine AX.condF ?_
  refine AX.skip ?_
  refine nmZ ?_
  generalize x :: l=L at *
  refine AX.sR (rgA [2]) ?_
  refine AX.ret ⟨.inl rfl,?_⟩
  exact Done.own (l:=L) rfl rfl (by simp) rfl
theorem leA {g:Nat} {f:Nat→Nat} {st' st:St} (h1:LeFr f st.fr st'.nx st'.fr:=by simp only [LeFr,LeHp,lkp,V.ren,V.renL,Row.ren,V.lt,V.ltL,renL_u,ltL_u,List.length_append,List.length_cons,List.length_nil,List.length_set,id_eq,Option.some.injEq,V.i.injEq,V.b.injEq,V.own.injEq,Row.mk.injEq,decide_true,decide_eq_true_eq,true_and,and_true,Bool.and_true,Bool.true_and,if_true,if_false,and_self,Nat.reduceLT,Nat.reduceLeDiff,Nat.reduceEqDiff,Nat.reduceAdd,Nat.reduceSub,Nat.reduceMul,Nat.reducePow,Nat.reduceBEq,Int.reduceLE,Int.reduceLT,Int.reduceToNat,Int.reduceEq,Int.reduceNeg,reduceIte,reduceCtorEq] <;> (first | done | trivial | (and_intros<;>first | trivial | omega | assumption)))
  (h2:LeHp f st.hp st'.nx st'.hp:=by simp only [LeFr,LeHp,lkp,V.ren,V.renL,Row.ren,V.lt,V.ltL,renL_u,ltL_u,List.length_append,List.length_cons,List.length_nil,List.length_set,id_eq,Option.some.injEq,V.i.injEq,V.b.injEq,V.own.injEq,Row.mk.injEq,decide_true,decide_eq_true_eq,true_and,and_true,Bool.and_true,Bool.true_and,if_true,if_false,and_self,Nat.reduceLT,Nat.reduceLeDiff,Nat.reduceEqDiff,Nat.reduceAdd,Nat.reduceSub,Nat.reduceMul,Nat.reducePow,Nat.reduceBEq,Int.reduceLE,Int.reduceLT,Int.reduceToNat,Int.reduceEq,Int.reduceNeg,reduceIte,reduceCtorEq] <;> (first | done | trivial | (and_intros<;>first | trivial | omega | assumption)))
  (h3:Apart f st'.hp:=by simp [Apart]) (h4:g≤st'.nx:=by first | exact Nat.zero_le _ | simp) (h5:∀ n,n<g→f n=n:=by intro n hn;first | rfl | exact absurd hn (Nat.not_lt_zero _)):Le g f st' st:=⟨h1,h2,h3,h4,h5⟩
end Go.Proofs.YteidabibgjokkaaGreatDoor
