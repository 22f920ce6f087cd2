import Derived.Test.YteidabibgjokkaaGreatDoorGI
import Derived.ChangeKeysEq
import Derived.Test.YteidabibgjokkaaGreatDoorGF
import Derived.Test.YteidabibgjokkaaGreatDoorGM
import Derived.Test.YteidabibgjokkaaGreatDoorGE
import Derived.Lib.Bytealg
set_option maxRecDepth 20000
set_option linter.all false
namespace Go.Proofs.YteidabibgjokkaaGreatDoor
open Go Go.Proofs.YteidabibgjokkaaGreatDoor.Lift
attribute [local irreducible] Lift.PCall Lift.HCall
def y8 (x:Nat):V:=.i .u8 x
@[go_sem] theorem getD_y (l:List Nat) (j:Nat) (h:j<l.length):(l.map y8).getD j .junk=V.i .u8 ((l.getD j 0:Nat):Int):=by
 simp [List.getD_eq_getElem?_getD,h,y8]
@[go_sem] theorem cells_y_len (l:List Nat) (j:Nat):(((l.map y8).getD j .junk).cells).length=1:=by
 rw [List.getD_eq_getElem?_getD,List.getElem?_map]
 cases l[j]? <;> rfl
theorem flatCells_y (l:List Nat):flatCells (l.map y8)=l.map y8:=by
 unfold flatCells
 induction l with
 | nil=>rfl
 | cons x l ih=>simp only [List.map_cons,List.flatMap_cons,ih];rfl
theorem flat_y (l:List Nat):(l.map y8).all V.flat=true:=by
 rw [List.all_eq_true]
 intro v hv
 obtain ⟨x,_,rfl⟩:=List.mem_map.1 hv
 rfl
theorem hfL_y (l:List Nat):V.hfL (l.map y8)=true:=by
 induction l with
 | nil=>rfl
 | cons x l ih=>simp only [List.map_cons,V.hfL,ih];rfl
theorem renL_y (f:Nat→Nat)(l:List Nat):V.renL f (l.map y8)=l.map y8:=by
 induction l with
 | nil=>rfl
 | cons x l ih=>simp only [List.map_cons,V.renL,ih];rfl
theorem ltL_y (n:Nat)(l:List Nat):V.ltL n (l.map y8)=true:=by
 induction l with
 | nil=>rfl
 | cons x l ih=>simp only [List.map_cons,V.ltL,ih];rfl
theorem set_y (l:List Nat)(j:Nat)(x:Nat):(l.map y8).set j (V.i .u8 ((x:Nat):Int))=(l.set j x).map y8:=by
 rw [List.map_set];rfl
theorem replicate_y (n:Nat):List.replicate n (V.i .u8 0)=(List.replicate n 0).map y8:=by
 rw [List.map_replicate];rfl
theorem append_y (l:List Nat)(x:Nat):l.map y8++[V.i .u8 ((x:Nat):Int)]=(l++[x]).map y8:=by simp [y8]
theorem take_y (l:List Nat)(n:Nat):(l.map y8).take n=(l.take n).map y8:=by rw [List.map_take]
theorem drop_y (l:List Nat)(n:Nat):(l.map y8).drop n=(l.drop n).map y8:=by rw [List.map_drop]
theorem append_yx (l:List Nat)(x:Nat):l.map y8++[y8 x]=(l++[x]).map y8:=by simp
theorem flat_yx (x:Nat):V.flat (y8 x)=true:=rfl
theorem hf_yx (x:Nat):V.hf (y8 x)=true:=rfl
theorem cells_yx (x:Nat):V.cells (y8 x)=[y8 x]:=rfl
theorem ren_yx (f:Nat→Nat)(x:Nat):V.ren f (y8 x)=y8 x:=rfl
theorem numsOf_y (l:List Nat):numsOf .u8 (l.map y8)=some (l.map Int.ofNat):=by
 induction l with
 | nil=>rfl
 | cons x l ih=>
  show numsOf .u8 (V.i .u8 (x:Int) :: l.map y8)=_
  unfold numsOf
  simp only [ih,if_true]
  rfl
attribute [go_sem] append_yx flat_yx hf_yx cells_yx ren_yx flatCells_y flat_y hfL_y renL_y ltL_y set_y replicate_y append_y take_y drop_y numsOf_y
theorem lenS {n:Nat} (h:n<18446744073709551616):(digits n).length≤2:=digits_length_le (by simpa using h)
theorem sub_n (m n:Nat)(hm:(digits m).length<2 ^ 39)(hn:(digits n).length<2 ^ 39):PCall Tryz.prog 88 [nv m,nv n] (numE (m-n) (if m<n then 1 else 0)) []:=by
 have:=sub_ok (digits m) (digits n) (Dg_digits _) (Dg_digits _) hm hn
 rwa [val_digits,val_digits] at this
theorem add_n (m n:Nat)(hm:(digits m).length<2 ^ 39)(hn:(digits n).length<2 ^ 39):PCall Tryz.prog 86 [nv m,nv n] (nv (m+n)) []:=by
 have:=add_ok (digits m) (digits n) (Dg_digits _) (Dg_digits _) hm hn
 rwa [val_digits,val_digits] at this
theorem small_n (m:Nat)(hm:(digits m).length<2 ^ 40):PCall Tryz.prog 147 [nv m] (smallV m) []:=by
 have:=small_ok (digits m) (Dg_digits _) hm
 rwa [val_digits] at this
theorem right_digits (n:Nat):right (digits n)=true:=by
 by_cases h:(digits n).length=0
 ·exact right_0 h
 ·exact right_t (digits_canon n fun e=>h (by rw [e];rfl))
def bytesOf (s:ByteArray):List Nat:=s.data.toList.map UInt8.toNat
def B10 (l:List Nat):Prop:=∀ x ∈ l,48≤x∧x≤57
theorem B10.lt {l:List Nat} (h:B10 l):∀ x ∈ l,x<256:=fun x hx=>by have:=h x hx;omega
theorem Lift.Done.two {P:Program} {st:St} {t t':Tmp} {a b:V} (h1:lkp st.fr t=some a)(h2:lkp st.fr t'=some b)(h3:frz [] (.tup [a,b]) st.hp=some (.tup [a,b],st.hp))(h4:(V.tup [a,b]).lt 0=true)(h5:(V.tup [a,b]).ren id=.tup [a,b]):Done P #[.tmp t,.tmp t'] (.tup [a,b]) [] st:=
 Done.of (vs:=[a,b]) (by simp [resVs,resV,h1,h2]) h3 rfl h4 h5
end Go.Proofs.YteidabibgjokkaaGreatDoor
