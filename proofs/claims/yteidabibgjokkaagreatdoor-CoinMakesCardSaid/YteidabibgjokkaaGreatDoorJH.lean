import Derived.Test.YteidabibgjokkaaGreatDoorHI
import Derived.Test.YteidabibgjokkaaGreatDoorGB
import Derived.Test.YteidabibgjokkaaGreatDoorHB
set_option maxRecDepth 20000
set_option linter.all false
namespace Go.Proofs.YteidabibgjokkaaGreatDoor
open Go Go.Proofs.YteidabibgjokkaaGreatDoor.Lift
attribute [local irreducible] Lift.PCall Lift.HCall
inductive To (n:Nat) (A:Mx) (i:Nat):Nat→Prop
 | self:i<n→To n A i i
 | move {a b:Nat}:To n A i a→b<n→0<A a b→To n A i b
theorem To.lt {n:Nat} {A:Mx} {i k:Nat} (h:To n A i k):k<n:=by
 cases h<;>assumption
noncomputable def toB (n:Nat) (A:Mx) (i k:Nat):Bool:=@decide (To n A i k) (Classical.propDecidable _)
theorem toB_iff {n:Nat} {A:Mx} {i k:Nat}:toB n A i k=true↔To n A i k:=by
 unfold toB
 exact @decide_eq_true_iff _ (Classical.propDecidable _)
theorem To.trans {n:Nat} {A:Mx} {i k:Nat} (h:To n A i k) {j:Nat} (h':To n A k j):To n A i j:=by
 induction h' with
 | self _=>exact h
 | move _ h2 h3 ih=>exact .move ih h2 h3
structure FndT (n:Nat) (A:Mx) (i:Nat) (f:Nat→Bool):Prop where
 self:f i=true
 sound:∀ k,k<n→f k=true→To n A i k
theorem FndT.fin {n:Nat} {A:Mx} {i:Nat} {f:Nat→Bool} (h:FndT n A i f)(hcl:∀ a b,a<n→b<n→f a=true→0<A a b→f b=true):∀ k,k<n→f k=toB n A i k:=by
 intro k hk
 have hall:∀ k,To n A i k→f k=true:=by
  intro k hr
  induction hr with
  | self _=>exact h.self
  | move h1 h2 h3 ih=>exact hcl _ _ h1.lt h2 ih h3
 cases hf:f k
 ·cases hr:toB n A i k
  ·rfl
  ·rw [hall k (toB_iff.1 hr)] at hf
   cases hf
 ·exact (toB_iff.2 (h.sound k hk hf)).symm
theorem FndT.one {n:Nat} {A:Mx} {i:Nat} (hi:i<n):FndT n A i (updB (fun _=>false) i true):=by
 refine ⟨if_pos rfl,fun k hk h=>?_⟩
 unfold updB at h
 split at h
 ·rename_i e
  subst e
  exact .self hi
 ·cases h
theorem FndT.more {n:Nat} {A:Mx} {i:Nat} {f:Nat→Bool} (h:FndT n A i f) {a b:Nat} (ha:a<n)(hfa:f a=true)(hb:b<n)(hab:0<A a b):FndT n A i (updB f b true):=by
 refine ⟨?_,fun k hk hf=>?_⟩
 ·unfold updB
  split
  ·rfl
  ·exact h.self
 ·unfold updB at hf
  split at hf
  ·rename_i e
   subst e
   exact .move (h.sound a ha hfa) hb hab
  ·exact h.sound k hk hf
theorem lay_bools:lay Tryz.prog 66=some ⟨1,false,24,[.nl]⟩:=by kernel_rfl
attribute [go_sem] Tryz.underlying171 lay_bools
def wr (h n i:Nat) (b:Bool) (F:Nat→Nat→Bool):List V:=gl n fun j=>if j<i then .sl (bl n (F j)) else if j=i∧b=true then .own h 0 n 1 else .nl
end Go.Proofs.YteidabibgjokkaaGreatDoor
