import Derived.Test.YteidabibgjokkaaGreatDoorGU
import Derived.Test.YteidabibgjokkaaGreatDoorGS
import Derived.ChangeSame
import Derived.Test.YteidabibgjokkaaGreatDoorMC
import Derived.OpenShut
set_option maxRecDepth 20000
set_option linter.all false
namespace Go.Proofs.YteidabibgjokkaaGreatDoor
open Go Go.RowKit Go.Proofs.YteidabibgjokkaaGreatDoor.Lift
def bd (n:Int):Prop:=-9223372036854775808≤n∧n≤9223372036854775807
theorem opens_int64:Opens Tryz.prog 3 (fun vs=>∃ n,vs=[.i .i64 n]∧bd n):=opens_int Tryz.underlying3 (by kernel_rfl)
theorem els_W:∀ (els:List V),(∀ el ∈ els,∃ n:Int,el=.i .i64 n∧bd n)→∃ l:List Int,els=wl l∧bW l
 | [],_=>⟨[],rfl,fun x h=>by cases h⟩
 | v :: els,h=>by
  obtain ⟨n,rfl,h1⟩:=h v (List.mem_cons_self ..)
  obtain ⟨l,rfl,hx⟩:=els_W els fun el hel=>h el (List.mem_cons_of_mem _ hel)
  refine ⟨n :: l,rfl,fun x hm=>?_⟩
  rcases List.mem_cons.1 hm with rfl | hm
  ·exact h1
  ·exact hx x hm
def QWs (vs:List V):Prop:=∃ l:List Int,vs=[.sl (wl l)]∧bW l∧l.length<2 ^ 62
theorem opens_wl:Opens Tryz.prog 22 QWs:=by
 refine (opens_slice (fun l=>l.getD 0 .junk) Tryz.underlying22 (by kernel_rfl) (of_decide_eq_true (by kernel_rfl)) (of_decide_eq_true (by kernel_rfl)) opens_int64 (fun vs h _=>by
  obtain ⟨n,rfl,_⟩:=h
  rfl)).mono ?_
 rintro vs ⟨els,rfl,hl,h⟩
 obtain ⟨l,rfl,hx⟩:=els_W els fun el hel=>by
  obtain ⟨ws,⟨n,rfl,h1⟩,_,rfl⟩:=h el hel
  exact ⟨n,rfl,h1⟩
 exact ⟨l,rfl,hx,by rw [wl_length] at hl;exact hl⟩
end Go.Proofs.YteidabibgjokkaaGreatDoor
