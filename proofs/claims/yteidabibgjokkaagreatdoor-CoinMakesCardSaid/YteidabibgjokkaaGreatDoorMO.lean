import Derived.Test.YteidabibgjokkaaGreatDoorGU
import Derived.Test.YteidabibgjokkaaGreatDoorGS
import Derived.ChangeSame
import Derived.Test.YteidabibgjokkaaGreatDoorMC
import Derived.OpenShut
set_option maxRecDepth 20000
set_option linter.all false
namespace Go.Proofs.YteidabibgjokkaaGreatDoor
open Go Go.RowKit Go.Proofs.YteidabibgjokkaaGreatDoor.Lift
def bd (n:Int):Prop:=-9223372036854775808≤n∧n≤9223372036854775807
theorem opens_int64:Opens Tryz.prog 3 (fun vs=>∃ n,vs=[.i .i64 n]∧bd n):=opens_int Tryz.underlying3 (by kernel_rfl)
theorem wf_int {k:IntKind} {a:Int} (h:(Lit.int k a).wf=true):k.min≤a∧a≤k.max:=by simpa [Lit.wf] using h
theorem wf_bd {a:Int} (h:(Lit.int .i64 a).wf=true):bd a:=wf_int h
theorem opens_struct1 {P:Program} {t:TypeId} {f0:Field} {Q0:List V→Prop} (ht:P.underlying t=some (.struct #[f0]))(o0:f0.offset=0)(hc:P.cellsOf t=P.cellsOf f0.type)(h0:Opens P f0.type Q0):Opens P t Q0:=by
 intro H enc W n cs d p hd hw
 obtain ⟨y0,m,hx,hlen,g0⟩:=Go.ChangeShapes.trod_struct1 ht hd
 simp only [Prod.mk.injEq] at hx
 obtain ⟨rfl,rfl⟩:=hx
 simp only [DataW.weights,ht,DataW.weightsEach,List.map_cons,List.map_nil,List.append_nil] at hw
 obtain ⟨l0,v0,e0,q0,r0⟩:=h0 H enc W m _ y0.1 y0.2 g0 hw
 have e:(cs.drop f0.offset).take (P.cellsOf f0.type)=cs:=by
  rw [o0,List.drop_zero,← hc,← hlen]
  exact List.take_length
 rw [e] at l0 e0 r0
 exact ⟨hlen,v0,e0,q0,r0⟩
theorem opens_arr2 {P:Program} {t e:TypeId} (ht:P.underlying t=some (.array 2 e))(he:P.underlying e=some (.int .i64))(hc:P.cellsOf t=2)(hce:P.cellsOf e=1):Opens P t (fun vs=>∃ a b:Int,vs=[.i .i64 a,.i .i64 b]∧bd a∧bd b):=by
 intro H enc W n cs d p hd hw
 obtain ⟨xs,m,_,hx,hlen,hn,hel⟩:=DataW.trod_array ht hd
 have h0:=hel 0 (by decide)
 have h1:=hel 1 (by decide)
 match xs,hn,h0,h1 with
 | [x0,x1],_,h0,h1=>
  rw [hce] at h0 h1
  obtain ⟨a,e1,_,w1⟩:=DataW.trod_int he (show DataW.trod _ P W 0 _ true m e _=some x0 from h0)
  obtain ⟨b,e2,_,w2⟩:=DataW.trod_int he (show DataW.trod _ P W 0 _ true m e _=some x1 from h1)
  rw [hc] at hlen
  match cs,hlen with
  | [c0,c1],_=>
   simp at e1 e2
   subst e1 e2
   have b1:bd a:=wf_bd w1
   have b2:bd b:=wf_bd w2
   refine ⟨hc.symm,[.i .i64 a,.i .i64 b],rfl,⟨a,b,rfl,b1,b2⟩,fun k hk=>?_⟩
   match k,hk with
   | 0,_=>exact .i b1
   | 1,_=>exact .i b2
theorem els_2:∀ (els:List V),(∀ el ∈ els,∃ a b:Int,el=.agg [.i .i64 a,.i .i64 b]∧bd a∧bd b)→∃ T:T2,els=nx T∧bT T
 | [],_=>⟨[],rfl,fun x h=>by cases h⟩
 | v :: els,h=>by
  obtain ⟨a,b,rfl,h1,h2⟩:=h v (List.mem_cons_self ..)
  obtain ⟨l,rfl,hx⟩:=els_2 els fun el hel=>h el (List.mem_cons_of_mem _ hel)
  refine ⟨(a,b) :: l,rfl,fun x hm=>?_⟩
  rcases List.mem_cons.1 hm with rfl | hm
  ·exact ⟨h1,h2⟩
  ·exact hx x hm
theorem els_W:∀ (els:List V),(∀ el ∈ els,∃ n:Int,el=.i .i64 n∧bd n)→∃ l:List Int,els=wl l∧bW l
 | [],_=>⟨[],rfl,fun x h=>by cases h⟩
 | v :: els,h=>by
  obtain ⟨n,rfl,h1⟩:=h v (List.mem_cons_self ..)
  obtain ⟨l,rfl,hx⟩:=els_W els fun el hel=>h el (List.mem_cons_of_mem _ hel)
  refine ⟨n :: l,rfl,fun x hm=>?_⟩
  rcases List.mem_cons.1 hm with rfl | hm
  ·exact h1
  ·exact hx x hm
def QNext (vs:List V):Prop:=∃ T:T2,vs=[.sl (nx T)]∧bT T∧T.length<2 ^ 62
theorem opens_next:Opens Tryz.prog 23 QNext:=by
 refine (opens_slice (fun l=>.agg l) Tryz.underlying23 (by kernel_rfl) (of_decide_eq_true (by kernel_rfl)) (of_decide_eq_true (by kernel_rfl)) (opens_arr2 Tryz.underlying64 Tryz.underlying3 (by kernel_rfl) (by kernel_rfl)) (fun vs h _=>rfl)).mono ?_
 rintro vs ⟨els,rfl,hl,h⟩
 obtain ⟨T,rfl,hx⟩:=els_2 els fun el hel=>by
  obtain ⟨ws,⟨a,b,rfl,h1,h2⟩,_,rfl⟩:=h el hel
  exact ⟨a,b,rfl,h1,h2⟩
 exact ⟨T,rfl,hx,by rw [nx_length] at hl;exact hl⟩
theorem opens_sampler:Opens Tryz.prog 25 QNext:=opens_struct1 Tryz.underlying25 (by kernel_rfl) (by kernel_rfl) opens_next
def QWs (vs:List V):Prop:=∃ l:List Int,vs=[.sl (wl l)]∧bW l∧l.length<2 ^ 62
theorem opens_wl:Opens Tryz.prog 22 QWs:=by
 refine (opens_slice (fun l=>l.getD 0 .junk) Tryz.underlying22 (by kernel_rfl) (of_decide_eq_true (by kernel_rfl)) (of_decide_eq_true (by kernel_rfl)) opens_int64 (fun vs h _=>by
  obtain ⟨n,rfl,_⟩:=h
  rfl)).mono ?_
 rintro vs ⟨els,rfl,hl,h⟩
 obtain ⟨l,rfl,hx⟩:=els_W els fun el hel=>by
  obtain ⟨ws,⟨n,rfl,h1⟩,_,rfl⟩:=h el hel
  exact ⟨n,rfl,h1⟩
 exact ⟨l,rfl,hx,by rw [wl_length] at hl;exact hl⟩
end Go.Proofs.YteidabibgjokkaaGreatDoor
