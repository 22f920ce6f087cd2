import Derived.Test.YteidabibgjokkaaGreatDoorGF
import Derived.Below
import Derived.ProofKit
import Derived.OpenShut
import Derived.SizedLaws
import Derived.Deep.Slices
import Derived.Deep.Strs
import Derived.DataReads
import Derived.ChangeArms
import Derived.WideShapes
import Derived.KernelRfl
set_option maxRecDepth 20000
set_option linter.all false
namespace Go.Proofs.YteidabibgjokkaaGreatDoor
open Go Go.RowKit Go.Proofs.YteidabibgjokkaaGreatDoor.Lift
abbrev Rep0 (W:World) (x:Value) (v:V):Prop:=Rep (fun _=>False) W (fun _=>none) (fun _=>False) x v
def Opens (P:Program) (t:TypeId) (Q:List V→Prop):Prop:=
 ∀ (H:Type) (enc:TypeId × Value→H) (W:World) (n:Nat) (cs:List Value) (d:DataW H) (p:List MemPlace),DataW.trod enc P W 0 (fun _=>true) true n t cs=some (d,p)→(d.weights P t).all (· ≤ reachBytes)=true →
  cs.length=P.cellsOf t∧∃ vs:List V,vs.length=cs.length∧Q vs∧∀ k,k<cs.length→Rep0 W (cs.getD k undef) (vs.getD k .junk)
theorem Opens.mono {P:Program} {t:TypeId} {Q Q':List V→Prop} (h:Opens P t Q)(hq:∀ vs,Q vs→Q' vs):Opens P t Q':=by
 intro H enc W n cs d p hf hw
 obtain ⟨h1,vs,h2,h3,h4⟩:=h H enc W n cs d p hf hw
 exact ⟨h1,vs,h2,hq vs h3,h4⟩
theorem one_rep {W:World} {x:Value} {v:V} (h:Rep0 W x v):∀ k,k < [x].length→Rep0 W ([x].getD k undef) ([v].getD k .junk):=by
 intro k hk
 obtain rfl:k=0:=by simpa using hk
 exact h
theorem opens_int {P:Program} {t:TypeId} {k:IntKind} (ht:P.underlying t=some (.int k))(hc:P.cellsOf t=1):Opens P t (fun vs=>∃ n,vs=[.i k n]∧k.min≤n∧n≤k.max):=by
 intro H enc W n cs d p hf hw
 obtain ⟨m,rfl,_,hwf⟩:=DataW.trod_int ht hf
 have hb:k.min≤m∧m≤k.max:=by simpa [Lit.wf] using hwf
 exact ⟨hc.symm,[.i k m],rfl,⟨m,rfl,hb⟩,one_rep (.i hb)⟩
theorem weightsAll_mem {H:Type} {P:Program} {e:TypeId}:∀ {ds:List (DataW H)} {d:DataW H},d ∈ ds→∀ n ∈ d.weights P e,n ∈ DataW.weightsAll P e ds
 | d0 :: ds,d,hd,n,hn=>by
  simp only [DataW.weightsAll,List.mem_append]
  rcases List.mem_cons.1 hd with rfl | h
  ·exact .inl hn
  ·exact .inr (weightsAll_mem h n hn)
theorem opens_slice {P:Program} {t e:TypeId} {Q:List V→Prop} (f:List V→V) (ht:P.underlying t=some (.slice e)) (hc:P.cellsOf t=1) (hE:0<P.cellsOf e) (hB:0<P.bytesOf e) (he:Opens P e Q) (hf:∀ vs,Q vs→vs.length=P.cellsOf e→(f vs).cells=vs) :
  Opens P t (fun vs=>∃ els:List V,vs=[.sl els]∧els.length<2 ^ 62∧∀ el ∈ els,∃ ws,Q ws∧ws.length=P.cellsOf e∧el=f ws):=by
 intro H enc W n cs d p hd hw
 rcases Go.Deep.open_slice ht hd with ⟨rfl,hx⟩ | ⟨a,len,cap,m,n',D,Pl,rfl,_,hlc,_,hm,hx,hel⟩
 ·exact ⟨hc.symm,[.sl []],rfl,⟨[],rfl,by decide,fun el h=>by cases h⟩,one_rep .sl0⟩
 ·simp only [if_true] at hm
  subst hm
  simp only [Prod.mk.injEq] at hx
  obtain ⟨rfl,rfl⟩:=hx
  simp only [DataW.weights,ht,List.all_cons,List.all_append,Bool.and_eq_true,decide_eq_true_eq] at hw
  obtain ⟨hw1,hw2,_⟩:=hw
  have hlen:len<2 ^ 62:=by
   have h1:=reachBytes_lt
   simp only [List.length_map,List.length_range] at hw1
   have h2:len+(m-len)=m:=by omega
   rw [h2] at hw1
   have h3:m*1≤m*P.bytesOf e:=Nat.mul_le_mul_left _ hB
   omega
  by_cases h0:len=0
  ·subst h0
   exact ⟨hc.symm,[.sl []],rfl,⟨[],rfl,by decide,fun el h=>by cases h⟩,one_rep .sl0⟩
  have each:∀ i,i<len→∃ ws:List V,Q ws∧ws.length=P.cellsOf e∧∃ cs':List Value,cs'.length=P.cellsOf e∧(∀ k,k<P.cellsOf e→W.cell? ((a.add (i*P.cellsOf e)).add k)=cs'[k]?)∧∀ k,k<P.cellsOf e→Rep0 W (cs'.getD k undef) (ws.getD k .junk):=by
   intro i hi
   obtain ⟨cs',h1,h2⟩:=hel i (by omega)
   obtain ⟨_,h3,h4⟩:=World.cells?_some h1
   obtain ⟨h5,ws,h6,h7,h8⟩:=he H enc W n' cs' (D i) (Pl i) h2 (by
    rw [List.all_eq_true] at hw2 ⊢
    intro x hx
    exact hw2 x (weightsAll_mem (List.mem_map.2 ⟨i,by simpa using hi,rfl⟩) x hx))
   exact ⟨ws,h7,by omega,cs',h5,h4,fun k hk=>h8 k (by omega)⟩
  obtain ⟨ws0,_,_,cs0,hcs0,hcell0,_⟩:=each 0 (by omega)
  have ha:a=⟨a.block,a.off,none⟩∧a.block<W.heap.size:=by
   have:=hcell0 0 hE
   rw [Nat.zero_mul] at this
   have e0:cs0[0]? = some (cs0.getD 0 undef):=by
    rw [List.getD_eq_getElem?_getD,List.getElem?_eq_getElem (show 0<cs0.length by omega)]
    rfl
   rw [e0] at this
   unfold World.cell? at this
   obtain ⟨b,o,sp⟩:=a
   simp only [Addr.add,if_true] at this
   split at this
   ·rename_i c _ _ hh
    refine ⟨?_,lt_of_heap hh⟩
    cases sp with
    | none=>rfl
    | some s=>simp at this
   ·cases this
  obtain ⟨ha,hblk⟩:=ha
  let g:Nat→List V:=fun i=>if h:i<len then Classical.choose (each i h) else []
  have hg:∀ i,(h:i<len)→Q (g i)∧(g i).length=P.cellsOf e∧∃ cs':List Value,cs'.length=P.cellsOf e∧(∀ k,k<P.cellsOf e→W.cell? ((a.add (i*P.cellsOf e)).add k)=cs'[k]?)∧∀ k,k<P.cellsOf e→Rep0 W (cs'.getD k undef) ((g i).getD k .junk):=by
   intro i h
   simp only [g,dif_pos h]
   exact Classical.choose_spec (each i h)
  let els:List V:=(List.range len).map fun i=>f (g i)
  have hll:els.length=len:=by simp [els]
  have hget:∀ i,i<len→els.getD i .junk=f (g i):=by
   intro i hi
   simp [els,List.getD_eq_getElem?_getD,hi]
  refine ⟨hc.symm,[.sl els],rfl,⟨els,rfl,by omega,?_⟩,one_rep ?_⟩
  ·intro el hel'
   obtain ⟨i,hi,rfl⟩:=List.mem_map.1 hel'
   obtain ⟨h1,h2,_⟩:=hg i (by simpa using hi)
   exact ⟨_,h1,h2,rfl⟩
  ·have hne:els≠[]:=by
    intro e
    rw [e] at hll
    exact h0 hll.symm
   have key:=Rep.sl (F:=fun _=>False) (w:=W) (env:=fun _=>none) (D:=fun _=>False) (blk:=a.block) (off:=a.off) (cap:=m) (E:=P.cellsOf e) (els:=els) (fun k=>(W.cell? ⟨a.block,a.off+k,none⟩).getD undef) hne (by omega) (by omega) (fun f=>f) hblk ?_ ?_ ?_
   ·rw [hll,← ha] at key
    exact key
   ·intro el hel'
    obtain ⟨i,hi,rfl⟩:=List.mem_map.1 hel'
    obtain ⟨h1,h2,_⟩:=hg i (by simpa using hi)
    rw [hf _ h1 h2,h2]
   ·intro k hk
    rw [hll] at hk
    have hi:k / P.cellsOf e<len:=(Nat.div_lt_iff_lt_mul hE).2 hk
    obtain ⟨_,_,cs',hl',hcell,_⟩:=hg _ hi
    have hr:=Nat.mod_lt k hE
    have h1:=hcell _ hr
    have h2:=Nat.div_add_mod' k (P.cellsOf e)
    rw [ha,add_eq,add_eq,Nat.add_assoc,h2,List.getElem?_eq_getElem (by omega)] at h1
    rw [h1]
    rfl
   ·intro j k hj hk
    rw [hll] at hj
    obtain ⟨g1,g2,cs',hl',hcell,hrep⟩:=hg j hj
    have h1:=hcell k hk
    rw [ha,add_eq,add_eq,Nat.add_assoc] at h1
    rw [hget j hj,hf _ g1 g2]
    have h2:=hrep k hk
    rw [List.getD_eq_getElem?_getD,← h1] at h2
    exact h2
theorem arg_slice {P:Program} {W:World} {r:Reach} {b0:Nat} {H:Type} {enc:TypeId × Value→H} {t e:TypeId} {v:Value} {d:DataW H} {p:List MemPlace} {Q:List V→Prop} (ht:P.underlying t=some (.slice e)) (hq:Opens P t Q) (hv:Value.okWide P W r b0 t v) (h:DataW.Trod enc P W 0 (fun _=>true) true t v d p) (hw:(d.weights P t).all (· ≤ reachBytes)=true) :
  ∃ x,Q [x]∧Rep0 W v x:=by
 obtain ⟨a,len,cap,rfl⟩:=Go.WideShapes.okWide_slice ht hv
 obtain ⟨n,hf⟩:=h
 obtain ⟨h1,vs,h2,h3,h4⟩:=hq H enc W n _ d p hf hw
 have e:(Value.slice a len cap).cells.toList=[Value.slice a len cap]:=rfl
 rw [e] at h1 h2 h4
 match vs,h2 with
 | [x],_=>exact ⟨x,h3,h4 0 (by simp)⟩
theorem sized_at {H:Type} {P:Program} {ts:List TypeId} {ds:List (DataW H)} (h:(DataW.weightsEach P ts ds).all (· ≤ reachBytes)=true) {j:Nat} {t:TypeId} {d:DataW H} (ht:ts[j]? = some t)(hd:ds[j]? = some d):(d.weights P t).all (· ≤ reachBytes)=true:=by
 rw [List.all_eq_true] at h ⊢
 intro n hn
 exact h n (DataW.weights_mem_each ht hd n hn)
end Go.Proofs.YteidabibgjokkaaGreatDoor
