import Derived.Calls
import Derived.Orders
import Derived.Laws.Cells
import Derived.Laws.Entries
import Derived.ChangeKeysEq
import Derived.Laws.MakeOwn
import Derived.Laws.Tables
import Derived.Great.BuildSlice
import Derived.Laws.BytesString
set_option maxRecDepth 20000
set_option linter.all false
namespace Go.Proofs.YteidabibgjokkaaGreatDoor.Lift
open Go
inductive K0 where
 | i (k:IntKind) (n:Int)
 | s (x:ByteArray)
def K0.val:K0→Value
 | .i k n=>.int k n
 | .s x=>.string x
def K0.ok:K0→Prop
 | .i k n=>k.min≤n∧n≤k.max
 | .s x=>x.size<2 ^ 62
inductive V where
 | junk
 | b (x:Bool)
 | i (k:IntKind) (n:Int)
 | s (x:ByteArray)
 | nl
 | sl (els:List V)
 | agg (cs:List V)
 | tup (vs:List V)
 | ptr (h off:Nat)
 | rp (cs:List V)
 | own (h off len E:Nat)
 | fn (f:Nat) (caps:List V)
 | mp (h:Nat)
 | tab (ks:List (K0 × K0))
instance:Inhabited V:=⟨.junk⟩
def V.cells:V→List V
 | .agg cs=>cs
 | v=>[v]
structure Row where
 T:TypeId
 cells:List V
abbrev Env:=Nat→Option Nat
inductive Rep (F:Nat→Prop) (w:World):Env→(Nat→Prop)→Value→V→Prop
 | junk {env D x}:Rep F w env D x .junk
 | b {env D x}:Rep F w env D (.bool x) (.b x)
 | i {env D k n}:k.min≤n∧n≤k.max→Rep F w env D (.int k n) (.i k n)
 | s {env D x}:x.size<2 ^ 62→Rep F w env D (.string x) (.s x)
 | nl {env D}:Rep F w env D (.slice none 0 0) .nl
 | sl0 {env D a cap}:Rep F w env D (.slice a 0 cap) (.sl [])
 | sl {env D blk off cap E els} (y:Nat→Value):els≠[]→els.length≤cap→els.length<2 ^ 62→¬ F blk→blk<w.heap.size →
   (∀ e ∈ els,e.cells.length=E) →
   (∀ k,k<els.length*E→w.cell? ⟨blk,off+k,none⟩=some (y k)) →
   (∀ j k,j<els.length→k<E→Rep F w (fun _=>none) (fun _=>False) (y (j*E+k)) (((els.getD j .junk).cells).getD k .junk)) →
   Rep F w env D (.slice (some ⟨blk,off,none⟩) els.length cap) (.sl els)
 | agg {env D xs cs}:xs.size=cs.length→(∀ k,k<cs.length→Rep F w env D (xs.getD k undef) (cs.getD k .junk))→Rep F w env D (.agg xs) (.agg cs)
 | tup {env D xs cs}:xs.size=cs.length→(∀ k,k<cs.length→Rep F w env D (xs.getD k undef) (cs.getD k .junk))→Rep F w env D (.tuple xs) (.tup cs)
 | ptr {env D h off blk}:D h→env h=some blk→(∃ (c:Array Value) (T:TypeId) (z:Nat × Nat),w.heap[blk]? = some (.cells c T z))→Rep F w env D (.pointer (some ⟨blk,off,none⟩)) (.ptr h off)
 | rp {env D blk off cs} (y:Nat→Value):¬ F blk→blk<w.heap.size →
   (∀ k,k<cs.length→w.cell? ⟨blk,off+k,none⟩=some (y k)) →
   (∀ k,k<cs.length→Rep F w (fun _=>none) (fun _=>False) (y k) (cs.getD k .junk)) →
   Rep F w env D (.pointer (some ⟨blk,off,none⟩)) (.rp cs)
 | own {env D h off len cap E blk}:D h→env h=some blk→len≤cap→len<2 ^ 62 →
   (∃ (c:Array Value) (T:TypeId) (z:Nat × Nat),w.heap[blk]? = some (.cells c T z)∧off+cap*E≤c.size∧cap<2 ^ 63) →
   Rep F w env D (.slice (some ⟨blk,off,none⟩) len cap) (.own h off len E)
 | own0 {env D h E}:D h→Rep F w env D (.slice none 0 0) (.own h 0 0 E)
 | fn {env D f caps cs}:caps.size=cs.length→(∀ k,k<cs.length→Rep F w env D (caps.getD k undef) (cs.getD k .junk))→Rep F w env D (.func (.func f) #[] caps) (.fn f cs)
 | mp {env D h blk}:D h→env h=some blk→Rep F w env D (.map (some blk)) (.mp h)
theorem cell_of_block {w w':World} {blk off:Nat} (h:w'.heap[blk]? = w.heap[blk]?):w'.cell? ⟨blk,off,none⟩=w.cell? ⟨blk,off,none⟩:=by
 simp only [World.cell?,h]
theorem Rep.mono {F:Nat→Prop} {w:World} {env:Env} {D:Nat→Prop} {x:Value} {v:V} (h:Rep F w env D x v) :
  ∀ {F':Nat→Prop} {w':World} {env':Env} {D':Nat→Prop},
   (∀ b,b<w.heap.size→¬ F b→¬ F' b∧w'.heap[b]? = w.heap[b]?) →
   (∀ (b:Nat) (c:Array Value) (T:TypeId) (z:Nat × Nat),w.heap[b]? = some (.cells c T z)→∃ c':Array Value,c'.size=c.size∧w'.heap[b]? = some (.cells c' T z)) →
   w.heap.size≤w'.heap.size→(∀ h,D h→D' h∧env' h=env h)→Rep F' w' env' D' x v:=by
 induction h with
 | junk=>intros;exact .junk
 | b=>intros;exact .b
 | i hk=>intros;exact .i hk
 | s hs=>intros;exact .s hs
 | nl=>intros;exact .nl
 | sl0=>intros;exact .sl0
 | sl y hne hc hl hF hb hE hy hr ih=>
  intro F' w' env' D' keep shape size dom
  refine .sl y hne hc hl (keep _ hb hF).1 (Nat.lt_of_lt_of_le hb size) hE ?_ ?_
  ·intro k hk
   rw [cell_of_block (keep _ hb hF).2]
   exact hy k hk
  ·intro j k hj hk
   exact ih j k hj hk keep shape size (fun _ hf=>hf.elim)
 | agg hs hr ih=>
  intro F' w' env' D' keep shape size dom
  exact .agg hs fun k hk=>ih k hk keep shape size dom
 | tup hs hr ih=>
  intro F' w' env' D' keep shape size dom
  exact .tup hs fun k hk=>ih k hk keep shape size dom
 | ptr hD he hs=>
  intro F' w' env' D' keep shape size dom
  obtain ⟨c,T,z,h1⟩:=hs
  obtain ⟨c',_,h4⟩:=shape _ _ _ _ h1
  exact .ptr (dom _ hD).1 ((dom _ hD).2.trans he) ⟨c',T,z,h4⟩
 | mp hD he=>
  intro F' w' env' D' keep shape size dom
  exact .mp (dom _ hD).1 ((dom _ hD).2.trans he)
 | rp y hF hb hy hr ih=>
  intro F' w' env' D' keep shape size dom
  refine .rp y (keep _ hb hF).1 (Nat.lt_of_lt_of_le hb size) ?_ ?_
  ·intro k hk
   rw [cell_of_block (keep _ hb hF).2]
   exact hy k hk
  ·intro k hk
   exact ih k hk keep shape size (fun _ hf=>hf.elim)
 | own hD he hc hl hs=>
  intro F' w' env' D' keep shape size dom
  obtain ⟨c,T,z,h1,h2⟩:=hs
  obtain ⟨c',h3,h4⟩:=shape _ _ _ _ h1
  exact .own (dom _ hD).1 ((dom _ hD).2.trans he) hc hl ⟨c',T,z,h4,by rw [h3];exact h2⟩
 | own0 hD=>
  intro F' w' env' D' keep shape size dom
  exact .own0 (dom _ hD).1
 | fn hs hr ih=>
  intro F' w' env' D' keep shape size dom
  exact .fn hs fun k hk=>ih k hk keep shape size dom
structure Step (M:Nat→Prop) (w w':World):Prop where
 size:w.heap.size≤w'.heap.size
 os:w'.os=w.os
 tape:w'.tape=w.tape
 output:w'.output=w.output
 keep:∀ b,b<w.heap.size→¬ M b→w'.heap[b]? = w.heap[b]?
 shape:∀ (b:Nat) (c:Array Value) (T:TypeId) (z:Nat × Nat),w.heap[b]? = some (.cells c T z)→∃ c':Array Value,c'.size=c.size∧w'.heap[b]? = some (.cells c' T z)
theorem Step.refl (M:Nat→Prop)(w:World):Step M w w:=⟨Nat.le_refl _,rfl,rfl,rfl,fun _ _ _=>rfl,fun _ c _ _ h=>⟨c,rfl,h⟩⟩
theorem lt_of_heap {w:World} {b:Nat} {o:Obj} (h:w.heap[b]? = some o):b<w.heap.size:=by
 obtain ⟨h,_⟩:=Array.getElem?_eq_some_iff.1 h
 exact h
theorem Step.trans {M1 M2:Nat→Prop} {w w1 w2:World} (h1:Step M1 w w1)(h2:Step M2 w1 w2)(hM:∀ b,b<w.heap.size→M2 b→M1 b):Step M1 w w2 where
 size:=Nat.le_trans h1.size h2.size
 os:=h2.os.trans h1.os
 tape:=h2.tape.trans h1.tape
 output:=h2.output.trans h1.output
 keep b hb hm:=(h2.keep b (Nat.lt_of_lt_of_le hb h1.size) (fun h=>hm (hM b hb h))).trans (h1.keep b hb hm)
 shape b c T z h:=by
  obtain ⟨c1,e1,h1'⟩:=h1.shape b c T z h
  obtain ⟨c2,e2,h2'⟩:=h2.shape b c1 T z h1'
  exact ⟨c2,e2.trans e1,h2'⟩
structure Ctx where
 N:Nat
 O:Nat→Prop
 M:Nat→Prop
 w0:World
 g:Nat
 G:Env
def Fd (C:Ctx) (env:Env) (hp:Nat→Option Row) (b:Nat):Prop:=C.O b∨∃ h,(hp h).isSome=true∧env h=some b
def Tb (w:World) (blk:Nat) (r:Row):Prop:=∃ (es:Array MapEntry) (clock:Nat) (ks:List (K0 × K0)),w.heap[blk]? = some (.map es clock)∧r.cells=[.tab ks]∧es.toList.map (fun e=>(e.key,e.val))=ks.map (fun p=>(p.1.val,p.2.val))∧∀ p ∈ ks,p.1.ok∧p.2.ok
def RowAt (F:Nat→Prop) (w:World) (env:Env) (D:Nat→Prop) (h:Nat) (r:Row):Prop:=
 (∃ (blk:Nat) (c:Array Value),env h=some blk∧w.heap[blk]? = some (.cells c r.T (0,0))∧r.cells.length≤c.size∧∀ k,k<r.cells.length→Rep F w env D (c.getD k undef) (r.cells.getD k .junk)) ∨
 (env h=none∧r.cells=[])∨(∃ blk,env h=some blk∧Tb w blk r)
theorem Tb.keep {w w':World} {blk:Nat} {r:Row} (h:Tb w blk r)(hk:blk<w.heap.size→w'.heap[blk]? = w.heap[blk]?):Tb w' blk r:=by
 obtain ⟨es,clock,ks,h1,h2⟩:=h
 exact ⟨es,clock,ks,(hk (by obtain ⟨h,_⟩:=Array.getElem?_eq_some_iff.1 h1;exact h)).trans h1,h2⟩
theorem Tb.lt {w:World} {blk:Nat} {r:Row} (h:Tb w blk r):blk<w.heap.size:=by
 obtain ⟨es,clock,ks,h1,h2⟩:=h
 obtain ⟨h,_⟩:=Array.getElem?_eq_some_iff.1 h1
 exact h
structure Sim (C:Ctx) (env:Env) (fr:Nat→Option V) (hp:Nat→Option Row) (D:Nat→Prop) (a:Act) (w:World):Prop where
 sz:a.tmps.size=C.N
 df:a.defers=[]
 tm:∀ t v,fr t=some v→t<C.N∧Rep (Fd C env hp) w env D (a.tmps.getD t undef) v
 row:∀ h r,hp h=some r→D h∧RowAt (Fd C env hp) w env D h r
 old:∀ h b,(hp h).isSome=true→env h=some b→¬ C.O b∧(C.w0.heap.size≤b∨C.M b)
 inj:∀ h h' b,(hp h).isSome=true→(hp h').isSome=true→env h=some b→env h'=some b→h=h'
 st:Step C.M C.w0 w
 ob:∀ b,C.O b→b<C.w0.heap.size∧¬ C.M b
 gv:∀ n,n<C.g→D n∧env n=C.G n
def upd {α:Type} (f:Nat→Option α) (k:Nat) (x:Option α):Nat→Option α:=fun n=>if n=k then x else f n
@[simp] theorem upd_same {α:Type} (f:Nat→Option α) (k:Nat) (x:Option α):upd f k x k=x:=by simp [upd]
theorem upd_ne {α:Type} (f:Nat→Option α) {k n:Nat} (x:Option α)(h:n≠k):upd f k x n=f n:=by simp [upd,h]
theorem Sim.fd_lt {C:Ctx} {env:Env} {fr:Nat→Option V} {hp:Nat→Option Row} {D:Nat→Prop} {a:Act} {w:World} (h:Sim C env fr hp D a w) {b:Nat} (hb:Fd C env hp b):b<w.heap.size:=by
 rcases hb with ho | ⟨n,hn,he⟩
 ·exact Nat.lt_of_lt_of_le (h.ob b ho).1 h.st.size
 ·obtain ⟨r,hr⟩:=Option.isSome_iff_exists.1 hn
  rcases (h.row n r hr).2 with ⟨blk,c,he',hw,_⟩ | ⟨he',_⟩ | ⟨blk,he',ht⟩
  ·rw [he] at he';cases he';exact lt_of_heap hw
  ·rw [he] at he';cases he'
  ·rw [he] at he';cases he';exact ht.lt
theorem getD_set_self {xs:Array Value} {d:Nat} {x:Value} (h:d<xs.size):(xs.setIfInBounds d x).getD d undef=x:=by
 simp [Array.getD,h]
theorem getD_set_ne' {xs:Array Value} {d t:Nat} {x:Value} (h:t≠d):(xs.setIfInBounds d x).getD t undef=xs.getD t undef:=by
 simp only [Array.getD_eq_getD_getElem?,Array.getElem?_setIfInBounds_ne (Ne.symm h)]
theorem Sim.put {C:Ctx} {env:Env} {fr:Nat→Option V} {hp:Nat→Option Row} {D:Nat→Prop} {a:Act} {w:World} (h:Sim C env fr hp D a w) {d:Nat} {x:Value} {v:V}
  (hd:d<C.N) (hr:Rep (Fd C env hp) w env D x v):Sim C env (upd fr d (some v)) hp D (a.put (some d) x) w where
 sz:=by simpa [Act.put] using h.sz
 df:=h.df
 tm t u ht:=by
  by_cases e:t=d
  ·subst e
   rw [upd_same] at ht
   cases ht
   refine ⟨hd,?_⟩
   rw [show (a.put (some t) x).tmps=a.tmps.setIfInBounds t x from rfl,getD_set_self (by rw [h.sz];exact hd)]
   exact hr
  ·rw [upd_ne _ _ e] at ht
   obtain ⟨h1,h2⟩:=h.tm t u ht
   refine ⟨h1,?_⟩
   rw [show (a.put (some d) x).tmps=a.tmps.setIfInBounds d x from rfl,getD_set_ne' e]
   exact h2
 row:=h.row
 old:=h.old
 inj:=h.inj
 st:=h.st
 ob:=h.ob
 gv:=h.gv
theorem Sim.world {C:Ctx} {env:Env} {fr:Nat→Option V} {hp:Nat→Option Row} {D:Nat→Prop} {a:Act} {w w':World} (h:Sim C env fr hp D a w)
  (hs:Step (fun _=>False) w w'):Sim C env fr hp D a w' where
 sz:=h.sz
 df:=h.df
 tm t v ht:=⟨(h.tm t v ht).1,(h.tm t v ht).2.mono (fun b hb hF=>⟨hF,hs.keep b hb (fun f=>f)⟩) hs.shape hs.size (fun _ hD=>⟨hD,rfl⟩)⟩
 row n r hr:=by
  refine ⟨(h.row n r hr).1,?_⟩
  rcases (h.row n r hr).2 with ⟨blk,c,he,hw,hl,hc⟩ | hv | ⟨blk,he,ht⟩
  ·exact .inl ⟨blk,c,he,(hs.keep blk (lt_of_heap hw) (fun f=>f)).trans hw,hl,fun k hk=>(hc k hk).mono (fun b hb hF=>⟨hF,hs.keep b hb (fun f=>f)⟩) hs.shape hs.size (fun _ hD=>⟨hD,rfl⟩)⟩
  ·exact .inr (.inl hv)
  ·exact .inr (.inr ⟨blk,he,ht.keep fun hb=>hs.keep blk hb fun f=>f⟩)
 old:=h.old
 inj:=h.inj
 st:=h.st.trans hs (fun _ _ f=>f.elim)
 ob:=h.ob
 gv:=h.gv
theorem Rep.world {F:Nat→Prop} {w w':World} {env:Env} {D:Nat→Prop} {x:Value} {v:V} (h:Rep F w env D x v)(hs:Step (fun _=>False) w w'):Rep F w' env D x v:=
 h.mono (fun b hb hF=>⟨hF,hs.keep b hb (fun f=>f)⟩) hs.shape hs.size (fun _ hD=>⟨hD,rfl⟩)
theorem Sim.dom {C:Ctx} {env:Env} {fr:Nat→Option V} {hp:Nat→Option Row} {D D':Nat→Prop} {a:Act} {w:World} (h:Sim C env fr hp D a w)(hD:∀ n,D n→D' n):Sim C env fr hp D' a w where
 sz:=h.sz
 df:=h.df
 tm t v ht:=⟨(h.tm t v ht).1,(h.tm t v ht).2.mono (fun b hb hF=>⟨hF,rfl⟩) (fun _ c _ _ h=>⟨c,rfl,h⟩) (Nat.le_refl _) (fun n hn=>⟨hD n hn,rfl⟩)⟩
 row n r hr:=by
  refine ⟨hD _ (h.row n r hr).1,?_⟩
  rcases (h.row n r hr).2 with ⟨blk,c,he,hw,hl,hc⟩ | hv
  ·exact .inl ⟨blk,c,he,hw,hl,fun k hk=>(hc k hk).mono (fun b hb hF=>⟨hF,rfl⟩) (fun _ c _ _ h=>⟨c,rfl,h⟩) (Nat.le_refl _) (fun n hn=>⟨hD n hn,rfl⟩)⟩
  ·exact .inr hv
 old:=h.old
 inj:=h.inj
 st:=h.st
 ob:=h.ob
 gv:=fun n hn=>⟨hD _ (h.gv n hn).1,(h.gv n hn).2⟩
theorem step_push (w:World)(o:Obj):Step (fun _=>False) w { w with heap:=w.heap.push o } where
 size:=by simp
 os:=rfl
 tape:=rfl
 output:=rfl
 keep b hb _:=by simp [Array.getElem?_push,Nat.ne_of_lt hb]
 shape b c T z h:=⟨c,rfl,by
  have:=lt_of_heap h
  simpa [Array.getElem?_push,Nat.ne_of_lt this] using h⟩
theorem step_drawn (w:World)(n:Nat):Step (fun _=>False) w { w with drawn:=n }:=⟨Nat.le_refl _,rfl,rfl,rfl,fun _ _ _=>rfl,fun _ c _ _ h=>⟨c,rfl,h⟩⟩
theorem Sim.new {C:Ctx} {env:Env} {fr:Nat→Option V} {hp:Nat→Option Row} {D:Nat→Prop} {a:Act} {w:World} (h:Sim C env fr hp D a w) {n:Nat} (hn:¬ D n) {r:Row} {c:Array Value}
  (hl:r.cells.length≤c.size) (hc:∀ k,k<r.cells.length→Rep (Fd C env hp) w env D (c.getD k undef) (r.cells.getD k .junk)) :
  Sim C (upd env n (some w.heap.size)) fr (upd hp n (some r)) (fun m=>D m∨m=n) a { w with heap:=w.heap.push (.cells c r.T) }:=by
 have hne:∀ m,D m→m≠n:=fun m hm e=>hn (e ▸ hm)
 have hhp:∀ m,(hp m).isSome=true→m≠n:=fun m hm=>by
  obtain ⟨r,hr⟩:=Option.isSome_iff_exists.1 hm
  exact hne m (h.row m r hr).1
 have hs:=step_push w (.cells c r.T)
 have keep:∀ b,b<w.heap.size→¬ Fd C env hp b→¬ Fd C (upd env n (some w.heap.size)) (upd hp n (some r)) b∧(w.heap.push (.cells c r.T))[b]? = w.heap[b]? := by
  intro b hb hF
  refine ⟨?_,hs.keep b hb (fun f=>f)⟩
  rintro (ho | ⟨m,hm,he⟩)
  ·exact hF (.inl ho)
  ·by_cases e:m=n
   ·subst e
    rw [upd_same] at he
    cases he
    exact Nat.lt_irrefl _ hb
   ·rw [upd_ne _ _ e] at hm he
    exact hF (.inr ⟨m,hm,he⟩)
 have dom:∀ m,D m→(D m∨m=n)∧upd env n (some w.heap.size) m=env m:=fun m hm=>⟨.inl hm,upd_ne _ _ (hne m hm)⟩
 have lift:∀ {x:Value} {v:V},Rep (Fd C env hp) w env D x v→Rep (Fd C (upd env n (some w.heap.size)) (upd hp n (some r))) { w with heap:=w.heap.push (.cells c r.T) } (upd env n (some w.heap.size)) (fun m=>D m∨m=n) x v:=
  fun hx=>hx.mono keep hs.shape hs.size dom
 exact {
  sz:=h.sz
  df:=h.df
  tm:=fun t v ht=>⟨(h.tm t v ht).1,lift (h.tm t v ht).2⟩
  row:=by
   intro m r' hr'
   by_cases e:m=n
   ·subst e
    rw [upd_same] at hr'
    cases hr'
    exact ⟨.inr rfl,.inl ⟨w.heap.size,c,upd_same ..,by simp,hl,fun k hk=>lift (hc k hk)⟩⟩
   ·rw [upd_ne _ _ e] at hr'
    refine ⟨.inl (h.row m r' hr').1,?_⟩
    rcases (h.row m r' hr').2 with ⟨blk,c',he,hw,hl',hc'⟩ | ⟨he,hv⟩ | ⟨blk,he,ht⟩
    ·exact .inl ⟨blk,c',by rw [upd_ne _ _ e];exact he,(hs.keep blk (lt_of_heap hw) (fun f=>f)).trans hw,hl',fun k hk=>lift (hc' k hk)⟩
    ·exact .inr (.inl ⟨by rw [upd_ne _ _ e];exact he,hv⟩)
    ·exact .inr (.inr ⟨blk,by rw [upd_ne _ _ e];exact he,ht.keep fun hb=>hs.keep blk hb fun f=>f⟩)
  old:=by
   intro m b hm he
   by_cases e:m=n
   ·subst e
    rw [upd_same] at he
    cases he
    refine ⟨fun ho=>Nat.lt_irrefl _ (Nat.lt_of_lt_of_le (h.ob _ ho).1 h.st.size),.inl h.st.size⟩
   ·rw [upd_ne _ _ e] at hm he
    exact h.old m b hm he
  inj:=by
   intro m m' b hm hm' he he'
   have key:∀ m,m≠n→(hp m).isSome=true→env m=some w.heap.size→False:=by
    intro m hmn hm he
    exact Nat.lt_irrefl _ (h.fd_lt (.inr ⟨m,hm,he⟩))
   by_cases e:m=n
   ·by_cases e':m'=n
    ·rw [e,e']
    ·subst e
     rw [upd_same] at he
     cases he
     rw [upd_ne _ _ e'] at hm' he'
     exact (key m' e' hm' he').elim
   ·by_cases e':m'=n
    ·subst e'
     rw [upd_same] at he'
     cases he'
     rw [upd_ne _ _ e] at hm he
     exact (key m e hm he).elim
    ·rw [upd_ne _ _ e] at hm he
     rw [upd_ne _ _ e'] at hm' he'
     exact h.inj m m' b hm hm' he he'
  st:=h.st.trans hs (fun _ _ f=>f.elim)
  ob:=h.ob
  gv:=fun m hm=>⟨.inl (h.gv m hm).1,(upd_ne _ _ (hne m (h.gv m hm).1)).trans (h.gv m hm).2⟩ }
theorem Sim.newVirtual {C:Ctx} {env:Env} {fr:Nat→Option V} {hp:Nat→Option Row} {D:Nat→Prop} {a:Act} {w:World} (h:Sim C env fr hp D a w) {n:Nat} (hn:¬ D n) (T:TypeId) :
  Sim C (upd env n none) fr (upd hp n (some ⟨T,[]⟩)) (fun m=>D m∨m=n) a w:=by
 have hne:∀ m,D m→m≠n:=fun m hm e=>hn (e ▸ hm)
 have keep:∀ b,b<w.heap.size→¬ Fd C env hp b→¬ Fd C (upd env n none) (upd hp n (some ⟨T,[]⟩)) b∧w.heap[b]? = w.heap[b]? := by
  intro b hb hF
  refine ⟨?_,rfl⟩
  rintro (ho | ⟨m,hm,he⟩)
  ·exact hF (.inl ho)
  ·by_cases e:m=n
   ·subst e
    rw [upd_same] at he
    cases he
   ·rw [upd_ne _ _ e] at hm he
    exact hF (.inr ⟨m,hm,he⟩)
 have dom:∀ m,D m→(D m∨m=n)∧upd env n none m=env m:=fun m hm=>⟨.inl hm,upd_ne _ _ (hne m hm)⟩
 have lift:∀ {x:Value} {v:V},Rep (Fd C env hp) w env D x v→Rep (Fd C (upd env n none) (upd hp n (some ⟨T,[]⟩))) w (upd env n none) (fun m=>D m∨m=n) x v:=
  fun hx=>hx.mono keep (fun _ c _ _ h=>⟨c,rfl,h⟩) (Nat.le_refl _) dom
 exact {
  sz:=h.sz
  df:=h.df
  tm:=fun t v ht=>⟨(h.tm t v ht).1,lift (h.tm t v ht).2⟩
  row:=by
   intro m r' hr'
   by_cases e:m=n
   ·subst e
    rw [upd_same] at hr'
    cases hr'
    exact ⟨.inr rfl,.inr (.inl ⟨upd_same ..,rfl⟩)⟩
   ·rw [upd_ne _ _ e] at hr'
    refine ⟨.inl (h.row m r' hr').1,?_⟩
    rcases (h.row m r' hr').2 with ⟨blk,c',he,hw,hl',hc'⟩ | ⟨he,hv⟩ | ⟨blk,he,ht⟩
    ·exact .inl ⟨blk,c',by rw [upd_ne _ _ e];exact he,hw,hl',fun k hk=>lift (hc' k hk)⟩
    ·exact .inr (.inl ⟨by rw [upd_ne _ _ e];exact he,hv⟩)
    ·exact .inr (.inr ⟨blk,by rw [upd_ne _ _ e];exact he,ht⟩)
  old:=by
   intro m b hm he
   by_cases e:m=n
   ·subst e
    rw [upd_same] at he
    cases he
   ·rw [upd_ne _ _ e] at hm he
    exact h.old m b hm he
  inj:=by
   intro m m' b hm hm' he he'
   by_cases e:m=n
   ·subst e
    rw [upd_same] at he
    cases he
   ·by_cases e':m'=n
    ·subst e'
     rw [upd_same] at he'
     cases he'
    ·rw [upd_ne _ _ e] at hm he
     rw [upd_ne _ _ e'] at hm' he'
     exact h.inj m m' b hm hm' he he'
  st:=h.st
  ob:=h.ob
  gv:=fun m hm=>⟨.inl (h.gv m hm).1,(upd_ne _ _ (hne m (h.gv m hm).1)).trans (h.gv m hm).2⟩ }
theorem Sim.write {C:Ctx} {env:Env} {fr:Nat→Option V} {hp:Nat→Option Row} {D:Nat→Prop} {a:Act} {w w':World} (h:Sim C env fr hp D a w) {n blk:Nat} {r r':Row} (hr:hp n=some r) (he:env n=some blk)
  {c c':Array Value} (hw:w.heap[blk]? = some (.cells c r.T (0,0))) (hT:r'.T=r.T) (hsz:c'.size=c.size)
  (hw':w'={ w with heap:=w.heap.setIfInBounds blk (.cells c' r.T (0,0)) })
  (hl:r'.cells.length≤c'.size) (hc:∀ k,k<r'.cells.length→Rep (Fd C env hp) w env D (c'.getD k undef) (r'.cells.getD k .junk)) :
  Sim C env fr (upd hp n (some r')) D a w':=by
 subst hw'
 have hb:blk<w.heap.size:=lt_of_heap hw
 have hsome:(hp n).isSome=true:=by simp [hr]
 have hFblk:Fd C env hp blk:=.inr ⟨n,hsome,he⟩
 have hiff:∀ m,((upd hp n (some r')) m).isSome=true↔(hp m).isSome=true:=by
  intro m
  by_cases e:m=n
  ·subst e;simp [hr]
  ·rw [upd_ne _ _ e]
 have hFd:∀ b,Fd C env (upd hp n (some r')) b↔Fd C env hp b:=by
  intro b
  unfold Fd
  simp only [hiff]
 have hkeep:∀ b,b≠blk→(w.heap.setIfInBounds blk (.cells c' r.T (0,0)))[b]? = w.heap[b]? := by
  intro b hb'
  exact Array.getElem?_setIfInBounds_ne (Ne.symm hb')
 have hself:(w.heap.setIfInBounds blk (.cells c' r.T (0,0)))[blk]? = some (.cells c' r.T (0,0)):=by
  simp [hb]
 have hs:Step (fun b=>b=blk) w { w with heap:=w.heap.setIfInBounds blk (.cells c' r.T (0,0)) }:={
  size:=by simp
  os:=rfl
  tape:=rfl
  output:=rfl
  keep:=fun b _ hne=>hkeep b hne
  shape:=by
   intro b c1 T z hc1
   by_cases e:b=blk
   ·subst e
    rw [hw] at hc1
    cases hc1
    exact ⟨c',hsz,hself⟩
   ·exact ⟨c1,rfl,(hkeep b e).trans hc1⟩ }
 have keep:∀ b,b<w.heap.size→¬ Fd C env hp b→¬ Fd C env (upd hp n (some r')) b∧(w.heap.setIfInBounds blk (.cells c' r.T (0,0)))[b]? = w.heap[b]? := by
  intro b _ hF
  refine ⟨fun h=>hF ((hFd b).1 h),hkeep b (fun e=>hF (e ▸ hFblk))⟩
 have lift:∀ {x:Value} {v:V},Rep (Fd C env hp) w env D x v→Rep (Fd C env (upd hp n (some r'))) { w with heap:=w.heap.setIfInBounds blk (.cells c' r.T (0,0)) } env D x v:=
  fun hx=>hx.mono keep hs.shape hs.size (fun _ hD=>⟨hD,rfl⟩)
 exact {
  sz:=h.sz
  df:=h.df
  tm:=fun t v ht=>⟨(h.tm t v ht).1,lift (h.tm t v ht).2⟩
  row:=by
   intro m r1 hr1
   by_cases e:m=n
   ·subst e
    rw [upd_same] at hr1
    cases hr1
    exact ⟨(h.row m r hr).1,.inl ⟨blk,c',he,by rw [hT];exact hself,hl,fun k hk=>lift (hc k hk)⟩⟩
   ·rw [upd_ne _ _ e] at hr1
    refine ⟨(h.row m r1 hr1).1,?_⟩
    rcases (h.row m r1 hr1).2 with ⟨blk1,c1,he1,hw1,hl1,hc1⟩ | hv | ⟨blk1,he1,ht⟩
    ·have hne:blk1≠blk:=by
      intro eb
      subst eb
      exact e (h.inj m n blk1 (by simp [hr1]) hsome he1 he)
     exact .inl ⟨blk1,c1,he1,(hkeep blk1 hne).trans hw1,hl1,fun k hk=>lift (hc1 k hk)⟩
    ·exact .inr (.inl hv)
    ·have hne:blk1≠blk:=by
      intro eb
      subst eb
      exact e (h.inj m n blk1 (by simp [hr1]) hsome he1 he)
     exact .inr (.inr ⟨blk1,he1,ht.keep fun _=>hkeep blk1 hne⟩)
  old:=fun m b hm he'=>h.old m b ((hiff m).1 hm) he'
  inj:=fun m m' b hm hm' e1 e2=>h.inj m m' b ((hiff m).1 hm) ((hiff m').1 hm') e1 e2
  st:=by
   refine h.st.trans hs ?_
   rintro b hb' rfl
   rcases (h.old n b hsome he).2 with hlt | hM
   ·exact absurd hb' (Nat.not_lt.2 hlt)
   ·exact hM
  ob:=h.ob
  gv:=h.gv }
theorem Sim.drop {C:Ctx} {env:Env} {fr:Nat→Option V} {hp:Nat→Option Row} {D:Nat→Prop} {a:Act} {w:World} (h:Sim C env fr hp D a w)(n:Nat):Sim C env fr (upd hp n none) D a w:=by
 have hsub:∀ m,((upd hp n none) m).isSome=true→(hp m).isSome=true∧m≠n:=by
  intro m hm
  by_cases e:m=n
  ·subst e;simp at hm
  ·rw [upd_ne _ _ e] at hm;exact ⟨hm,e⟩
 have keep:∀ b,b<w.heap.size→¬ Fd C env hp b→¬ Fd C env (upd hp n none) b∧w.heap[b]? = w.heap[b]? := by
  intro b _ hF
  refine ⟨?_,rfl⟩
  rintro (ho | ⟨m,hm,he⟩)
  ·exact hF (.inl ho)
  ·exact hF (.inr ⟨m,(hsub m hm).1,he⟩)
 have lift:∀ {x:Value} {v:V},Rep (Fd C env hp) w env D x v→Rep (Fd C env (upd hp n none)) w env D x v:=
  fun hx=>hx.mono keep (fun _ c _ _ h=>⟨c,rfl,h⟩) (Nat.le_refl _) (fun _ hD=>⟨hD,rfl⟩)
 exact {
  sz:=h.sz
  df:=h.df
  tm:=fun t v ht=>⟨(h.tm t v ht).1,lift (h.tm t v ht).2⟩
  row:=by
   intro m r hr
   by_cases e:m=n
   ·subst e;simp at hr
   ·rw [upd_ne _ _ e] at hr
    refine ⟨(h.row m r hr).1,?_⟩
    rcases (h.row m r hr).2 with ⟨blk,c,he,hw,hl,hc⟩ | hv
    ·exact .inl ⟨blk,c,he,hw,hl,fun k hk=>lift (hc k hk)⟩
    ·exact .inr hv
  old:=fun m b hm he=>h.old m b (hsub m hm).1 he
  inj:=fun m m' b hm hm' e1 e2=>h.inj m m' b (hsub m hm).1 (hsub m' hm').1 e1 e2
  st:=h.st
  ob:=h.ob
  gv:=h.gv }
theorem Sim.newMap {C:Ctx} {env:Env} {fr:Nat→Option V} {hp:Nat→Option Row} {D:Nat→Prop} {a:Act} {w:World} (h:Sim C env fr hp D a w) {n:Nat} (hn:¬ D n) (T:TypeId) :
  Sim C (upd env n (some w.heap.size)) fr (upd hp n (some ⟨T,[.tab []]⟩)) (fun m=>D m∨m=n) a { w with heap:=w.heap.push (.map #[] 0) }:=by
 have hne:∀ m,D m→m≠n:=fun m hm e=>hn (e ▸ hm)
 have hhp:∀ m,(hp m).isSome=true→m≠n:=fun m hm=>by
  obtain ⟨r,hr⟩:=Option.isSome_iff_exists.1 hm
  exact hne m (h.row m r hr).1
 have hs:=step_push w (.map #[] 0)
 have keep:∀ b,b<w.heap.size→¬ Fd C env hp b→¬ Fd C (upd env n (some w.heap.size)) (upd hp n (some ⟨T,[.tab []]⟩)) b∧(w.heap.push (.map #[] 0))[b]? = w.heap[b]? := by
  intro b hb hF
  refine ⟨?_,hs.keep b hb (fun f=>f)⟩
  rintro (ho | ⟨m,hm,he⟩)
  ·exact hF (.inl ho)
  ·by_cases e:m=n
   ·subst e
    rw [upd_same] at he
    cases he
    exact Nat.lt_irrefl _ hb
   ·rw [upd_ne _ _ e] at hm he
    exact hF (.inr ⟨m,hm,he⟩)
 have dom:∀ m,D m→(D m∨m=n)∧upd env n (some w.heap.size) m=env m:=fun m hm=>⟨.inl hm,upd_ne _ _ (hne m hm)⟩
 have lift:∀ {x:Value} {v:V},Rep (Fd C env hp) w env D x v→Rep (Fd C (upd env n (some w.heap.size)) (upd hp n (some ⟨T,[.tab []]⟩))) { w with heap:=w.heap.push (.map #[] 0) } (upd env n (some w.heap.size)) (fun m=>D m∨m=n) x v:=
  fun hx=>hx.mono keep hs.shape hs.size dom
 exact {
  sz:=h.sz
  df:=h.df
  tm:=fun t v ht=>⟨(h.tm t v ht).1,lift (h.tm t v ht).2⟩
  row:=by
   intro m r' hr'
   by_cases e:m=n
   ·subst e
    rw [upd_same] at hr'
    cases hr'
    exact ⟨.inr rfl,.inr (.inr ⟨w.heap.size,upd_same ..,#[],0,[],by simp,rfl,rfl,fun p hp=>by cases hp⟩)⟩
   ·rw [upd_ne _ _ e] at hr'
    refine ⟨.inl (h.row m r' hr').1,?_⟩
    rcases (h.row m r' hr').2 with ⟨blk,c',he,hw,hl',hc'⟩ | ⟨he,hv⟩ | ⟨blk,he,ht⟩
    ·exact .inl ⟨blk,c',by rw [upd_ne _ _ e];exact he,(hs.keep blk (lt_of_heap hw) (fun f=>f)).trans hw,hl',fun k hk=>lift (hc' k hk)⟩
    ·exact .inr (.inl ⟨by rw [upd_ne _ _ e];exact he,hv⟩)
    ·exact .inr (.inr ⟨blk,by rw [upd_ne _ _ e];exact he,ht.keep fun hb=>hs.keep blk hb fun f=>f⟩)
  old:=by
   intro m b hm he
   by_cases e:m=n
   ·subst e
    rw [upd_same] at he
    cases he
    refine ⟨fun ho=>Nat.lt_irrefl _ (Nat.lt_of_lt_of_le (h.ob _ ho).1 h.st.size),.inl h.st.size⟩
   ·rw [upd_ne _ _ e] at hm he
    exact h.old m b hm he
  inj:=by
   intro m m' b hm hm' he he'
   have key:∀ m,m≠n→(hp m).isSome=true→env m=some w.heap.size→False:=by
    intro m hmn hm he
    exact Nat.lt_irrefl _ (h.fd_lt (.inr ⟨m,hm,he⟩))
   by_cases e:m=n
   ·by_cases e':m'=n
    ·rw [e,e']
    ·subst e
     rw [upd_same] at he
     cases he
     rw [upd_ne _ _ e'] at hm' he'
     exact (key m' e' hm' he').elim
   ·by_cases e':m'=n
    ·subst e'
     rw [upd_same] at he'
     cases he'
     rw [upd_ne _ _ e] at hm he
     exact (key m e hm he).elim
    ·rw [upd_ne _ _ e] at hm he
     rw [upd_ne _ _ e'] at hm' he'
     exact h.inj m m' b hm hm' he he'
  st:=h.st.trans hs (fun _ _ f=>f.elim)
  ob:=h.ob
  gv:=fun m hm=>⟨.inl (h.gv m hm).1,(upd_ne _ _ (hne m (h.gv m hm).1)).trans (h.gv m hm).2⟩ }
theorem Sim.writeMap {C:Ctx} {env:Env} {fr:Nat→Option V} {hp:Nat→Option Row} {D:Nat→Prop} {a:Act} {w:World} (h:Sim C env fr hp D a w) {n blk:Nat} {r r':Row} (hr:hp n=some r) (he:env n=some blk)
  {es es':Array MapEntry} {cl cl':Nat} (hw:w.heap[blk]? = some (.map es cl)) (ht:∃ ks,r'.cells=[.tab ks]∧es'.toList.map (fun e=>(e.key,e.val))=ks.map (fun p=>(p.1.val,p.2.val))∧∀ p ∈ ks,p.1.ok∧p.2.ok) :
  Sim C env fr (upd hp n (some r')) D a { w with heap:=w.heap.setIfInBounds blk (.map es' cl') }:=by
 have hb:blk<w.heap.size:=lt_of_heap hw
 have hsome:(hp n).isSome=true:=by simp [hr]
 have hFblk:Fd C env hp blk:=.inr ⟨n,hsome,he⟩
 have hiff:∀ m,((upd hp n (some r')) m).isSome=true↔(hp m).isSome=true:=by
  intro m
  by_cases e:m=n
  ·subst e;simp [hr]
  ·rw [upd_ne _ _ e]
 have hFd:∀ b,Fd C env (upd hp n (some r')) b↔Fd C env hp b:=by
  intro b
  unfold Fd
  simp only [hiff]
 have hkeep:∀ b,b≠blk→(w.heap.setIfInBounds blk (.map es' cl'))[b]? = w.heap[b]? := by
  intro b hb'
  exact Array.getElem?_setIfInBounds_ne (Ne.symm hb')
 have hself:(w.heap.setIfInBounds blk (.map es' cl'))[blk]? = some (.map es' cl'):=by
  simp [hb]
 have hs:Step (fun b=>b=blk) w { w with heap:=w.heap.setIfInBounds blk (.map es' cl') }:={
  size:=by simp
  os:=rfl
  tape:=rfl
  output:=rfl
  keep:=fun b _ hne=>hkeep b hne
  shape:=by
   intro b c1 T z hc1
   by_cases e:b=blk
   ·subst e
    rw [hw] at hc1
    cases hc1
   ·exact ⟨c1,rfl,(hkeep b e).trans hc1⟩ }
 have keep:∀ b,b<w.heap.size→¬ Fd C env hp b→¬ Fd C env (upd hp n (some r')) b∧(w.heap.setIfInBounds blk (.map es' cl'))[b]? = w.heap[b]? := by
  intro b _ hF
  refine ⟨fun h=>hF ((hFd b).1 h),hkeep b (fun e=>hF (e ▸ hFblk))⟩
 have lift:∀ {x:Value} {v:V},Rep (Fd C env hp) w env D x v→Rep (Fd C env (upd hp n (some r'))) { w with heap:=w.heap.setIfInBounds blk (.map es' cl') } env D x v:=
  fun hx=>hx.mono keep hs.shape hs.size (fun _ hD=>⟨hD,rfl⟩)
 exact {
  sz:=h.sz
  df:=h.df
  tm:=fun t v ht=>⟨(h.tm t v ht).1,lift (h.tm t v ht).2⟩
  row:=by
   intro m r1 hr1
   by_cases e:m=n
   ·subst e
    rw [upd_same] at hr1
    cases hr1
    obtain ⟨ks,h1,h2,h3⟩:=ht
    exact ⟨(h.row m r hr).1,.inr (.inr ⟨blk,he,es',cl',ks,hself,h1,h2,h3⟩)⟩
   ·rw [upd_ne _ _ e] at hr1
    refine ⟨(h.row m r1 hr1).1,?_⟩
    rcases (h.row m r1 hr1).2 with ⟨blk1,c1,he1,hw1,hl1,hc1⟩ | hv | ⟨blk1,he1,ht⟩
    ·have hne:blk1≠blk:=by
      intro eb
      subst eb
      exact e (h.inj m n blk1 (by simp [hr1]) hsome he1 he)
     exact .inl ⟨blk1,c1,he1,(hkeep blk1 hne).trans hw1,hl1,fun k hk=>lift (hc1 k hk)⟩
    ·exact .inr (.inl hv)
    ·have hne:blk1≠blk:=by
      intro eb
      subst eb
      exact e (h.inj m n blk1 (by simp [hr1]) hsome he1 he)
     exact .inr (.inr ⟨blk1,he1,ht.keep fun _=>hkeep blk1 hne⟩)
  old:=fun m b hm he'=>h.old m b ((hiff m).1 hm) he'
  inj:=fun m m' b hm hm' e1 e2=>h.inj m m' b ((hiff m).1 hm) ((hiff m').1 hm') e1 e2
  st:=by
   refine h.st.trans hs ?_
   rintro b hb' rfl
   rcases (h.old n b hsome he).2 with hlt | hM
   ·exact absurd hb' (Nat.not_lt.2 hlt)
   ·exact hM
  ob:=h.ob
  gv:=h.gv }
structure Lay where
 size:Nat
 agg:Bool
 bytes:Nat
 zero:List V
def ofCell:Value→V
 | .bool b=>.b b
 | .int k n=>if k.min≤n∧n≤k.max then .i k n else .junk
 | .string s=>if s.size<2 ^ 62 then .s s else .junk
 | .slice none 0 0=>.nl
 | _=>.junk
def ofConst:Value→V
 | .agg cs=>.agg (cs.toList.map ofCell)
 | v=>ofCell v
def aggD:TypeDesc→Bool
 | .struct _ | .array _ _=>true
 | _=>false
def lay (P:Program) (t:TypeId):Option Lay:=
 match P.info? t,P.underlying t with
 | some i,some d=>match i.zero with
  | some z=>some ⟨i.size,aggD d,i.bytes,z.cells.toList.map ofCell⟩
  | none=>none
 | _,_=>none
theorem lay_inv {P:Program} {t:TypeId} {L:Lay} (h:lay P t=some L):∃ (i:TypeInfo) (d:TypeDesc) (z:Value),P.info? t=some i∧P.underlying t=some d∧i.zero=some z∧L=⟨i.size,aggD d,i.bytes,z.cells.toList.map ofCell⟩:=by
 unfold lay at h
 split at h
 ·rename_i i d hi hd
  split at h
  ·rename_i z hz
   cases h
   exact ⟨i,d,z,hi,hd,hz,rfl⟩
  ·cases h
 ·cases h
theorem rep_ofCell {F:Nat→Prop} {w:World} {env:Env} {D:Nat→Prop} (x:Value):Rep F w env D x (ofCell x):=by
 unfold ofCell
 split
 ·exact .b
 ·split
  ·rename_i h;exact .i h
  ·exact .junk
 ·split
  ·rename_i h;exact .s h
  ·exact .junk
 ·exact .nl
 ·exact .junk
theorem getD_toList (xs:Array Value)(k:Nat):xs.toList.getD k undef=xs.getD k undef:=by
 simp [List.getD_eq_getElem?_getD,Array.getD_eq_getD_getElem?]
theorem getD_map_ofCell (l:List Value) {k:Nat} (hk:k<l.length):(l.map ofCell).getD k .junk=ofCell (l.getD k undef):=by
 simp [List.getD_eq_getElem?_getD,hk]
theorem rep_ofCells {F:Nat→Prop} {w:World} {env:Env} {D:Nat→Prop} (xs:Array Value)(k:Nat)(hk:k<(xs.toList.map ofCell).length):Rep F w env D (xs.getD k undef) ((xs.toList.map ofCell).getD k .junk):=by
 rw [getD_map_ofCell _ (by simpa using hk),getD_toList]
 exact rep_ofCell _
theorem rep_ofConst {F:Nat→Prop} {w:World} {env:Env} {D:Nat→Prop} (x:Value):Rep F w env D x (ofConst x):=by
 unfold ofConst
 split
 ·rename_i cs
  refine .agg (by simp) fun k hk=>rep_ofCells cs k hk
 ·exact rep_ofCell _
section
variable {P:Program} {w:World}
theorem r_under {t:TypeId} {d:TypeDesc} (h:P.underlying t=some d):(underlying t).run P w=.ok d w:=run_underlying h w
theorem r_info {t:TypeId} {i:TypeInfo} (h:P.info? t=some i):(typeInfo t).run P w=.ok i w:=run_typeInfo w h
theorem r_size {t:TypeId} {i:TypeInfo} (h:P.info? t=some i):(sizeOf t).run P w=.ok i.size w:=by
 unfold sizeOf
 simp only [Sem.run_bind,r_info h,Result.andThen_ok]
 rfl
theorem r_zero {t:TypeId} {i:TypeInfo} {z:Value} (h:P.info? t=some i)(hz:i.zero=some z):(zeroValue t).run P w=.ok z w:=by
 unfold zeroValue
 simp only [Sem.run_bind,r_info h,Result.andThen_ok,hz]
 rfl
theorem r_agg {t:TypeId} {d:TypeDesc} (h:P.underlying t=some d):(isAgg t).run P w=.ok (aggD d) w:=by
 unfold isAgg
 simp only [Sem.run_bind,r_under h,Result.andThen_ok]
 cases d<;>rfl
theorem add_eq (b o k:Nat):(⟨b,o,none⟩:Addr).add k=⟨b,o+k,none⟩:=by
 unfold Addr.add
 split
 ·rename_i h;subst h;rfl
 ·rfl
theorem r_load {a:Addr} {x:Value} (h:w.cell? a=some x):(load a).run P w=.ok x w:=by
 simp [load,Sem.run,h]
theorem r_loadCells {b o n:Nat} {y:Nat→Value} (h:∀ k,k<n→w.cell? ⟨b,o+k,none⟩=some (y k)) :
  (loadCells ⟨b,o,none⟩ n).run P w=.ok ((Array.range n).map y) w:=by
 have:=run_loadCells (P:=P) (w:=w) ⟨b,o,none⟩ n y (fun j hj=>by rw [add_eq];exact h j hj)
 rw [this]
 congr 1
 apply Array.ext'
 simp [List.range_eq_range']
theorem r_loadVar_agg {t:TypeId} {i:TypeInfo} {d:TypeDesc} (hi:P.info? t=some i) (hd:P.underlying t=some d) (ha:aggD d=true) {b o:Nat} {y:Nat→Value}
  (h:∀ k,k<i.size→w.cell? ⟨b,o+k,none⟩=some (y k)):(loadVar t ⟨b,o,none⟩).run P w=.ok (.agg ((Array.range i.size).map y)) w:=by
 unfold loadVar
 simp only [Sem.run_bind,r_agg hd,Result.andThen_ok,ha,if_true,r_size hi,r_loadCells h]
 rfl
theorem r_loadVar_one {t:TypeId} {d:TypeDesc} (hd:P.underlying t=some d) (ha:aggD d=false) {a:Addr} {x:Value}
  (h:w.cell? a=some x):(loadVar t a).run P w=.ok x w:=by
 unfold loadVar
 simp only [Sem.run_bind,r_agg hd,Result.andThen_ok,ha,if_false,Bool.false_eq_true,r_load h]
end
def putRow (w:World) (blk:Nat) (c:Array Value) (T:TypeId):World:={ w with heap:=w.heap.setIfInBounds blk (.cells c T (0,0)) }
def setRange (c:Array Value) (off:Nat):List Value→Array Value
 | []=>c
 | v :: vs=>setRange (c.setIfInBounds off v) (off+1) vs
def setR (l:List V) (off:Nat):List V→List V
 | []=>l
 | v :: vs=>setR (l.set off v) (off+1) vs
@[simp] theorem setRange_size (vs:List Value):∀ (c:Array Value) (off:Nat),(setRange c off vs).size=c.size:=by
 induction vs with
 | nil=>intro c off;rfl
 | cons v vs ih=>intro c off;rw [setRange,ih];simp
@[simp] theorem setR_length (vs:List V):∀ (l:List V) (off:Nat),(setR l off vs).length=l.length:=by
 induction vs with
 | nil=>intro c off;rfl
 | cons v vs ih=>intro c off;rw [setR,ih];simp
theorem setRange_get (vs:List Value):∀ (c:Array Value) (off k:Nat),off+vs.length≤c.size →
  (setRange c off vs).getD k undef=if off≤k∧k<off+vs.length then vs.getD (k-off) undef else c.getD k undef:=by
 induction vs with
 | nil=>intro c off k h;rw [setRange,if_neg (by simp)]
 | cons v vs ih=>
  intro c off k h
  simp only [List.length_cons] at h ⊢
  rw [setRange,ih _ _ _ (by simp;omega)]
  by_cases e:k=off
  ·subst e
   rw [if_neg (by omega),if_pos (by omega),getD_set_self (by omega),Nat.sub_self]
   rfl
  ·rw [getD_set_ne' e]
   by_cases e2:off+1≤k∧k<off+1+vs.length
   ·rw [if_pos e2,if_pos (by omega)]
    obtain ⟨j,rfl⟩:∃ j,k=off+1+j:=⟨k-(off+1),by omega⟩
    rw [show off+1+j-(off+1)=j by omega,show off+1+j-off=j+1 by omega]
    rfl
   ·rw [if_neg e2,if_neg (by omega)]
theorem setR_get (vs:List V):∀ (c:List V) (off k:Nat),off+vs.length≤c.length →
  (setR c off vs).getD k .junk=if off≤k∧k<off+vs.length then vs.getD (k-off) .junk else c.getD k .junk:=by
 induction vs with
 | nil=>intro c off k h;rw [setR,if_neg (by simp)]
 | cons v vs ih=>
  intro c off k h
  simp only [List.length_cons] at h ⊢
  rw [setR,ih _ _ _ (by simp;omega)]
  by_cases e:k=off
  ·subst e
   rw [if_neg (by omega),if_pos (by omega)]
   simp [List.getD_eq_getElem?_getD,show k<c.length by omega]
  ·by_cases e2:off+1≤k∧k<off+1+vs.length
   ·rw [if_pos e2,if_pos (by omega)]
    obtain ⟨j,rfl⟩:∃ j,k=off+1+j:=⟨k-(off+1),by omega⟩
    rw [show off+1+j-(off+1)=j by omega,show off+1+j-off=j+1 by omega]
    rfl
   ·rw [if_neg e2,if_neg (by omega)]
    simp [List.getD_eq_getElem?_getD,List.getElem?_set,Ne.symm e]
theorem putRow_self {w:World} {blk:Nat} {c:Array Value} {T:TypeId} (h:w.heap[blk]? = some (.cells c T (0,0))):putRow w blk c T=w:=by
 unfold putRow
 have:w.heap.setIfInBounds blk (.cells c T (0,0))=w.heap:=by
  apply Array.ext_getElem?
  intro i
  by_cases e:i=blk
  ·subst e
   rw [h]
   simp [lt_of_heap h]
  ·rw [Array.getElem?_setIfInBounds_ne (Ne.symm e)]
 rw [this]
theorem putRow_putRow (w:World)(blk:Nat)(c c':Array Value)(T:TypeId):putRow (putRow w blk c T) blk c' T=putRow w blk c' T:=by
 simp [putRow]
theorem putRow_heap {w:World} {blk:Nat} (c:Array Value)(T:TypeId)(h:blk<w.heap.size):(putRow w blk c T).heap[blk]? = some (.cells c T (0,0)):=by
 simp [putRow,h]
theorem setCell_row {w:World} {blk:Nat} {c:Array Value} {T:TypeId} (h:w.heap[blk]? = some (.cells c T (0,0))) (o:Nat) (v:Value) :
  w.setCell ⟨blk,o,none⟩ v=putRow w blk (c.setIfInBounds o v) T:=by
 unfold World.setCell putRow
 congr 1
 apply Array.ext_getElem?
 intro i
 by_cases e:i=blk
 ·subst e
  have hb:=lt_of_heap h
  have hc:w.heap[i]=.cells c T (0,0):=by
   have:=Array.getElem?_eq_getElem hb
   rw [this] at h
   exact Option.some.inj h
  rw [Array.getElem?_modify,if_pos rfl,h]
  simp [hb]
 ·rw [Array.getElem?_setIfInBounds_ne (Ne.symm e),Array.getElem?_modify,if_neg (Ne.symm e)]
def oneV:Value→Bool
 | .agg _ | .tuple _=>false
 | _=>true
theorem r_store {P:Program} {w:World} {blk o:Nat} {c:Array Value} {T:TypeId} {v:Value} (h:w.heap[blk]? = some (.cells c T (0,0))) (ho:o<c.size) (hv:oneV v=true) :
  (store ⟨blk,o,none⟩ v).run P w=.ok () (putRow w blk (c.setIfInBounds o v) T):=by
 have hc:w.cell? ⟨blk,o,none⟩=some c[o]:=by simp [World.cell?,h,ho]
 have hf:w.frozen? ⟨blk,o,none⟩=false:=by simp [World.frozen?,h]
 rw [← setCell_row h]
 cases v<;>first
  | (simp [oneV] at hv;done)
  | simp [store,Sem.run,hc,hf]
theorem r_storeCells {P:Program} {blk:Nat} {T:TypeId} (vs:List Value):∀ (w:World) (c:Array Value) (off i:Nat),w.heap[blk]? = some (.cells c T (0,0))→off+i+vs.length≤c.size →
  (∀ v ∈ vs,oneV v=true)→(storeCells ⟨blk,off,none⟩ vs i).run P w=.ok () (putRow w blk (setRange c (off+i) vs) T):=by
 induction vs with
 | nil=>
  intro w c off i h hl hv
  rw [setRange,putRow_self h]
  rfl
 | cons v vs ih=>
  intro w c off i h hl hv
  simp only [List.length_cons] at hl
  have h1:=r_store (P:=P) (o:=off+i) h (by omega) (hv v (by simp))
  unfold storeCells
  simp only [Sem.run_bind,add_eq,h1,Result.andThen_ok]
  rw [ih _ (c.setIfInBounds (off+i) v) off (i+1) (putRow_heap _ _ (lt_of_heap h)) (by simp;omega) (fun u hu=>hv u (by simp [hu])),putRow_putRow]
  rfl
section
variable {F:Nat→Prop} {w:World} {env:Env} {D:Nat→Prop} {x:Value}
theorem Rep.int_inv {k:IntKind} {n:Int} (h:Rep F w env D x (.i k n)):x=.int k n∧k.min≤n∧n≤k.max:=by
 cases h with
 | i h=>exact ⟨rfl,h⟩
theorem Rep.b_inv {c:Bool} (h:Rep F w env D x (.b c)):x=.bool c:=by cases h;rfl
theorem Rep.s_inv {s:ByteArray} (h:Rep F w env D x (.s s)):x=.string s∧s.size<2 ^ 62:=by
 cases h with
 | s h=>exact ⟨rfl,h⟩
theorem Rep.agg_inv {cs:List V} (h:Rep F w env D x (.agg cs)):∃ xs,x=.agg xs∧xs.size=cs.length∧∀ k,k<cs.length→Rep F w env D (xs.getD k undef) (cs.getD k .junk):=by
 cases h with
 | agg h1 h2=>exact ⟨_,rfl,h1,h2⟩
theorem Rep.tup_inv {cs:List V} (h:Rep F w env D x (.tup cs)):∃ xs,x=.tuple xs∧xs.size=cs.length∧∀ k,k<cs.length→Rep F w env D (xs.getD k undef) (cs.getD k .junk):=by
 cases h with
 | tup h1 h2=>exact ⟨_,rfl,h1,h2⟩
theorem Rep.ptr_inv {h off:Nat} (hh:Rep F w env D x (.ptr h off)):∃ blk,x=.pointer (some ⟨blk,off,none⟩)∧env h=some blk∧D h:=by
 cases hh with
 | ptr h1 h2 _=>exact ⟨_,rfl,h2,h1⟩
theorem Rep.ptr_cells {h off blk:Nat} (hh:Rep F w env D x (.ptr h off))(he:env h=some blk):∃ (c:Array Value) (T:TypeId) (z:Nat × Nat),w.heap[blk]? = some (.cells c T z):=by
 cases hh with
 | ptr h1 h2 h3=>rw [he] at h2;cases h2;exact h3
theorem Rep.mp_inv {h:Nat} (hh:Rep F w env D x (.mp h)):∃ blk,x=.map (some blk)∧env h=some blk∧D h:=by
 cases hh with
 | mp h1 h2=>exact ⟨_,rfl,h2,h1⟩
end
def V.isJunk:V→Bool
 | .junk=>true
 | _=>false
def V.flat:V→Bool
 | .junk | .agg _ | .tup _=>false
 | _=>true
theorem Rep.flat_one {F:Nat→Prop} {w:World} {env:Env} {D:Nat→Prop} {x:Value} {v:V} (h:Rep F w env D x v)(hf:v.flat=true):oneV x=true:=by
 cases h<;>first | rfl | (simp [V.flat] at hf)
theorem Rep.cells {F:Nat→Prop} {w:World} {env:Env} {D:Nat→Prop} {x:Value} {v:V} (h:Rep F w env D x v) (hj:v.isJunk=false) :
  x.cells.size=v.cells.length∧∀ k,k<v.cells.length→Rep F w env D (x.cells.getD k undef) (v.cells.getD k .junk):=by
 cases h with
 | junk=>simp [V.isJunk] at hj
 | agg h1 h2=>exact ⟨h1,h2⟩
 | b=>exact ⟨rfl,fun k hk=>by simp [V.cells] at hk;subst hk;exact .b⟩
 | i h=>exact ⟨rfl,fun k hk=>by simp [V.cells] at hk;subst hk;exact .i h⟩
 | s h=>exact ⟨rfl,fun k hk=>by simp [V.cells] at hk;subst hk;exact .s h⟩
 | nl=>exact ⟨rfl,fun k hk=>by simp [V.cells] at hk;subst hk;exact .nl⟩
 | sl0=>exact ⟨rfl,fun k hk=>by simp [V.cells] at hk;subst hk;exact .sl0⟩
 | sl y a1 a2 a3 a4 a5 a6 a7 a8=>exact ⟨rfl,fun k hk=>by simp [V.cells] at hk;subst hk;exact .sl y a1 a2 a3 a4 a5 a6 a7 a8⟩
 | tup h1 h2=>exact ⟨rfl,fun k hk=>by simp [V.cells] at hk;subst hk;exact .tup h1 h2⟩
 | ptr h1 h2 h3=>exact ⟨rfl,fun k hk=>by simp [V.cells] at hk;subst hk;exact .ptr h1 h2 h3⟩
 | mp h1 h2=>exact ⟨rfl,fun k hk=>by simp [V.cells] at hk;subst hk;exact .mp h1 h2⟩
 | rp y a1 a2 a3 a4=>exact ⟨rfl,fun k hk=>by simp [V.cells] at hk;subst hk;exact .rp y a1 a2 a3 a4⟩
 | own a1 a2 a3 a4 a5=>exact ⟨rfl,fun k hk=>by simp [V.cells] at hk;subst hk;exact .own a1 a2 a3 a4 a5⟩
 | own0 a1=>exact ⟨rfl,fun k hk=>by simp [V.cells] at hk;subst hk;exact .own0 a1⟩
 | fn h1 h2=>exact ⟨rfl,fun k hk=>by simp [V.cells] at hk;subst hk;exact .fn h1 h2⟩
inductive Eff where
 | val (v:V)
 | rd (h:Nat) (k:Row→Option V)
 | new (r:Row) (mk:Nat→V)
 | wr (h:Nat) (k:Row→Option (Row × V))
 | wr2 (h h2:Nat) (k:Row→Row→Option (Row × V))
 | grow (h:Nat) (k:Row→Option Row) (mk:Nat→V)
 | grow2 (h h2:Nat) (k:Row→Row→Option Row) (mk:Nat→V)
 | new2 (h2:Nat) (k:Row→Option Row) (mk:Nat→V)
def Eff.run (n:Nat) (hp:Nat→Option Row):Eff→Option (V × (Nat→Option Row) × Bool)
 | .val v=>some (v,hp,false)
 | .rd h k=>match hp h with
  | some r=>match k r with
   | some v=>some (v,hp,false)
   | none=>none
  | none=>none
 | .new r mk=>some (mk n,upd hp n (some r),true)
 | .wr h k=>match hp h with
  | some r=>match k r with
   | some (r',v)=>some (v,upd hp h (some r'),false)
   | none=>none
  | none=>none
 | .wr2 h h2 k=>match hp h,hp h2 with
  | some r,some r2=>match k r r2 with
   | some (r',v)=>some (v,upd hp h (some r'),false)
   | none=>none
  | _,_=>none
 | .grow h k mk=>match hp h with
  | some r=>match k r with
   | some r'=>some (mk n,upd (upd hp h none) n (some r'),true)
   | none=>none
  | none=>none
 | .grow2 h h2 k mk=>match hp h,hp h2 with
  | some r,some r2=>match k r r2 with
   | some r'=>some (mk n,upd (upd hp h none) n (some r'),true)
   | none=>none
  | _,_=>none
 | .new2 h2 k mk=>match hp h2 with
  | some r2=>match k r2 with
   | some r'=>some (mk n,upd hp n (some r'),true)
   | none=>none
  | none=>none
def DD (D:Nat→Prop) (n:Nat) (used:Bool):Nat→Prop:=fun m=>D m∨(used=true∧m=n)
def Vals (C:Ctx) (env:Env) (hp:Nat→Option Row) (D:Nat→Prop) (a:Act) (w:World) (op:Op) (vs:List V):Prop:=
 vs.length=op.operands.size∧∀ j,j<vs.length→Rep (Fd C env hp) w env D (a.eval (op.operands.getD j (.const undef))) (vs.getD j .junk)
def Good (P:Program) (op:Op) (ty:TypeId) (vs:List V) (e:Eff):Prop:=
 ∀ (C:Ctx) (env:Env) (fr:Nat→Option V) (hp:Nat→Option Row) (D:Nat→Prop) (a:Act) (w:World),Sim C env fr hp D a w→Vals C env hp D a w op vs →
 ∀ n,¬ D n→∀ v hp' used,e.run n hp=some (v,hp',used) →
 ∃ (env':Env) (w':World) (nx:Next) (x:Value),(execOp a.eval ⟨none,op,ty, "", #[],none⟩).run P w=.ok nx w'∧Sim C env' fr hp' (DD D n used) a w' ∧
  Rep (Fd C env' hp') w' env' (DD D n used) x v∧(nx=.value x∨(nx=.skip∧x=undef))
theorem dd_false (D:Nat→Prop)(n:Nat):DD D n false=D:=by funext m;simp [DD]
theorem dd_true (D:Nat→Prop)(n:Nat):DD D n true=fun m=>D m∨m=n:=by funext m;simp [DD]
theorem Good.pure {P:Program} {op:Op} {ty:TypeId} {vs:List V} {v:V}
  (h:∀ (F:Nat→Prop) (env:Env) (D:Nat→Prop) (a:Act) (w:World),vs.length=op.operands.size→(∀ j,j<vs.length→Rep F w env D (a.eval (op.operands.getD j (.const undef))) (vs.getD j .junk)) →
   ∃ x,(execOp a.eval ⟨none,op,ty, "", #[],none⟩).run P w=.ok (.value x) w∧Rep F w env D x v):Good P op ty vs (.val v):=by
 intro C env fr hp D a w hs hv n hn v' hp' used he
 simp only [Eff.run,Option.some.injEq,Prod.mk.injEq] at he
 obtain ⟨rfl,rfl,rfl⟩:=he
 obtain ⟨x,hx,hr⟩:=h (Fd C env hp) env D a w hv.1 hv.2
 rw [dd_false]
 exact ⟨env,w,_,x,hx,hs,hr,.inl rfl⟩
theorem wrap_range (k:IntKind)(n:Int):k.min≤k.wrap n∧k.wrap n≤k.max:=by
 cases k<;>simp [IntKind.wrap,IntKind.min,IntKind.max,IntKind.bits,IntKind.signed] <;> (try split)<;>omega
theorem tmod_range {k:IntKind} {x y:Int} (h:k.min≤x∧x≤k.max):k.min≤x.tmod y∧x.tmod y≤k.max:=by
 have h0:k.min≤0∧0≤k.max:=by cases k<;>simp [IntKind.min,IntKind.max,IntKind.bits,IntKind.signed]
 have ha:(x.tmod y).natAbs≤x.natAbs:=by rw [Int.natAbs_tmod];exact Nat.mod_le _ _
 by_cases hx:x<0
 ·have:x.tmod y≤0:=by
   have h1:(-x).tmod y=-(x.tmod y):=Int.neg_tmod ..
   have h2:0≤(-x).tmod y:=Int.tmod_nonneg _ (by omega)
   omega
  omega
 ·have:0≤x.tmod y:=Int.tmod_nonneg _ (by omega)
  omega
theorem fdiv_range {k:IntKind} {x:Int} (n:Nat)(h:k.min≤x∧x≤k.max):k.min≤x.fdiv (2 ^ n)∧x.fdiv (2 ^ n)≤k.max:=by
 have h0:k.min≤0∧0≤k.max:=by cases k<;>simp [IntKind.min,IntKind.max,IntKind.bits,IntKind.signed]
 have hp:(1:Int)≤2 ^ n:=by have:=Nat.two_pow_pos n;exact_mod_cast this
 rw [Int.fdiv_eq_ediv_of_nonneg _ (by omega)]
 by_cases hx:x<0
 ·have h1:x / 2 ^ n<0:=Int.ediv_neg_of_neg_of_pos hx (by omega)
  have h2:x≤x / 2 ^ n:=by
   rw [Int.le_ediv_iff_mul_le (by omega)]
   have:x*2 ^ n≤x*1:=Int.mul_le_mul_of_nonpos_left (by omega) hp
   omega
  omega
 ·have h1:0≤x / 2 ^ n:=Int.ediv_nonneg (by omega) (by omega)
  have h2:x / 2 ^ n≤x:=Int.ediv_le_self _ (by omega)
  omega
section
variable {P:Program} {w w':World}
theorem run_value {s:Sem Value} {x:Value} (h:s.run P w=.ok x w'):(do pure (Next.value (← s)):Sem Next).run P w=.ok (.value x) w':=by
 simp only [Sem.run_bind,h,Result.andThen_ok]
 rfl
theorem run_skip {s:Sem Unit} (h:s.run P w=.ok () w'):(do s;pure Next.skip:Sem Next).run P w=.ok .skip w':=by
 simp only [Sem.run_bind,h,Result.andThen_ok]
 rfl
end
def effMove:List V→Option Eff
 | [v]=>some (.val v)
 | _=>none
theorem good_move {P:Program} {x:Operand} {ty:TypeId} {vs:List V} {e:Eff} (h:effMove vs=some e):Good P (.move x) ty vs e:=by
 unfold effMove at h
 split at h
 ·cases h
  exact Good.pure fun F env D a w hl hr=>⟨_,rfl,hr 0 (by simp)⟩
 ·cases h
theorem good_assign {P:Program} {x:Operand} {ty:TypeId} {vs:List V} {e:Eff} (h:effMove vs=some e):Good P (.assign x) ty vs e:=by
 unfold effMove at h
 split at h
 ·cases h
  exact Good.pure fun F env D a w hl hr=>⟨_,rfl,hr 0 (by simp)⟩
 ·cases h
def effNil:List V→Option Eff
 | [.ptr h off]=>some (.val (.ptr h off))
 | [.rp cs]=>some (.val (.rp cs))
 | _=>none
theorem good_nil {P:Program} {x:Operand} {ty:TypeId} {vs:List V} {e:Eff} (h:effNil vs=some e):Good P (.nilCheck x) ty vs e:=by
 unfold effNil at h
 split at h
 ·cases h
  refine Good.pure fun F env D a w hl hr=>⟨a.eval x,?_,hr 0 (by simp)⟩
  have h0:Rep F w env D (a.eval x) (.ptr _ _):=hr 0 (by simp)
  obtain ⟨blk,e0,_,_⟩:=h0.ptr_inv
  simp only [execOp,e0]
  rfl
 ·cases h
  refine Good.pure fun F env D a w hl hr=>⟨a.eval x,?_,hr 0 (by simp)⟩
  have h0:Rep F w env D (a.eval x) (.rp _):=hr 0 (by simp)
  generalize hX:a.eval x=X at h0
  cases h0 with
  | rp y hF hb hy hrr=>
   simp only [execOp,hX]
   rfl
 ·cases h
def effPick:List V→Option Eff
 | [.b c,u,v]=>some (.val (if c=true then u else v))
 | _=>none
theorem good_pick {P:Program} {x y z:Operand} {ty:TypeId} {vs:List V} {e:Eff} (h:effPick vs=some e):Good P (.pick x y z) ty vs e:=by
 unfold effPick at h
 split at h
 ·rename_i c u v
  cases h
  refine Good.pure fun F env D a w hl hr=>?_
  have h0:=(hr 0 (by simp)).b_inv
  simp only [Op.operands] at h0
  have h0':a.eval x=.bool c:=h0
  refine ⟨if c=true then a.eval y else a.eval z,?_,?_⟩
  ·simp only [execOp,Sem.run_bind,h0',asBool]
   rfl
  ·cases c
   ·exact hr 2 (by simp)
   ·exact hr 1 (by simp)
 ·cases h
def orI (k:IntKind) (a b:Int):Int:=((BitVec.ofInt k.bits a ||| BitVec.ofInt k.bits b).toNat)
def andI (k:IntKind) (a b:Int):Int:=((BitVec.ofInt k.bits a &&& BitVec.ofInt k.bits b).toNat)
def xorI (k:IntKind) (a b:Int):Int:=((BitVec.ofInt k.bits a ^^^ BitVec.ofInt k.bits b).toNat)
def binInt (op:BinOp) (k:IntKind) (a b:Int):Option V:=
 match op with
 | .add=>some (.i k (k.wrap (a+b)))
 | .sub=>some (.i k (k.wrap (a-b)))
 | .mul=>some (.i k (k.wrap (a*b)))
 | .quo=>if b=0 then none else some (.i k (k.wrap (a.tdiv b)))
 | .rem=>if b=0 then none else some (.i k (a.tmod b))
 | .and=>some (.i k (k.wrap (andI k a b)))
 | .or=>some (.i k (k.wrap (orI k a b)))
 | .xor=>some (.i k (k.wrap (xorI k a b)))
 | .eql=>some (.b (decide (a=b)))
 | .neq=>some (.b (!decide (a=b)))
 | .lss=>some (.b (decide (a<b)))
 | .leq=>some (.b (decide (a≤b)))
 | .gtr=>some (.b (decide (b<a)))
 | .geq=>some (.b (decide (b≤a)))
 | _=>none
def binStr (op:BinOp) (x y:ByteArray):Option V:=
 match op with
 | .add=>if x.size+y.size<2 ^ 62 then some (.s (x++y)) else none
 | .eql=>some (.b (x.toList == y.toList))
 | .neq=>some (.b (!(x.toList == y.toList)))
 | _=>none
def binBool (op:BinOp) (x y:Bool):Option V:=
 match op with
 | .eql=>some (.b (x == y))
 | .neq=>some (.b (!(x == y)))
 | _=>none
def binNil (op:BinOp) (c:Bool):Option V:=
 match op with
 | .eql=>some (.b c)
 | .neq=>some (.b (!c))
 | _=>none
def binV (P:Program) (op:BinOp) (xt:TypeId) (u v:V):Option V:=
 match u,v with
 | .i k a,.i k' b=>
  match op with
  | .shl=>if b<0 then none else some (.i k (k.wrap (a*2 ^ (min b.toNat k.bits))))
  | .shr=>if b<0 then none else some (.i k (a.fdiv (2 ^ (min b.toNat k.bits))))
  | op=>if k=k' then binInt op k a b else none
 | .s x,.s y=>binStr op x y
 | .b x,.b y=>match P.underlying xt with
  | some .bool=>binBool op x y
  | _=>none
 | .nl,.nl=>match P.underlying xt with
  | some (.slice _)=>binNil op true
  | _=>none
 | .sl (_ :: _),.nl=>match P.underlying xt with
  | some (.slice _)=>binNil op false
  | _=>none
 | .own _ _ (_+1) _,.nl=>match P.underlying xt with
  | some (.slice _)=>binNil op false
  | _=>none
 | _,_=>none
theorem run_partI {P:Program} {w:World} {e:TypeId} {k:IntKind} (he:P.underlying e=some (.int k)) {cs:Array Value} {i:Nat} {x:Value} (hx:cs[i]? = some x):(part e cs i).run P w=.ok x w:=by
 unfold part
 simp only [Sem.run_bind,r_agg he,Result.andThen_ok,aggD,if_false,Bool.false_eq_true,hx]
 rfl
theorem run_eqI {P:Program} {w:World} {e:TypeId} {k:IntKind} (he:P.underlying e=some (.int k))(d:Nat)(a b:Int):(Op.equalIn (d+1) e (.int .i64 a) (.int .i64 b)).run P w=.ok (a == b) w:=by
 simp only [Op.equalIn,Sem.run_bind,run_underlying he,Result.andThen_ok]
 rfl
theorem run_eqA {P:Program} {w:World} {t e:TypeId} {k:IntKind} {i:TypeInfo} (hu:P.underlying t=some (.array 2 e)) (he:P.underlying e=some (.int k)) (hi:P.info? e=some i) (hc:P.cellsOf e=1) (a b c d:Int) :
  (Op.equal t (.agg #[.int .i64 a,.int .i64 b]) (.agg #[.int .i64 c,.int .i64 d])).run P w=.ok (a == c && b == d) w:=by
 unfold Op.equal
 show (Op.equalIn (9998+1+1) _ _ _).run P w=_
 rw [run_equalIn_array _ _ _ _ hu hi,hc]
 simp only [show List.range 2=[0,1] from rfl,Op.eqItems,Sem.run_bind,run_partI he (show (#[Value.int .i64 a,Value.int .i64 b])[0*1]? = some (.int .i64 a) from rfl),run_partI he (show (#[Value.int .i64 a,Value.int .i64 b])[1*1]? = some (.int .i64 b) from rfl),run_partI he (show (#[Value.int .i64 c,Value.int .i64 d])[0*1]? = some (.int .i64 c) from rfl),run_partI he (show (#[Value.int .i64 c,Value.int .i64 d])[1*1]? = some (.int .i64 d) from rfl),Result.andThen_ok,run_eqI he]
 cases (a == c)
 ·rfl
 ·simp only [Bool.not_true,Bool.false_eq_true,if_false,Sem.run_bind,run_partI he (show (#[Value.int .i64 a,Value.int .i64 b])[1*1]? = some (.int .i64 b) from rfl),run_partI he (show (#[Value.int .i64 c,Value.int .i64 d])[1*1]? = some (.int .i64 d) from rfl),Result.andThen_ok,run_eqI he]
  cases (b == d)<;>rfl
def arr2 (P:Program) (xt:TypeId):Bool:=match P.underlying xt with
 | some (.array 2 e)=>(match P.underlying e with
  | some (.int _)=>true
  | _=>false) && (P.info? e).isSome && P.cellsOf e == 1 && !P.eqGuardType P.depth xt
 | _=>false
def binArr (P:Program) (op:BinOp) (xt:TypeId):V→V→Option V
 | .agg [.i .i64 a,.i .i64 b],.agg [.i .i64 c,.i .i64 d]=>if arr2 P xt=true then (match op with
  | .eql=>some (.b (decide (a=c) && decide (b=d)))
  | .neq=>some (.b (!(decide (a=c) && decide (b=d))))
  | _=>none) else none
 | _,_=>none
theorem Rep.two_inv {F:Nat→Prop} {w:World} {env:Env} {D:Nat→Prop} {x:Value} {a b:Int} (h:Rep F w env D x (.agg [.i .i64 a,.i .i64 b])):x=.agg #[.int .i64 a,.int .i64 b]:=by
 obtain ⟨xs,rfl,hsz,hr⟩:=h.agg_inv
 have h0:=(show Rep F w env D (xs.getD 0 undef) (.i .i64 a) from hr 0 (by simp)).int_inv.1
 have h1:=(show Rep F w env D (xs.getD 1 undef) (.i .i64 b) from hr 1 (by simp)).int_inv.1
 obtain ⟨l⟩:=xs
 match l,hsz with
 | [u,v],_=>
  cases h0
  cases h1
  rfl
theorem run_binA {P:Program} {w:World} {xt:TypeId} {x y:Array Value} {z:Bool} (hq:(Op.equal xt (.agg x) (.agg y)).run P w=.ok z w):(binOp .eql xt (.agg x) (.agg y)).run P w=.ok (.bool z) w∧(binOp .neq xt (.agg x) (.agg y)).run P w=.ok (.bool (!z)) w:=by
 have hpu:∀ v:Value,(pure v:Sem Value).run P w=.ok v w:=fun _=>rfl
 constructor<;>simp only [binOp,Sem.run_bind,hq,Result.andThen_ok,hpu]
theorem good_binArr {P:Program} {op:BinOp} {xt yt ty:TypeId} {x y:Operand} {u v r:V} (h:binArr P op xt u v=some r):Good P (.binOp op xt x y yt) ty [u,v] (.val r):=by
 unfold binArr at h
 split at h
 ·rename_i a b c d
  split at h
  ·rename_i ha
   refine Good.pure fun F env D ac w hl hv=>?_
   have e0:=(show Rep F w env D (ac.eval x) (.agg [.i .i64 a,.i .i64 b]) from hv 0 (by simp)).two_inv
   have e1:=(show Rep F w env D (ac.eval y) (.agg [.i .i64 c,.i .i64 d]) from hv 1 (by simp)).two_inv
   unfold arr2 at ha
   split at ha
   ·rename_i e hu
    simp only [Bool.and_eq_true,beq_iff_eq,Bool.not_eq_true'] at ha
    obtain ⟨⟨⟨h1,h2⟩,h3⟩,h4⟩:=ha
    split at h1
    ·rename_i k he
     obtain ⟨i,hi⟩:=Option.isSome_iff_exists.1 h2
     have hq:=run_eqA (P:=P) (w:=w) hu he hi h3 a b c d
     have hg:=fun op'=>run_eqGuard_agg (P:=P) (w:=w) op' xt x y #[.int .i64 a,.int .i64 b] #[.int .i64 c,.int .i64 d] h4
     have fin:∀ z:Bool,(binOp op xt (.agg #[.int .i64 a,.int .i64 b]) (.agg #[.int .i64 c,.int .i64 d])).run P w=.ok (.bool z) w→(execOp ac.eval ⟨none,.binOp op xt x y yt,ty, "", #[],none⟩).run P w=.ok (.value (.bool z)) w:=by
      intro z hz
      have:=run_value (P:=P) (w:=w) (w':=w) (s:=(do eqGuard op xt x y (ac.eval x) (ac.eval y);binOp op xt (ac.eval x) (ac.eval y))) (x:=.bool z) (by
       rw [e0,e1]
       simp only [Sem.run_bind,hg,Result.andThen_ok,hz])
      exact this
     split at h
     ·cases h
      refine ⟨_,fin (a == c && b == d) ?_,?_⟩
      ·exact (run_binA hq).1
      ·have:(a == c && b == d)=(decide (a=c) && decide (b=d)):=by simp [Bool.beq_eq_decide_eq]
       rw [this]
       exact .b
     ·cases h
      refine ⟨_,fin (!(a == c && b == d)) ?_,?_⟩
      ·exact (run_binA hq).2
      ·have:(a == c && b == d)=(decide (a=c) && decide (b=d)):=by simp [Bool.beq_eq_decide_eq]
       rw [this]
       exact .b
     ·cases h
    ·cases h1
   ·cases ha
  ·cases h
 ·cases h
def effBin (P:Program) (op:BinOp) (xt:TypeId):List V→Option Eff
 | [u,v]=>match binV P op xt u v with
  | some r=>some (.val r)
  | none=>match binArr P op xt u v with
   | some r=>some (.val r)
   | none=>none
 | _=>none
theorem run_guard {P:Program} {w:World} {op:BinOp} {t:TypeId} {x y:Operand} {a b:Value} (h:(match a with | .agg _ | .nilIface=>False | _=>True)):(eqGuard op t x y a b).run P w=.ok () w:=by
 unfold eqGuard
 cases op<;>cases a<;>first | rfl | (exact h.elim)
theorem run_bin {P:Program} {w:World} {a:Act} {op:BinOp} {xt yt ty:TypeId} {x y:Operand} {r:Value}
  (hg:(match a.eval x with | .agg _ | .nilIface=>False | _=>True)) (h:(binOp op xt (a.eval x) (a.eval y)).run P w=.ok r w) :
  (execOp a.eval ⟨none,.binOp op xt x y yt,ty, "", #[],none⟩).run P w=.ok (.value r) w:=by
 have:=run_value (P:=P) (w:=w) (w':=w) (s:=(do eqGuard op xt x y (a.eval x) (a.eval y);binOp op xt (a.eval x) (a.eval y))) (x:=r) (by
  simp only [Sem.run_bind,run_guard hg,Result.andThen_ok,h])
 exact this
theorem good_binInt {P:Program} {w:World} {op:BinOp} {xt:TypeId} {k:IntKind} {m n:Int} {r:V} (hm:k.min≤m∧m≤k.max) (h:binInt op k m n=some r) {F:Nat→Prop} {env:Env} {D:Nat→Prop} :
  ∃ x,(binOp op xt (.int k m) (.int k n)).run P w=.ok x w∧Rep F w env D x r:=by
 cases op<;>simp only [binInt] at h
 case quo=>
  split at h
  ·cases h
  ·rename_i hn
   cases h
   exact ⟨_,by simp [binOp,Op.intDiv,hn] <;> rfl,.i (wrap_range ..)⟩
 case rem=>
  split at h
  ·cases h
  ·rename_i hn
   cases h
   exact ⟨_,by simp [binOp,Op.intDiv,hn] <;> rfl,.i (tmod_range hm)⟩
 all_goals first
  | (cases h;done)
  | (cases h;exact ⟨_,by simp [binOp,Op.intArith] <;> rfl,.i (wrap_range ..)⟩)
  | (cases h;exact ⟨_,by simp [binOp,Op.intBits] <;> rfl,.i (wrap_range ..)⟩)
  | (cases h;exact ⟨_,by simp [binOp,Op.intCmp] <;> rfl,.b⟩)
theorem equal_unfold (t:TypeId)(x y:Value):Op.equal t x y=Op.equalIn (9999+1) t x y:=rfl
theorem run_equalB {P:Program} {w:World} {t:TypeId} (hu:P.underlying t=some .bool)(a b:Bool):(Op.equal t (.bool a) (.bool b)).run P w=.ok (a == b) w:=by
 rw [equal_unfold,Op.equalIn]
 simp only [Sem.run_bind,r_under hu,Result.andThen_ok]
 rfl
theorem run_eqB {P:Program} {w:World} {t:TypeId} (hu:P.underlying t=some .bool)(a b:Bool):(binOp .eql t (.bool a) (.bool b)).run P w=.ok (.bool (a == b)) w:=by
 show (do pure (Value.bool (← Op.equal t (.bool a) (.bool b))):Sem Value).run P w=_
 simp only [Sem.run_bind,run_equalB hu,Result.andThen_ok]
 rfl
theorem run_neB {P:Program} {w:World} {t:TypeId} (hu:P.underlying t=some .bool)(a b:Bool):(binOp .neq t (.bool a) (.bool b)).run P w=.ok (.bool (!(a == b))) w:=by
 show (do pure (Value.bool (!(← Op.equal t (.bool a) (.bool b)))):Sem Value).run P w=_
 simp only [Sem.run_bind,run_equalB hu,Result.andThen_ok]
 rfl
theorem run_equalNN {P:Program} {w:World} {t el:TypeId} (hu:P.underlying t=some (.slice el)):(Op.equal t (.slice none 0 0) (.slice none 0 0)).run P w=.ok true w:=by
 rw [equal_unfold,Op.equalIn]
 simp only [Sem.run_bind,r_under hu,Result.andThen_ok]
 rfl
theorem run_eqNN {P:Program} {w:World} {t el:TypeId} (hu:P.underlying t=some (.slice el)):(binOp .eql t (.slice none 0 0) (.slice none 0 0)).run P w=.ok (.bool true) w:=by
 show (do pure (Value.bool (← Op.equal t (.slice none 0 0) (.slice none 0 0))):Sem Value).run P w=_
 simp only [Sem.run_bind,run_equalNN hu,Result.andThen_ok]
 rfl
theorem run_neNN {P:Program} {w:World} {t el:TypeId} (hu:P.underlying t=some (.slice el)):(binOp .neq t (.slice none 0 0) (.slice none 0 0)).run P w=.ok (.bool (!true)) w:=by
 show (do pure (Value.bool (!(← Op.equal t (.slice none 0 0) (.slice none 0 0)))):Sem Value).run P w=_
 simp only [Sem.run_bind,run_equalNN hu,Result.andThen_ok]
 rfl
theorem run_equalSN {P:Program} {w:World} {t el:TypeId} (hu:P.underlying t=some (.slice el))(a:Addr)(m c:Nat):(Op.equal t (.slice (some a) m c) (.slice none 0 0)).run P w=.ok false w:=by
 rw [equal_unfold,Op.equalIn]
 simp only [Sem.run_bind,r_under hu,Result.andThen_ok]
 rfl
theorem run_eqSN {P:Program} {w:World} {t el:TypeId} (hu:P.underlying t=some (.slice el))(a:Addr)(m c:Nat):(binOp .eql t (.slice (some a) m c) (.slice none 0 0)).run P w=.ok (.bool false) w:=by
 show (do pure (Value.bool (← Op.equal t (.slice (some a) m c) (.slice none 0 0))):Sem Value).run P w=_
 simp only [Sem.run_bind,run_equalSN hu,Result.andThen_ok]
 rfl
theorem run_neSN {P:Program} {w:World} {t el:TypeId} (hu:P.underlying t=some (.slice el))(a:Addr)(m c:Nat):(binOp .neq t (.slice (some a) m c) (.slice none 0 0)).run P w=.ok (.bool (!false)) w:=by
 show (do pure (Value.bool (!(← Op.equal t (.slice (some a) m c) (.slice none 0 0)))):Sem Value).run P w=_
 simp only [Sem.run_bind,run_equalSN hu,Result.andThen_ok]
 rfl
theorem good_bin {P:Program} {op:BinOp} {xt yt ty:TypeId} {x y:Operand} {vs:List V} {e:Eff} (h:effBin P op xt vs=some e):Good P (.binOp op xt x y yt) ty vs e:=by
 unfold effBin at h
 split at h
 ·rename_i u v
  split at h
  ·rename_i r hr
   cases h
   refine Good.pure fun F env D a w hl hv=>?_
   have h0:Rep F w env D (a.eval x) u:=hv 0 (by simp)
   have h1:Rep F w env D (a.eval y) v:=hv 1 (by simp)
   clear hv hl
   suffices hs:(match a.eval x with | .agg _ | .nilIface=>False | _=>True)∧∃ z,(binOp op xt (a.eval x) (a.eval y)).run P w=.ok z w∧Rep F w env D z r by
    obtain ⟨hg,z,hz,hr⟩:=hs
    exact ⟨z,run_bin hg hz,hr⟩
   unfold binV at hr
   split at hr
   ·obtain ⟨e0,r0⟩:=h0.int_inv
    obtain ⟨e1,r1⟩:=h1.int_inv
    rw [e0,e1]
    refine ⟨trivial,?_⟩
    split at hr
    ·split at hr
     ·cases hr
     ·rename_i hb
      cases hr
      exact ⟨_,by simp [binOp,Op.shift,hb] <;> rfl,.i (wrap_range ..)⟩
    ·split at hr
     ·cases hr
     ·rename_i hb
      cases hr
      exact ⟨_,by simp [binOp,Op.shift,hb] <;> rfl,.i (fdiv_range _ r0)⟩
    ·split at hr
     ·rename_i hk
      subst hk
      exact good_binInt r0 hr
     ·cases hr
   ·obtain ⟨e0,r0⟩:=h0.s_inv
    obtain ⟨e1,r1⟩:=h1.s_inv
    rw [e0,e1]
    refine ⟨trivial,?_⟩
    cases op<;>simp only [binStr] at hr
    case add=>
     split at hr
     ·rename_i hb
      cases hr
      refine ⟨_,?_,.s (by simpa using hb)⟩
      simp only [binOp,Op.stringOp]
      rw [if_neg (by simp [IntKind.max,IntKind.bits,IntKind.signed];omega)]
      rfl
     ·cases hr
    all_goals first
     | (cases hr;done)
     | (cases hr;exact ⟨_,by simp [binOp,Op.stringOp] <;> rfl,.b⟩)
   ·have e0:=h0.b_inv
    have e1:=h1.b_inv
    rw [e0,e1]
    refine ⟨trivial,?_⟩
    split at hr
    ·rename_i hu
     cases op<;>simp only [binBool] at hr<;>first
      | (cases hr;done)
      | (cases hr;exact ⟨_,by first | exact run_eqB hu _ _ | exact run_neB hu _ _ | exact run_eqNN hu | exact run_neNN hu | exact run_eqSN hu _ _ _ | exact run_neSN hu _ _ _,.b⟩)
    ·cases hr
   ·generalize a.eval x=X at h0 ⊢
    generalize a.eval y=Y at h1 ⊢
    cases h0 with
    | nl=>
     cases h1 with
     | nl=>
      refine ⟨trivial,?_⟩
      split at hr
      ·rename_i hu
       cases op<;>simp only [binNil] at hr<;>first
        | (cases hr;done)
        | (cases hr;exact ⟨_,by first | exact run_eqB hu _ _ | exact run_neB hu _ _ | exact run_eqNN hu | exact run_neNN hu | exact run_eqSN hu _ _ _ | exact run_neSN hu _ _ _,.b⟩)
      ·cases hr
   ·rename_i e es
    generalize a.eval x=X at h0 ⊢
    generalize a.eval y=Y at h1 ⊢
    cases h1 with
    | nl=>
     cases h0 with
     | sl y hne hc hl hF hb hE hy hrr=>
      refine ⟨trivial,?_⟩
      split at hr
      ·rename_i hu
       cases op<;>simp only [binNil] at hr<;>first
        | (cases hr;done)
        | (cases hr;exact ⟨_,by first | exact run_eqB hu _ _ | exact run_neB hu _ _ | exact run_eqNN hu | exact run_neNN hu | exact run_eqSN hu _ _ _ | exact run_neSN hu _ _ _,.b⟩)
      ·cases hr
   ·generalize a.eval x=X at h0 ⊢
    generalize a.eval y=Y at h1 ⊢
    cases h1 with
    | nl=>
     cases h0 with
     | own a1 a2 a3 a4 a5=>
      refine ⟨trivial,?_⟩
      split at hr
      ·rename_i hu
       cases op<;>simp only [binNil] at hr<;>first
        | (cases hr;done)
        | (cases hr;exact ⟨_,by first | exact run_eqB hu _ _ | exact run_neB hu _ _ | exact run_eqNN hu | exact run_neNN hu | exact run_eqSN hu _ _ _ | exact run_neSN hu _ _ _,.b⟩)
      ·cases hr
   ·cases hr
  ·split at h
   ·rename_i r hr
    cases h
    exact good_binArr hr
   ·cases h
 ·cases h
def effUn (op:UnOp):List V→Option Eff
 | [.b x]=>match op with
  | .not=>some (.val (.b (!x)))
  | _=>none
 | [.i k n]=>match op with
  | .neg=>some (.val (.i k (k.wrap (0-n))))
  | _=>none
 | _=>none
theorem good_un {P:Program} {op:UnOp} {t ty:TypeId} {x:Operand} {vs:List V} {e:Eff} (h:effUn op vs=some e):Good P (.unOp op t x) ty vs e:=by
 unfold effUn at h
 split at h
 ·rename_i c
  split at h
  ·cases h
   refine Good.pure fun F env D a w hl hv=>?_
   have h0:a.eval x=.bool c:=(hv 0 (by simp)).b_inv
   exact ⟨.bool (!c),by simp only [execOp,h0,Op.unary];rfl,.b⟩
  ·cases h
 ·rename_i k n
  split at h
  ·cases h
   refine Good.pure fun F env D a w hl hv=>?_
   have h0:a.eval x=.int k n:=(hv 0 (by simp)).int_inv.1
   exact ⟨_,by simp only [execOp,h0,Op.unary,Op.intArith];rfl,.i (wrap_range ..)⟩
  ·cases h
 ·cases h
def effConv (P:Program) (s d:TypeId):List V→Option Eff
 | [.i k n]=>match P.underlying s,P.underlying d with
  | some (.int _),some (.int k')=>some (.val (.i k' (k'.wrap n)))
  | _,_=>none
 | _=>none
theorem good_conv {P:Program} {s d ty:TypeId} {x:Operand} {vs:List V} {e:Eff} (h:effConv P s d vs=some e):Good P (.convert s d x) ty vs e:=by
 unfold effConv at h
 split at h
 ·rename_i k n
  split at h
  ·rename_i j k' hs hd
   cases h
   refine Good.pure fun F env D a w hl hv=>?_
   have h0:a.eval x=.int k n:=(hv 0 (by simp)).int_inv.1
   refine ⟨.int k' (k'.wrap n),?_,.i (wrap_range ..)⟩
   have:(convert s d (.int k n)).run P w=.ok (.int k' (k'.wrap n)) w:=by
    unfold convert
    simp only [Sem.run_bind,r_under hs,r_under hd,Result.andThen_ok]
    rfl
   simp only [execOp,h0]
   exact run_value this
  ·cases h
 ·cases h
def effExtract (ix:Nat):List V→Option Eff
 | [.tup vs]=>if ix<vs.length then some (.val (vs.getD ix .junk)) else none
 | _=>none
theorem good_extract {P:Program} {ix:Nat} {ty:TypeId} {x:Operand} {vs:List V} {e:Eff} (h:effExtract ix vs=some e):Good P (.extract x ix) ty vs e:=by
 unfold effExtract at h
 split at h
 ·rename_i us
  split at h
  ·rename_i hlt
   cases h
   refine Good.pure fun F env D a w hl hv=>?_
   have h0:Rep F w env D (a.eval x) (.tup us):=hv 0 (by simp)
   obtain ⟨xs,e0,hsz,hr⟩:=h0.tup_inv
   refine ⟨xs.getD ix undef,?_,hr ix hlt⟩
   have:xs[ix]? = some (xs.getD ix undef):=by simp [Array.getD_eq_getD_getElem?,hsz,hlt]
   simp only [execOp,e0]
   exact run_value (by simp only [Instr.extract,this];rfl)
  ·cases h
 ·cases h
def effMakeFunc (fn:Fn) (nf:Nat) (vs:List V):Option Eff:=
 match fn,nf with
 | .func f,0=>some (.val (.fn f vs))
 | _,_=>none
theorem good_makeFunc {P:Program} {fn:Fn} {first captured:Array Operand} {ty:TypeId} {vs:List V} {e:Eff} (h:effMakeFunc fn first.size vs=some e):Good P (.makeFunc fn first captured) ty vs e:=by
 unfold effMakeFunc at h
 split at h
 ·rename_i f hf
  cases h
  have hemp:first=#[]:=by simpa using hf
  subst hemp
  refine Good.pure fun F env D a w hl hv=>?_
  simp only [Op.operands,Array.empty_append] at hl hv
  refine ⟨.func (.func f) #[] (captured.map a.eval),?_,?_⟩
  ·have e0:(Array.map a.eval #[]:Array Value)=#[]:=by simp
   simp only [execOp,Instr.makeFunc,e0]
   rfl
  ·refine .fn (by simp [hl]) fun k hk=>?_
   have:=hv k hk
   have e1:(captured.map a.eval).getD k undef=a.eval (captured.getD k (.const undef)):=by
    simp [Array.getD_eq_getD_getElem?,show k<captured.size by omega]
   rw [e1]
   exact this
 ·cases h
def lenV:V→Option Int
 | .nl=>some 0
 | .sl els=>some els.length
 | .own _ _ n _=>some n
 | .s x=>some x.size
 | _=>none
def effLen (P:Program) (t:TypeId):List V→Option Eff
 | [v]=>match P.underlying t,v with
  | some .string,.s x=>some (.val (.i .i64 x.size))
  | some (.slice _),.s _=>none
  | some (.slice _),v=>match lenV v with
   | some n=>some (.val (.i .i64 n))
   | none=>none
  | _,_=>none
 | _=>none
theorem i64_small {n:Nat} (h:n<2 ^ 62):IntKind.i64.min≤(n:Int)∧(n:Int)≤IntKind.i64.max:=by
 simp [IntKind.min,IntKind.max,IntKind.bits,IntKind.signed]
 omega
theorem good_len {P:Program} {t ty:TypeId} {ats:Array TypeId} {x:Operand} {vs:List V} {e:Eff} (ht:ats[0]? = some t)(h:effLen P t vs=some e):Good P (.call ⟨.builtin .len,#[x],ats⟩) ty vs e:=by
 unfold effLen at h
 split at h
 ·rename_i v
  suffices hs:∃ n,e=.val (.i .i64 n)∧∀ (F:Nat→Prop) (env:Env) (D:Nat→Prop) (a:Act) (w:World),Rep F w env D (a.eval x) v→(IntKind.i64.min≤n∧n≤IntKind.i64.max)∧(Builtin.len_ ats ty #[a.eval x]).run P w=.ok (.int .i64 n) w by
   obtain ⟨n,rfl,hs⟩:=hs
   refine Good.pure fun F env D a w hl hv=>?_
   obtain ⟨h1,h2⟩:=hs F env D a w (hv 0 (by simp))
   refine ⟨.int .i64 n,?_,.i h1⟩
   have:(execOp a.eval ⟨none,.call ⟨.builtin .len,#[x],ats⟩,ty, "", #[],none⟩)=(do pure (Next.value (← Builtin.len_ ats ty #[a.eval x])):Sem Next):=by
    simp only [execOp,resolve,invoke,builtin,List.map_toArray,List.map_cons,List.map_nil]
    rfl
   rw [this]
   exact run_value h2
  split at h
  ·rename_i s hu
   cases h
   refine ⟨s.size,rfl,fun F env D a w hr=>?_⟩
   obtain ⟨e0,hs⟩:=hr.s_inv
   refine ⟨i64_small hs,?_⟩
   simp only [Builtin.len_,ht,e0,Sem.run_bind,r_under hu,Result.andThen_ok,List.getElem?_toArray,List.getElem?_cons_zero]
   rfl
  ·cases h
  ·rename_i el hu hns
   split at h
   ·rename_i n hn
    cases h
    refine ⟨n,rfl,fun F env D a w hr=>?_⟩
    generalize a.eval x=X at hr ⊢
    have key:∀ (A:Option Addr) (m c:Nat),m<2 ^ 62→n=(m:Int)→X=.slice A m c→(IntKind.i64.min≤n∧n≤IntKind.i64.max)∧(Builtin.len_ ats ty #[X]).run P w=.ok (.int .i64 n) w:=by
     rintro A m c hm rfl rfl
     refine ⟨i64_small hm,?_⟩
     simp only [Builtin.len_,ht,Sem.run_bind,r_under hu,Result.andThen_ok,List.getElem?_toArray,List.getElem?_cons_zero]
     rfl
    unfold lenV at hn
    split at hn
    ·cases hn;cases hr with
     | nl=>exact key none 0 0 (by omega) rfl rfl
    ·cases hn;cases hr with
     | sl0=>exact key _ 0 _ (by omega) rfl rfl
     | sl y hne hc hl hF hb hE hy hrr=>exact key _ _ _ hl rfl rfl
    ·cases hn;cases hr with
     | own a1 a2 a3 a4 a5=>exact key _ _ _ a4 rfl rfl
     | own0 a1=>exact key none 0 0 (by omega) rfl rfl
    ·exact absurd rfl (hns _)
    ·cases hn
   ·cases h
  ·cases h
 ·cases h
theorem cell_row {w:World} {blk o:Nat} {c:Array Value} {T:TypeId} {z:Nat × Nat} (h:w.heap[blk]? = some (.cells c T z))(ho:o<c.size):w.cell? ⟨blk,o,none⟩=some (c.getD o undef):=by
 simp [World.cell?,h,Array.getD_eq_getD_getElem?,ho]
theorem range_map_getD (y:Nat→Value) {n k:Nat} (h:k<n):((Array.range n).map y).getD k undef=y k:=by
 simp [Array.getD_eq_getD_getElem?,h]
def readAt (L:Lay) (cs:List V) (off:Nat):Option V:=
 if L.agg=true then (if off+L.size≤cs.length then some (.agg ((cs.drop off).take L.size)) else none)
 else (if off<cs.length then some (cs.getD off .junk) else none)
theorem good_readAt {P:Program} {t:TypeId} {L:Lay} (hL:lay P t=some L) {F:Nat→Prop} {w:World} {env:Env} {D:Nat→Prop} {cs:List V} {off o blk:Nat} {v:V} (h:readAt L cs off=some v)
  {y:Nat→Value} (hy:∀ k,k<cs.length→w.cell? ⟨blk,o+k,none⟩=some (y k)) (hr:∀ k,k<cs.length→Rep F w env D (y k) (cs.getD k .junk)) :
  ∃ x,(loadVar t ⟨blk,o+off,none⟩).run P w=.ok x w∧Rep F w env D x v:=by
 obtain ⟨i,d,z,hi,hd,hz,rfl⟩:=lay_inv hL
 unfold readAt at h
 simp only at h
 split at h
 ·rename_i ha
  split at h
  ·rename_i hle
   cases h
   refine ⟨_,r_loadVar_agg hi hd ha (y:=fun k=>y (off+k)) (fun k hk=>by rw [Nat.add_assoc];exact hy _ (by omega)),?_⟩
   refine .agg (by simp;omega) fun k hk=>?_
   have hk':k<i.size:=by simp at hk;omega
   rw [range_map_getD _ hk']
   have:((cs.drop off).take i.size).getD k .junk=cs.getD (off+k) .junk:=by
    simp [List.getD_eq_getElem?_getD,List.getElem?_take,hk']
   rw [this]
   exact hr _ (by omega)
  ·cases h
 ·rename_i ha
  split at h
  ·rename_i hlt
   cases h
   exact ⟨_,r_loadVar_one hd (by simpa using ha) (hy _ hlt),hr _ hlt⟩
  ·cases h
theorem good_loadRow {C:Ctx} {env:Env} {fr:Nat→Option V} {hp:Nat→Option Row} {D:Nat→Prop} {a:Act} {w:World} (hs:Sim C env fr hp D a w) {h blk:Nat} {r:Row} (hr:hp h=some r) (he:env h=some blk) (hcs:∃ (c:Array Value) (T:TypeId) (z:Nat × Nat),w.heap[blk]? = some (.cells c T z)) :
  ∃ c,w.heap[blk]? = some (.cells c r.T (0,0))∧r.cells.length≤c.size∧∀ k,k<r.cells.length→Rep (Fd C env hp) w env D (c.getD k undef) (r.cells.getD k .junk):=by
 rcases (hs.row h r hr).2 with ⟨blk',c,he',hw,hl,hc⟩ | ⟨he',_⟩ | ⟨blk',he',es,cl,ks,ht,_⟩
 ·rw [he] at he';cases he';exact ⟨c,hw,hl,hc⟩
 ·rw [he] at he';cases he'
 ·rw [he] at he';cases he'
  obtain ⟨c,T,z,h1⟩:=hcs
  rw [h1] at ht
  cases ht
def effLoad (P:Program) (t:TypeId):List V→Option Eff
 | [.ptr h off]=>match lay P t with
  | some L=>some (.rd h fun r=>readAt L r.cells off)
  | none=>none
 | [.rp cs]=>match lay P t with
  | some L=>match readAt L cs 0 with
   | some v=>some (.val v)
   | none=>none
  | none=>none
 | _=>none
theorem good_load {P:Program} {t ty:TypeId} {x:Operand} {vs:List V} {e:Eff} (h:effLoad P t vs=some e):Good P (.load t x) ty vs e:=by
 unfold effLoad at h
 split at h
 ·rename_i n off
  split at h
  ·rename_i L hL
   cases h
   intro C env fr hp D a w hs hv m hm v hp' used he
   simp only [Eff.run] at he
   split at he
   ·rename_i r hr
    split at he
    ·rename_i u hu
     cases he
     obtain ⟨blk,e0,he',hD⟩:=(show Rep _ w env D (a.eval x) (.ptr n off) from hv.2 0 (by simp)).ptr_inv
     obtain ⟨c,hw,hl,hc⟩:=good_loadRow hs hr he' ((show Rep _ w env D (a.eval x) (.ptr n off) from hv.2 0 (by simp)).ptr_cells he')
     obtain ⟨z,hz,hzr⟩:=good_readAt (P:=P) hL (o:=0) (blk:=blk) hu (fun k hk=>by rw [Nat.zero_add];exact cell_row hw (by omega)) hc
     rw [Nat.zero_add] at hz
     rw [dd_false]
     refine ⟨env,w,_,z,?_,hs,hzr,.inl rfl⟩
     simp only [execOp,e0]
     exact run_value hz
    ·cases he
   ·cases he
  ·cases h
 ·rename_i cs
  split at h
  ·rename_i L hL
   split at h
   ·rename_i v hv
    cases h
    refine Good.pure fun F env D a w hl hr=>?_
    have h0:Rep F w env D (a.eval x) (.rp cs):=hr 0 (by simp)
    generalize hX:a.eval x=X at h0
    cases h0 with
    | rp y hF hb hy hrr=>
     rename_i blk off
     obtain ⟨z,hz,hzr⟩:=good_readAt (P:=P) hL (o:=off) (blk:=blk) hv hy (fun k hk=>(hrr k hk).mono (fun b _ hF=>⟨hF,rfl⟩) (fun _ c _ _ h=>⟨c,rfl,h⟩) (Nat.le_refl _) (fun _ f=>f.elim))
     refine ⟨z,?_,hzr⟩
     simp only [execOp,hX]
     exact run_value hz
   ·cases h
  ·cases h
 ·cases h
def effStore (P:Program) (t:TypeId):List V→Option Eff
 | [.ptr h off,v]=>match lay P t with
  | some L=>if v.isJunk=false∧v.cells.length=L.size∧v.cells.all V.flat=true then
    some (.wr h fun r=>if off+L.size≤r.cells.length then some (⟨r.T,setR r.cells off v.cells⟩,.junk) else none) else none
  | none=>none
 | _=>none
theorem good_store {P:Program} {t ty:TypeId} {x y:Operand} {vs:List V} {e:Eff} (h:effStore P t vs=some e):Good P (.store t x y) ty vs e:=by
 unfold effStore at h
 split at h
 ·rename_i n off v
  split at h
  ·rename_i L hL
   split at h
   ·rename_i hcond
    obtain ⟨hj,hlen,hflat⟩:=hcond
    cases h
    intro C env fr hp D a w hs hv m hm v' hp' used he
    simp only [Eff.run] at he
    split at he
    ·rename_i r hr
     split at he
     ·rename_i r' v'' hk
      cases he
      split at hk
      ·rename_i hle
       cases hk
       obtain ⟨blk,e0,he',hD⟩:=(show Rep _ w env D (a.eval x) (.ptr n off) from hv.2 0 (by simp)).ptr_inv
       have h1:Rep (Fd C env hp) w env D (a.eval y) v:=hv.2 1 (by simp)
       obtain ⟨hcs,hcr⟩:=h1.cells hj
       obtain ⟨c,hw,hl,hc⟩:=good_loadRow hs hr he' ((show Rep _ w env D (a.eval x) (.ptr n off) from hv.2 0 (by simp)).ptr_cells he')
       obtain ⟨i,d,z,hi,hd,hz,rfl⟩:=lay_inv hL
       simp only at hlen hle
       have hlist:(a.eval y).cells.toList.length=v.cells.length:=by simpa using hcs
       have hone:∀ u ∈ (a.eval y).cells.toList,oneV u=true:=by
        intro u hu
        obtain ⟨k,hk,rfl⟩:=List.getElem_of_mem hu
        have:=hcr k (by omega)
        have hf:(v.cells.getD k .junk).flat=true:=by
         rw [List.all_eq_true] at hflat
         refine hflat _ ?_
         rw [List.getD_eq_getElem?_getD,List.getElem?_eq_getElem (show k<v.cells.length by omega)]
         exact List.getElem_mem _
        have h2:=this.flat_one hf
        have h3:(a.eval y).cells.getD k undef=(a.eval y).cells.toList[k]:=by
         rw [← getD_toList,List.getD_eq_getElem?_getD,List.getElem?_eq_getElem hk]
         rfl
        rw [h3] at h2
        exact h2
       have hrun:=r_storeCells (P:=P) (a.eval y).cells.toList w c off 0 hw (by omega) hone
       rw [Nat.add_zero] at hrun
       have hst:(storeVar t ⟨blk,off,none⟩ (a.eval y)).run P w=.ok () (putRow w blk (setRange c off (a.eval y).cells.toList) r.T):=by
        unfold storeVar
        simp only [Sem.run_bind,r_size hi,Result.andThen_ok]
        rw [if_neg (by simp;omega)]
        exact hrun
       rw [dd_false]
       have hsz:=setRange_size (a.eval y).cells.toList c off
       refine ⟨env,_,.skip,undef,?_,hs.write hr he' hw rfl hsz rfl (by simp only [setR_length];rw [hsz];exact hl) ?_,.junk,.inr ⟨rfl,rfl⟩⟩
       ·simp only [execOp,e0]
        exact run_skip hst
       ·intro k hk
        simp only [setR_length] at hk
        show Rep _ _ _ _ _ ((setR r.cells off v.cells).getD k .junk)
        rw [setRange_get _ _ _ _ (by omega),setR_get _ _ _ _ (by omega),hlist]
        by_cases hin:off≤k∧k<off+v.cells.length
        ·rw [if_pos hin,if_pos hin,getD_toList]
         exact hcr _ (by omega)
        ·rw [if_neg hin,if_neg hin]
         exact hc _ hk
      ·cases hk
     ·cases he
    ·cases he
   ·cases h
  ·cases h
 ·cases h
theorem good_new {P:Program} {op:Op} {ty:TypeId} {vs:List V} {r:Row} {mk:Nat→V}
  (H:∀ (C:Ctx) (env:Env) (fr:Nat→Option V) (hp:Nat→Option Row) (D:Nat→Prop) (a:Act) (w:World),Sim C env fr hp D a w→Vals C env hp D a w op vs →
   ∃ (c:Array Value) (x:Value) (w1:World),Step (fun _=>False) w w1∧w1.heap=w.heap∧(execOp a.eval ⟨none,op,ty, "", #[],none⟩).run P w=.ok (.value x) { w1 with heap:=w1.heap.push (.cells c r.T) } ∧
    r.cells.length≤c.size∧(∀ k,k<r.cells.length→Rep (Fd C env hp) w env D (c.getD k undef) (r.cells.getD k .junk)) ∧
    ∀ n (F:Nat→Prop) (env':Env) (D':Nat→Prop),D' n→env' n=some w.heap.size→Rep F { w1 with heap:=w1.heap.push (.cells c r.T) } env' D' x (mk n)):Good P op ty vs (.new r mk):=by
 intro C env fr hp D a w hs hv n hn v hp' used he
 simp only [Eff.run,Option.some.injEq,Prod.mk.injEq] at he
 obtain ⟨rfl,rfl,rfl⟩:=he
 obtain ⟨c,x,w1,hst,hheap,hrun,hl,hc,hx⟩:=H C env fr hp D a w hs hv
 have hs1:=hs.world hst
 have hn1:=hs1.new hn hl (fun k hk=>(hc k hk).world hst)
 rw [dd_true]
 rw [hheap] at hn1
 refine ⟨_,_,_,x,hrun,by rw [hheap];exact hn1,?_,.inl rfl⟩
 exact hx n _ _ _ (.inr rfl) (by rw [upd_same])
def effAlloc (P:Program) (t:TypeId):List V→Option Eff
 | []=>match lay P t with
  | some L=>some (.new ⟨t,L.zero⟩ (fun n=>.ptr n 0))
  | none=>none
 | _=>none
theorem good_alloc {P:Program} {t ty:TypeId} {vs:List V} {e:Eff} (h:effAlloc P t vs=some e):Good P (.alloc t) ty vs e:=by
 unfold effAlloc at h
 split at h
 ·split at h
  ·rename_i L hL
   cases h
   obtain ⟨i,d,z,hi,hd,hz,rfl⟩:=lay_inv hL
   refine good_new fun C env fr hp D a w hs hv=>?_
   refine ⟨z.cells,.pointer (some ⟨w.heap.size,0,none⟩),w,Step.refl _ _,rfl,?_,by simp,fun k hk=>rep_ofCells _ k hk,fun n F env' D' hD he=>.ptr hD he ⟨_,_,_,by simp;exact ⟨rfl,rfl,rfl⟩⟩⟩
   have:(Instr.alloc t true (.tuple #[])).run P w=.ok (.pointer (some ⟨w.heap.size,0,none⟩)) { w with heap:=w.heap.push (.cells z.cells t) }:=by
    unfold Instr.alloc
    simp only [Sem.run_bind,r_zero hi hz,Result.andThen_ok]
    rfl
   exact run_value this
  ·cases h
 ·cases h
def effBox (t:TypeId):List V→Option Eff
 | [v]=>if v.isJunk=false then some (.new ⟨t,v.cells⟩ (fun n=>.ptr n 0)) else none
 | _=>none
theorem good_box {P:Program} {t ty:TypeId} {x:Operand} {vs:List V} {e:Eff} (h:effBox t vs=some e):Good P (.box t x) ty vs e:=by
 unfold effBox at h
 split at h
 ·rename_i v
  split at h
  ·rename_i hj
   cases h
   refine good_new fun C env fr hp D a w hs hv=>?_
   have h0:Rep (Fd C env hp) w env D (a.eval x) v:=hv.2 0 (by simp)
   obtain ⟨hcs,hcr⟩:=h0.cells hj
   exact ⟨(a.eval x).cells,.pointer (some ⟨w.heap.size,0,none⟩),w,Step.refl _ _,rfl,rfl,by simp [hcs],hcr,fun n F env' D' hD he=>.ptr hD he ⟨_,_,_,by simp;exact ⟨rfl,rfl,rfl⟩⟩⟩
  ·cases h
 ·cases h
def fillV (place:Nat→Option (Nat × Nat)):List V→List (Nat × V)→Option (List V)
 | cells,[]=>some cells
 | cells,(i,v) :: rest=>match place i with
  | none=>none
  | some (off,size)=>if v.isJunk=false∧v.cells.length=size∧off+v.cells.length≤cells.length then fillV place (setR cells off v.cells) rest else none
theorem fold_setRange (vs:List Value):∀ (c:Array Value) (off j:Nat),((vs.zipIdx j).foldl (fun cs (p:Value × Nat)=>cs.setIfInBounds (off+p.2) p.1) c)=setRange c (off+j) vs:=by
 induction vs with
 | nil=>intro c off j;rfl
 | cons v vs ih=>
  intro c off j
  simp only [List.zipIdx_cons,List.foldl_cons,setRange]
  rw [ih]
  rfl
theorem good_fill {F:Nat→Prop} {w:World} {env:Env} {D:Nat→Prop} (place:Nat→Option (Nat × Nat)):∀ (ps:List (Nat × V)) (qs:List (Nat × Value)) (cells:List V) (c:Array Value) (r:List V),
  fillV place cells ps=some r→ps.length=qs.length→(∀ k,k<ps.length→(ps.getD k (0,.junk)).1=(qs.getD k (0,undef)).1∧Rep F w env D (qs.getD k (0,undef)).2 (ps.getD k (0,.junk)).2) →
  c.size=cells.length→(∀ k,k<cells.length→Rep F w env D (c.getD k undef) (cells.getD k .junk)) →
  ∃ c',Instr.fill place c qs=some c'∧c'.size=r.length∧∀ k,k<r.length→Rep F w env D (c'.getD k undef) (r.getD k .junk):=by
 intro ps
 induction ps with
 | nil=>
  intro qs cells c r h hl hp hc hr
  have:qs=[]:=List.eq_nil_of_length_eq_zero hl.symm
  subst this
  simp only [fillV,Option.some.injEq] at h
  subst h
  exact ⟨c,rfl,hc,hr⟩
 | cons p ps ih=>
  intro qs cells c r h hl hp hc hr
  cases qs with
  | nil=>simp at hl
  | cons q qs=>
   obtain ⟨i,v⟩:=p
   obtain ⟨j,x⟩:=q
   have h0:=hp 0 (by simp)
   simp only [List.getD_cons_zero] at h0
   obtain ⟨rfl,hx⟩:=h0
   simp only [fillV] at h
   split at h
   ·cases h
   ·rename_i off size hpl
    split at h
    ·rename_i hcond
     obtain ⟨hj,hsz,hle⟩:=hcond
     obtain ⟨hcs,hcr⟩:=hx.cells hj
     have hlist:x.cells.toList.length=v.cells.length:=by simpa using hcs
     obtain ⟨c',h1,h2,h3⟩:=ih qs (setR cells off v.cells) (setRange c off x.cells.toList) r h (by simpa using hl)
      (fun k hk=>by have:=hp (k+1) (by simpa using hk);simpa only [List.getD_cons_succ] using this) (by simp [hc]) (by
       intro k hk
       simp only [setR_length] at hk
       rw [setRange_get _ _ _ _ (by omega),setR_get _ _ _ _ (by omega),hlist]
       by_cases hin:off≤k∧k<off+v.cells.length
       ·rw [if_pos hin,if_pos hin,getD_toList]
        exact hcr _ (by omega)
       ·rw [if_neg hin,if_neg hin]
        exact hr _ hk)
     refine ⟨c',?_,h2,h3⟩
     unfold Instr.fill
     simp only [hpl]
     rw [if_neg (by simp;omega)]
     have:x.cells.zipIdx.foldl (fun cs (c,j)=>cs.setIfInBounds (off+j) c) c=setRange c off x.cells.toList:=by
      rw [← Array.foldl_toList,Array.toList_zipIdx]
      exact fold_setRange _ _ _ _
     rw [this]
     exact h1
    ·cases h
def placesOf (P:Program) (t:TypeId):Option (Nat→Option (Nat × Nat)):=
 match P.underlying t with
 | some (.array _ e)=>match P.info? e with
  | some ie=>some fun i=>some (i*ie.size,ie.size)
  | none=>none
 | some (.struct fields)=>match fields.toList.mapM (fun f=>(P.info? f.type).map fun i=>(f.offset,i.size)) with
  | some places=>some (places.toArray[·]?)
  | none=>none
 | _=>none
def effBuild (P:Program) (t:TypeId) (ixs:List Nat) (vs:List V):Option Eff:=
 match lay P t,placesOf P t with
 | some L,some pl=>match fillV pl L.zero (ixs.zip vs) with
  | some r=>some (.val (.agg r))
  | none=>none
 | _,_=>none
theorem parts_rep {F:Nat→Prop} {w:World} {env:Env} {D:Nat→Prop} {a:Act} {parts:Array (Nat × Operand)} {vs:List V} (hl:vs.length=(parts.toList.map (·.2)).toArray.size)
  (hr:∀ j,j<vs.length→Rep F w env D (a.eval ((parts.toList.map (·.2)).toArray.getD j (.const undef))) (vs.getD j .junk)) :
  ((parts.toList.map (·.1)).zip vs).length=(parts.map fun (i,x)=>(i,a.eval x)).toList.length ∧
  ∀ k,k<((parts.toList.map (·.1)).zip vs).length→(((parts.toList.map (·.1)).zip vs).getD k (0,.junk)).1=((parts.map fun (i,x)=>(i,a.eval x)).toList.getD k (0,undef)).1 ∧
   Rep F w env D ((parts.map fun (i,x)=>(i,a.eval x)).toList.getD k (0,undef)).2 (((parts.toList.map (·.1)).zip vs).getD k (0,.junk)).2:=by
 have hl':vs.length=parts.size:=by simpa using hl
 refine ⟨by simp [hl'],fun k hk=>?_⟩
 have hk':k<parts.size:=by simp at hk;omega
 have hkv:k<vs.length:=by omega
 have h1:=hr k hkv
 have e1:(parts.toList.map (·.2)).toArray.getD k (.const undef)=parts[k].2:=by
  simp [Array.getD_eq_getD_getElem?,hk']
 have e2:((parts.map fun (i,x)=>(i,a.eval x)).toList.getD k (0,undef))=(parts[k].1,a.eval parts[k].2):=by
  simp [List.getD_eq_getElem?_getD,hk']
 have e3:(((parts.toList.map (·.1)).zip vs).getD k (0,.junk))=(parts[k].1,vs.getD k .junk):=by
  simp [List.getD_eq_getElem?_getD,List.getElem?_zip_eq_some,hk',hkv,List.zip,List.getElem?_zipWith]
 rw [e1] at h1
 rw [e2,e3]
 exact ⟨rfl,h1⟩
theorem good_build {P:Program} {t ty:TypeId} {parts:Array (Nat × Operand)} {vs:List V} {e:Eff} (h:effBuild P t (parts.toList.map (·.1)) vs=some e):Good P (.build t parts) ty vs e:=by
 unfold effBuild at h
 split at h
 ·rename_i L pl hL hpl
  split at h
  ·rename_i r hf
   cases h
   obtain ⟨i,d,z,hi,hd,hz,rfl⟩:=lay_inv hL
   refine Good.pure fun F env D a w hl hr=>?_
   obtain ⟨p1,p2⟩:=parts_rep (a:=a) hl hr
   obtain ⟨c',hc1,hc2,hc3⟩:=good_fill pl _ _ _ z.cells _ hf p1 p2 (by simp) (fun k hk=>rep_ofCells _ k hk)
   have hb:P.built t (parts.map fun (i,x)=>(i,a.eval x)).toList=some c':=by
    unfold Program.built
    unfold placesOf at hpl
    split at hpl
    ·rename_i n e he
     split at hpl
     ·rename_i ie hie
      cases hpl
      simp only [hi,he,hz,hie]
      exact hc1
     ·cases hpl
    ·rename_i fields he
     split at hpl
     ·rename_i places hp
      cases hpl
      simp only [hi,he,hz,hp]
      exact hc1
     ·cases hpl
    ·cases hpl
   exact ⟨.agg c',run_value (run_build w t _ _ hb),.agg hc2 hc3⟩
  ·cases h
 ·cases h
def zerosV (n:Nat) (z:List V):List V:=(List.replicate n z).flatten
theorem zerosV_one (n:Nat)(z:V):zerosV n [z]=List.replicate n z:=by
 unfold zerosV
 induction n with
 | zero=>rfl
 | succ n ih=>rw [List.replicate_succ,List.flatten_cons,ih];rfl
theorem zerosV_length (n:Nat)(z:List V):(zerosV n z).length=n*z.length:=by
 simp [zerosV]
theorem zerosV_get (z:List V):∀ (n k:Nat),k<n*z.length→(zerosV n z).getD k .junk=z.getD (k % z.length) .junk:=by
 intro n
 induction n with
 | zero=>intro k hk;simp at hk
 | succ n ih=>
  intro k hk
  have e:zerosV (n+1) z=z++zerosV n z:=by simp [zerosV,List.replicate_succ]
  rw [e]
  rw [Nat.succ_mul] at hk
  by_cases hlt:k<z.length
  ·rw [Nat.mod_eq_of_lt hlt]
   simp [List.getD_eq_getElem?_getD,List.getElem?_append_left hlt]
  ·have:=ih (k-z.length) (by omega)
   rw [List.getD_eq_getElem?_getD,List.getElem?_append_right (by omega),← List.getD_eq_getElem?_getD,this]
   congr 1
   rw [Nat.mod_eq_sub_mod (a:=k) (by omega)]
theorem zeros_rep {F:Nat→Prop} {w:World} {env:Env} {D:Nat→Prop} (z:Array Value)(n s:Nat)(hs:s=z.size):∀ k,k<(zerosV n (z.toList.map ofCell)).length→Rep F w env D (((Array.range (n*s)).map (z[· % z.size]!)).getD k undef) ((zerosV n (z.toList.map ofCell)).getD k .junk):=by
 subst hs
 intro k hk
 rw [zerosV_length] at hk
 rw [zerosV_get _ _ _ hk]
 simp only [List.length_map,Array.length_toList] at hk ⊢
 rw [range_map_getD _ hk]
 have hz:0<z.size:=by
  rcases Nat.eq_zero_or_pos z.size with h | h
  ·rw [h,Nat.mul_zero] at hk;omega
  ·exact h
 have hlt:k % z.size<z.size:=Nat.mod_lt _ hz
 rw [getD_map_ofCell _ (by simpa using hlt),getD_toList]
 have:z[k % z.size]! = z.getD (k % z.size) undef:=by
  simp [Array.getD_eq_getD_getElem?,hlt]
 rw [this]
 exact rep_ofCell _
def effBuildSlice (P:Program) (t:TypeId) (len:Nat) (ixs:List Nat) (vs:List V):Option Eff:=
 match P.underlying t with
 | some (.slice e)=>match lay P e with
  | some L=>if L.zero.length=L.size∧0<len*L.size∧len*L.size≤2 ^ 24 then
    match fillV (fun i=>some (i*L.size,L.size)) (zerosV len L.zero) (ixs.zip vs) with
    | some r=>if r.length=len*L.size then some (.new ⟨e,r⟩ (fun n=>.own n 0 len L.size)) else none
    | none=>none
   else (if len=0∧ixs=[]∧0<L.size then some (.new ⟨e,[]⟩ (fun n=>.own n 0 0 L.size)) else none)
  | none=>none
 | _=>none
theorem run_buildSlice0 {P:Program} (w:World) {t e:TypeId} {ie:TypeInfo} (hu:P.underlying t=some (.slice e)) (hie:P.info? e=some ie) {ps:Array (Nat × Value)} (hps:ps=#[]) :
  (Instr.buildSlice t 0 ps).run P w=.ok (.slice (some ⟨w.heap.size,0,none⟩) 0 0) (w.alloc (.cells #[] e)):=by
 subst hps
 have hf:∀ f:Nat→Value,Instr.fill (fun i=>some (i*ie.size,ie.size)) (Array.map f (Array.range 0)) []=some #[]:=fun f=>by rw [show Array.range 0=#[] from rfl];simp [Instr.fill]
 simp [Instr.buildSlice,run_underlying hu,sizeOf,typeInfo,hie,newRow,hf]
theorem good_buildSlice {P:Program} {t ty:TypeId} {len:Nat} {parts:Array (Nat × Operand)} {vs:List V} {e:Eff} (h:effBuildSlice P t len (parts.toList.map (·.1)) vs=some e):Good P (.buildSlice t len parts) ty vs e:=by
 unfold effBuildSlice at h
 split at h
 ·rename_i el hu
  split at h
  ·rename_i L hL
   split at h
   ·rename_i hcond
    obtain ⟨hz1,hz2,hz3⟩:=hcond
    split at h
    ·rename_i r hf
     split at h
     ·rename_i hrl
      cases h
      obtain ⟨i,d,z,hi,hd,hz,rfl⟩:=lay_inv hL
      simp only at hz1 hz2 hz3 hrl hf
      have hzs:i.size=z.cells.size:=by simpa using hz1.symm
      refine good_new fun C env fr hp D a w hs hv=>?_
      obtain ⟨p1,p2⟩:=parts_rep (a:=a) hv.1 hv.2
      obtain ⟨c',hc1,hc2,hc3⟩:=good_fill _ _ _ _ ((Array.range (len*i.size)).map (z.cells[· % z.cells.size]!)) _ hf p1 p2 (by simp [zerosV_length,hzs]) (zeros_rep z.cells len i.size hzs)
      refine ⟨c',.slice (some ⟨w.heap.size,0,none⟩) len len,w,Step.refl _ _,rfl,?_,by simp [hc2],hc3,fun n F env' D' hD he=>?_⟩
      ·exact run_value (run_buildSlice w t el len _ c' i z hu hi hz (by omega) (by omega) hc1)
      ·have:len≤len*i.size:=Nat.le_mul_of_pos_right _ (Nat.pos_of_mul_pos_left hz2)
       exact .own hD he (Nat.le_refl _) (by omega) ⟨c',el,(0,0),by simp,by show 0+len*i.size≤c'.size;rw [hc2,hrl];omega,by omega⟩
     ·cases h
    ·cases h
   ·split at h
    ·rename_i hcond
     obtain ⟨rfl,hix,hpos⟩:=hcond
     cases h
     have hpe:parts=#[]:=by simpa using hix
     subst hpe
     obtain ⟨i,d,z,hi,hd,hz,rfl⟩:=lay_inv hL
     refine good_new fun C env fr hp D a w hs hv=>?_
     refine ⟨#[],.slice (some ⟨w.heap.size,0,none⟩) 0 0,w,Step.refl _ _,rfl,?_,by simp,by simp,fun n F env' D' hD he=>?_⟩
     ·exact run_value (run_buildSlice0 w hu hi (by simp))
     ·exact .own hD he (Nat.le_refl _) (by omega) ⟨#[],el,(0,0),by simp,by simp⟩
    ·cases h
  ·cases h
 ·cases h
def effMakeSlice (P:Program) (t:TypeId):List V→Option Eff
 | [.i _ l,.i _ c]=>match P.underlying t with
  | some (.slice e)=>match lay P e with
   | some L=>if L.zero.length=L.size∧0≤l∧l≤c∧c≤2 ^ 40∧L.bytes≤2 ^ 7 then
     some (.new ⟨e,zerosV l.toNat L.zero⟩ (fun n=>.own n 0 l.toNat L.size)) else none
   | none=>none
  | _=>none
 | _=>none
theorem good_makeSlice {P:Program} {t ty:TypeId} {x y:Operand} {vs:List V} {e:Eff} (h:effMakeSlice P t vs=some e):Good P (.makeSlice t x y) ty vs e:=by
 unfold effMakeSlice at h
 split at h
 ·rename_i kl l kc c
  split at h
  ·rename_i el hu
   split at h
   ·rename_i L hL
    split at h
    ·rename_i hcond
     obtain ⟨hz1,h0,hlc,hc30,hby⟩:=hcond
     cases h
     obtain ⟨i,d,z,hi,hd,hz,rfl⟩:=lay_inv hL
     simp only at hz1 hby
     have hzs:i.size=z.cells.size:=by simpa using hz1.symm
     refine good_new fun C env fr hp D a w hs hv=>?_
     have e0:a.eval x=.int kl l:=(show Rep _ w env D (a.eval x) (.i kl l) from hv.2 0 (by simp)).int_inv.1
     have e1:a.eval y=.int kc c:=(show Rep _ w env D (a.eval y) (.i kc c) from hv.2 1 (by simp)).int_inv.1
     obtain ⟨C',rfl⟩:∃ C':Nat,c=C':=⟨c.toNat,by omega⟩
     obtain ⟨L',rfl⟩:∃ L':Nat,l=L':=⟨l.toNat,by omega⟩
     have hmul:i.bytes*C'≤2 ^ 7*2 ^ 40:=Nat.mul_le_mul hby (by omega)
     have hrun:=run_make (P:=P) w t el i z hu hi hz kl kc (L':Int) (C':Int) h0 hlc (by rw [← Int.natCast_mul];omega) (by omega)
     refine ⟨madeCells z.cells (C' * i.size),.slice (some ⟨w.heap.size,0,none⟩) L' C',w,Step.refl _ _,rfl,?_,?_,?_,fun n F env' D' hD he=>?_⟩
     ·simp only [execOp,e0,e1]
      exact run_value hrun
     ·simp only [zerosV_length,size_madeCells,Int.toNat_natCast,List.length_map,Array.length_toList,← hzs]
      exact Nat.mul_le_mul_right _ (by omega)
     ·intro k hk
      have hk1:k<C' * i.size:=by
       simp only [zerosV_length,Int.toNat_natCast,List.length_map,Array.length_toList,← hzs] at hk
       exact Nat.lt_of_lt_of_le hk (Nat.mul_le_mul_right _ (by omega))
      have:=zeros_rep (F:=Fd C env hp) (w:=w) (env:=env) (D:=D) z.cells L' i.size hzs k hk
      have hk2:k<L' * i.size:=by
       simpa only [zerosV_length,Int.toNat_natCast,List.length_map,Array.length_toList,← hzs] using hk
      rw [range_map_getD _ hk2] at this
      unfold madeCells
      rw [range_map_getD _ hk1]
      exact this
     ·exact .own hD he (by omega) (by simp;omega) ⟨_,el,(0,0),by simp;rfl,by rw [size_madeCells];show 0+C' * i.size≤C' * i.size;omega,by omega⟩
    ·cases h
   ·cases h
  ·cases h
 ·cases h
def fieldOff (P:Program) (t:TypeId) (f:Nat):Option (Nat × TypeId):=
 match P.underlying t with
 | some (.struct fs)=>match fs[f]? with
  | some fd=>match P.info? fd.type with
   | some i=>if i.size=0 then none else some (fd.offset,fd.type)
   | none=>none
  | none=>none
 | _=>none
def effFieldAddr (P:Program) (t:TypeId) (f:Nat):List V→Option Eff
 | [.ptr h off]=>match fieldOff P t f with
  | some (o,_)=>some (.val (.ptr h (off+o)))
  | none=>none
 | [.rp cs]=>match fieldOff P t f with
  | some (o,_)=>some (.val (.rp (cs.drop o)))
  | none=>none
 | _=>none
theorem run_fieldAt {P:Program} {w:World} {t:TypeId} {f o:Nat} {ft:TypeId} (h:fieldOff P t f=some (o,ft)) (blk off:Nat) :
  (Instr.fieldAt t (.pointer (some ⟨blk,off,none⟩)) f).run P w=.ok (.pointer (some ⟨blk,off+o,none⟩)) w:=by
 unfold fieldOff at h
 split at h
 ·rename_i fs hu
  split at h
  ·rename_i fd hf
   split at h
   ·rename_i i hi
    split at h
    ·cases h
    ·rename_i hsz
     cases h
     unfold Instr.fieldAt
     simp only [Sem.run_bind,r_under hu,Result.andThen_ok,hf,Instr.sureAddr]
     have:(fieldPlace ⟨blk,off,none⟩ fd).run P w=.ok ⟨blk,off+fd.offset,none⟩ w:=by
      unfold fieldPlace
      simp only [Sem.run_bind,r_size hi,Result.andThen_ok]
      rw [if_neg hsz,add_eq]
      rfl
     have h2:(pure ⟨blk,off,none⟩:Sem Addr).run P w=.ok ⟨blk,off,none⟩ w:=rfl
     simp only [h2,Result.andThen_ok,this]
     rfl
   ·cases h
  ·cases h
 ·cases h
theorem Rep.rp_drop {F:Nat→Prop} {w:World} {env:Env} {D:Nat→Prop} {blk off o:Nat} {cs:List V} (h:Rep F w env D (.pointer (some ⟨blk,off,none⟩)) (.rp cs)):Rep F w env D (.pointer (some ⟨blk,off+o,none⟩)) (.rp (cs.drop o)):=by
 cases h with
 | rp y hF hb hy hr=>
  refine .rp (fun k=>y (o+k)) hF hb (fun k hk=>?_) (fun k hk=>?_)
  ·rw [Nat.add_assoc]
   exact hy _ (by simp at hk;omega)
  ·have:=hr (o+k) (by simp at hk;omega)
   rw [show (cs.drop o).getD k .junk=cs.getD (o+k) .junk by simp [List.getD_eq_getElem?_getD]]
   exact this
theorem good_fieldAddr {P:Program} {t ty:TypeId} {x:Operand} {f:Nat} {vs:List V} {e:Eff} (h:effFieldAddr P t f vs=some e):Good P (.fieldAddr t x f) ty vs e:=by
 unfold effFieldAddr at h
 split at h
 ·rename_i n off
  split at h
  ·rename_i o ft hf
   cases h
   refine Good.pure fun F env D a w hl hv=>?_
   have hp0:Rep F w env D (a.eval x) (.ptr n off):=hv 0 (by simp)
   obtain ⟨blk,e0,he,hD⟩:=hp0.ptr_inv
   refine ⟨_,?_,.ptr hD he (hp0.ptr_cells he)⟩
   simp only [execOp,e0]
   exact run_value (run_fieldAt hf blk off)
  ·cases h
 ·rename_i cs
  split at h
  ·rename_i o ft hf
   cases h
   refine Good.pure fun F env D a w hl hv=>?_
   have h0:Rep F w env D (a.eval x) (.rp cs):=hv 0 (by simp)
   generalize hX:a.eval x=X at h0
   have h0':=h0
   cases h0 with
   | rp y hF hb hy hr=>
    refine ⟨_,?_,h0'.rp_drop (o:=o)⟩
    simp only [execOp,hX]
    exact run_value (run_fieldAt hf _ _)
  ·cases h
 ·cases h
def effField (P:Program) (t:TypeId) (f:Nat):List V→Option Eff
 | [.agg cs]=>match fieldOff P t f with
  | some (o,ft)=>match lay P ft with
   | some L=>match readAt L cs o with
    | some v=>some (.val v)
    | none=>none
   | none=>none
  | none=>none
 | _=>none
theorem run_part {P:Program} {w:World} {t:TypeId} {L:Lay} (hL:lay P t=some L) {F:Nat→Prop} {env:Env} {D:Nat→Prop} {cs:List V} {xs:Array Value} {off:Nat} {v:V} (h:readAt L cs off=some v)
  (hsz:xs.size=cs.length) (hr:∀ k,k<cs.length→Rep F w env D (xs.getD k undef) (cs.getD k .junk)):∃ x,(part t xs off).run P w=.ok x w∧Rep F w env D x v:=by
 obtain ⟨i,d,z,hi,hd,hz,rfl⟩:=lay_inv hL
 unfold readAt at h
 simp only at h
 unfold part
 simp only [Sem.run_bind,r_agg hd,Result.andThen_ok]
 split at h
 ·rename_i ha
  split at h
  ·rename_i hle
   cases h
   simp only [ha,if_true,Sem.run_bind,r_size hi,Result.andThen_ok]
   refine ⟨_,rfl,.agg (by simp;omega) fun k hk=>?_⟩
   have hk':k<i.size:=by simp at hk;omega
   have e1:(xs.extract off (off+i.size)).getD k undef=xs.getD (off+k) undef:=by
    rw [Array.getD_eq_getD_getElem?,Array.getD_eq_getD_getElem?,Array.getElem?_extract,if_pos (by omega)]
   have e2:((cs.drop off).take i.size).getD k .junk=cs.getD (off+k) .junk:=by
    simp [List.getD_eq_getElem?_getD,List.getElem?_take,hk']
   rw [e1,e2]
   exact hr _ (by omega)
  ·cases h
 ·rename_i ha
  split at h
  ·rename_i hlt
   cases h
   have ha':aggD d=false:=by simpa using ha
   have:xs[off]? = some (xs.getD off undef):=by simp [Array.getD_eq_getD_getElem?,hsz,hlt]
   simp only [ha',Bool.false_eq_true,if_false,this]
   exact ⟨_,rfl,hr _ hlt⟩
  ·cases h
theorem good_field {P:Program} {t ty:TypeId} {x:Operand} {f:Nat} {vs:List V} {e:Eff} (h:effField P t f vs=some e):Good P (.field t x f) ty vs e:=by
 unfold effField at h
 split at h
 ·rename_i cs
  split at h
  ·rename_i o ft hf
   split at h
   ·rename_i L hL
    split at h
    ·rename_i v hv
     cases h
     refine Good.pure fun F env D a w hl hr=>?_
     obtain ⟨xs,e0,hsz,hrr⟩:=(show Rep F w env D (a.eval x) (.agg cs) from hr 0 (by simp)).agg_inv
     obtain ⟨z,hz,hzr⟩:=run_part (P:=P) hL hv hsz hrr
     refine ⟨z,?_,hzr⟩
     have:(Instr.field t (.agg xs) f).run P w=.ok z w:=by
      unfold fieldOff at hf
      split at hf
      ·rename_i fs hu
       split at hf
       ·rename_i fd hfd
        split at hf
        ·split at hf
         ·cases hf
         ·cases hf
          unfold Instr.field
          simp only [Sem.run_bind,r_under hu,Result.andThen_ok,hfd]
          have h2:(asAgg (.agg xs)).run P w=.ok xs w:=rfl
          simp only [h2,Result.andThen_ok]
          exact hz
        ·cases hf
       ·cases hf
      ·cases hf
     simp only [execOp,e0]
     exact run_value this
    ·cases h
   ·cases h
  ·cases h
 ·cases h
def effIndexAddr (P:Program) (t:TypeId):List V→Option Eff
 | [.sl els,.i _ j]=>match P.underlying t with
  | some (.slice e)=>match lay P e with
   | some L=>if 0≤j∧j<els.length∧(els.getD j.toNat .junk).cells.length=L.size then some (.val (.rp (els.getD j.toNat .junk).cells)) else none
   | none=>none
  | _=>none
 | [.own h off len E,.i _ j]=>match P.underlying t with
  | some (.slice e)=>match lay P e with
   | some L=>if E=L.size∧0≤j∧j<len then some (.val (.ptr h (off+j.toNat*E))) else none
   | none=>none
  | _=>none
 | [.ptr h off,.i _ j]=>match P.underlying t with
  | some (.array n e)=>match lay P e with
   | some L=>if 0≤j∧j<n then some (.val (.ptr h (off+j.toNat*L.size))) else none
   | none=>none
  | _=>none
 | [.rp cs,.i _ j]=>match P.underlying t with
  | some (.array n e)=>match lay P e with
   | some L=>if 0≤j∧j<n then some (.val (.rp (cs.drop (j.toNat*L.size)))) else none
   | none=>none
  | _=>none
 | _=>none
theorem run_indexSlice {P:Program} {w:World} {t e:TypeId} {i:TypeInfo} (hu:P.underlying t=some (.slice e)) (hi:P.info? e=some i) (blk off len cap:Nat) (k:IntKind) (j:Int) (h0:0≤j) (h1:j<len) :
  (Instr.indexAt t (.slice (some ⟨blk,off,none⟩) len cap) (.int k j)).run P w=.ok (.pointer (some ⟨blk,off+j.toNat*i.size,none⟩)) w:=by
 unfold Instr.indexAt
 have h2:(asIntOf (.int k j)).run P w=.ok (k,j) w:=rfl
 simp only [Sem.run_bind,h2,Result.andThen_ok,r_under hu]
 have h3:∀ (x:Option Addr × Nat × TypeId),(pure x:Sem _).run P w=.ok x w:=fun _=>rfl
 simp only [h3,Result.andThen_ok,Sem.run_bind,r_under hu,h0,h1,and_self,if_true,r_size hi,add_eq]
 rfl
theorem run_indexArr {P:Program} {w:World} {t e:TypeId} {n:Nat} {i:TypeInfo} (hu:P.underlying t=some (.array n e)) (hi:P.info? e=some i) (blk off:Nat) (k:IntKind) (j:Int) (h0:0≤j) (h1:j<n) :
  (Instr.indexAt t (.pointer (some ⟨blk,off,none⟩)) (.int k j)).run P w=.ok (.pointer (some ⟨blk,off+j.toNat*i.size,none⟩)) w:=by
 unfold Instr.indexAt
 have h2:(asIntOf (.int k j)).run P w=.ok (k,j) w:=rfl
 have h4:(Instr.sureAddr (.pointer (some ⟨blk,off,none⟩))).run P w=.ok ⟨blk,off,none⟩ w:=rfl
 simp only [Sem.run_bind,h2,Result.andThen_ok,r_under hu,h4]
 have h3:∀ (x:Option Addr × Nat × TypeId),(pure x:Sem _).run P w=.ok x w:=fun _=>rfl
 simp only [h3,Result.andThen_ok,Sem.run_bind,r_under hu,h0,h1,and_self,if_true,r_size hi,add_eq]
 rfl
theorem getD_mem {l:List V} {k:Nat} (h:k<l.length):l.getD k .junk ∈ l:=by
 rw [List.getD_eq_getElem?_getD,List.getElem?_eq_getElem h]
 exact List.getElem_mem _
theorem Rep.sl_rp {F:Nat→Prop} {w:World} {env:Env} {D:Nat→Prop} {X:Value} {els:List V} {j:Nat} {E:Nat} (h:Rep F w env D X (.sl els)) (hj:j<els.length) (hE:(els.getD j .junk).cells.length=E) :
  ∃ blk off cap,X=.slice (some ⟨blk,off,none⟩) els.length cap∧∀ env' D',Rep F w env' D' (.pointer (some ⟨blk,off+j*E,none⟩)) (.rp (els.getD j .junk).cells):=by
 cases h with
 | sl0=>simp at hj
 | sl y hne hc hl hF hb hEs hy hr=>
  rename_i blk off cap E'
  have:E=E':=by rw [← hE];exact hEs _ (getD_mem hj)
  subst this
  refine ⟨blk,off,cap,rfl,fun env' D'=>?_⟩
  refine .rp (fun k=>y (j*E+k)) hF hb (fun k hk=>?_) (fun k hk=>hr j k hj (by omega))
  rw [Nat.add_assoc]
  refine hy _ ?_
  have h1:(j+1)*E≤els.length*E:=Nat.mul_le_mul_right _ hj
  rw [Nat.succ_mul] at h1
  omega
theorem good_indexAddr {P:Program} {t ty:TypeId} {x y:Operand} {vs:List V} {e:Eff} (h:effIndexAddr P t vs=some e):Good P (.indexAddr t x y) ty vs e:=by
 unfold effIndexAddr at h
 split at h
 ·rename_i els k j
  split at h
  ·rename_i el hu
   split at h
   ·rename_i L hL
    split at h
    ·rename_i hc
     obtain ⟨h0,h1,h2⟩:=hc
     cases h
     obtain ⟨i,d,z,hi,hd,hz,rfl⟩:=lay_inv hL
     refine Good.pure fun F env D a w hl hv=>?_
     have e1:a.eval y=.int k j:=(show Rep F w env D (a.eval y) (.i k j) from hv 1 (by simp)).int_inv.1
     obtain ⟨blk,off,cap,e0,hr⟩:=(show Rep F w env D (a.eval x) (.sl els) from hv 0 (by simp)).sl_rp (j:=j.toNat) (by omega) h2
     refine ⟨_,?_,hr env D⟩
     simp only [execOp,e0,e1]
     exact run_value (run_indexSlice hu hi blk off _ cap k j h0 h1)
    ·cases h
   ·cases h
  ·cases h
 ·rename_i n off len E k j
  split at h
  ·rename_i el hu
   split at h
   ·rename_i L hL
    split at h
    ·rename_i hc
     obtain ⟨h2,h0,h1⟩:=hc
     cases h
     obtain ⟨i,d,z,hi,hd,hz,rfl⟩:=lay_inv hL
     refine Good.pure fun F env D a w hl hv=>?_
     have e1:a.eval y=.int k j:=(show Rep F w env D (a.eval y) (.i k j) from hv 1 (by simp)).int_inv.1
     have hx:Rep F w env D (a.eval x) (.own n off len E):=hv 0 (by simp)
     generalize hX:a.eval x=X at hx
     cases hx with
     | own a1 a2 a3 a4 a5=>
      rename_i cap blk
      refine ⟨_,?_,.ptr a1 a2 (by obtain ⟨c,T,z,h,_⟩:=a5;exact ⟨c,T,z,h⟩)⟩
      simp only [execOp,hX,e1]
      rw [h2]
      exact run_value (run_indexSlice hu hi blk off _ cap k j h0 h1)
     | own0 a1=>omega
    ·cases h
   ·cases h
  ·cases h
 ·rename_i n off k j
  split at h
  ·rename_i m el hu
   split at h
   ·rename_i L hL
    split at h
    ·rename_i hc
     obtain ⟨h0,h1⟩:=hc
     cases h
     obtain ⟨i,d,z,hi,hd,hz,rfl⟩:=lay_inv hL
     refine Good.pure fun F env D a w hl hv=>?_
     have e1:a.eval y=.int k j:=(show Rep F w env D (a.eval y) (.i k j) from hv 1 (by simp)).int_inv.1
     have hp0:Rep F w env D (a.eval x) (.ptr n off):=hv 0 (by simp)
     obtain ⟨blk,e0,he,hD⟩:=hp0.ptr_inv
     refine ⟨_,?_,.ptr hD he (hp0.ptr_cells he)⟩
     simp only [execOp,e0,e1]
     exact run_value (run_indexArr hu hi blk off k j h0 h1)
    ·cases h
   ·cases h
  ·cases h
 ·rename_i cs k j
  split at h
  ·rename_i m el hu
   split at h
   ·rename_i L hL
    split at h
    ·rename_i hc
     obtain ⟨h0,h1⟩:=hc
     cases h
     obtain ⟨i,d,z,hi,hd,hz,rfl⟩:=lay_inv hL
     refine Good.pure fun F env D a w hl hv=>?_
     have e1:a.eval y=.int k j:=(show Rep F w env D (a.eval y) (.i k j) from hv 1 (by simp)).int_inv.1
     have hx:Rep F w env D (a.eval x) (.rp cs):=hv 0 (by simp)
     generalize hX:a.eval x=X at hx
     have hx':=hx
     cases hx with
     | rp y1 hF hb hy hr=>
      refine ⟨_,?_,hx'.rp_drop (o:=j.toNat*i.size)⟩
      simp only [execOp,hX,e1]
      exact run_value (run_indexArr hu hi _ _ k j h0 h1)
    ·cases h
   ·cases h
  ·cases h
 ·cases h
def byteAt (s:ByteArray) (j:Nat):Int:=((s.data.getD j 0).toNat:Int)
def effIndex (P:Program) (t:TypeId):List V→Option Eff
 | [.s s,.i _ j]=>match P.underlying t with
  | some .string=>if 0≤j∧j<s.size then some (.val (.i .u8 (byteAt s j.toNat))) else none
  | _=>none
 | [.agg cs,.i _ j]=>match P.underlying t with
  | some (.array n e)=>match lay P e with
   | some L=>if 0≤j∧j<n then (match readAt L cs (j.toNat*L.size) with
    | some v=>some (.val v)
    | none=>none) else none
   | none=>none
  | _=>none
 | _=>none
theorem byteAt_range (s:ByteArray)(j:Nat):IntKind.u8.min≤byteAt s j∧byteAt s j≤IntKind.u8.max:=by
 have:=(s.data.getD j 0).toNat_lt
 unfold byteAt
 generalize (s.data.getD j 0).toNat=m at *
 simp only [IntKind.min,IntKind.max,IntKind.bits,IntKind.signed]
 simp
 omega
theorem good_index {P:Program} {t ty:TypeId} {x y:Operand} {vs:List V} {e:Eff} (h:effIndex P t vs=some e):Good P (.index t x y) ty vs e:=by
 unfold effIndex at h
 split at h
 ·rename_i s k j
  split at h
  ·rename_i hu
   split at h
   ·rename_i hc
    obtain ⟨h0,h1⟩:=hc
    cases h
    refine Good.pure fun F env D a w hl hv=>?_
    have e0:a.eval x=.string s:=(show Rep F w env D (a.eval x) (.s s) from hv 0 (by simp)).s_inv.1
    have e1:a.eval y=.int k j:=(show Rep F w env D (a.eval y) (.i k j) from hv 1 (by simp)).int_inv.1
    refine ⟨.int .u8 (byteAt s j.toNat),?_,.i (byteAt_range ..)⟩
    have hlt:j.toNat<s.size:=by omega
    have hg:s[j.toNat]? = some (s.data.getD j.toNat 0):=by
     rw [getElem?_pos s j.toNat hlt]
     congr 1
     have:j.toNat<s.data.size:=hlt
     have e2:s.data.getD j.toNat 0=s.data[j.toNat]:=by rw [Array.getD_eq_getD_getElem?,Array.getElem?_eq_getElem this];rfl
     rw [e2]
     rfl
    have:(Instr.index t (.string s) (.int k j)).run P w=.ok (.int .u8 (byteAt s j.toNat)) w:=by
     unfold Instr.index
     have h2:(asIntOf (.int k j)).run P w=.ok (k,j) w:=rfl
     simp only [Sem.run_bind,h2,Result.andThen_ok,r_under hu,h0,if_true,hg]
     rfl
    simp only [execOp,e0,e1]
    exact run_value this
   ·cases h
  ·cases h
 ·rename_i cs k j
  split at h
  ·rename_i n el hu
   split at h
   ·rename_i L hL
    split at h
    ·rename_i hc
     obtain ⟨h0,h1⟩:=hc
     split at h
     ·rename_i v hv
      cases h
      refine Good.pure fun F env D a w hl hr=>?_
      obtain ⟨xs,e0,hsz,hrr⟩:=(show Rep F w env D (a.eval x) (.agg cs) from hr 0 (by simp)).agg_inv
      have e1:a.eval y=.int k j:=(show Rep F w env D (a.eval y) (.i k j) from hr 1 (by simp)).int_inv.1
      obtain ⟨z,hz,hzr⟩:=run_part (P:=P) hL hv hsz hrr
      refine ⟨z,?_,hzr⟩
      obtain ⟨i,d,z',hi,hd,hz',rfl⟩:=lay_inv hL
      have:(Instr.index t (.agg xs) (.int k j)).run P w=.ok z w:=by
       unfold Instr.index
       have h2:(asIntOf (.int k j)).run P w=.ok (k,j) w:=rfl
       simp only [Sem.run_bind,h2,Result.andThen_ok,r_under hu,h0,h1,and_self,if_true,r_size hi]
       exact hz
      simp only [execOp,e0,e1]
      exact run_value this
     ·cases h
    ·cases h
   ·cases h
  ·cases h
 ·cases h
def bound:Option V→Int→Option Int
 | none,d=>some d
 | some (.i _ n),_=>some n
 | _,_=>none
def lowHigh (lo hi:Bool) (vs:List V):Option (Option V × Option V):=
 match lo,hi,vs with
 | false,false,[]=>some (none,none)
 | true,false,[l]=>some (some l,none)
 | false,true,[h]=>some (none,some h)
 | true,true,[l,h]=>some (some l,some h)
 | _,_,_=>none
def sliceV (P:Program) (t:TypeId) (x:V) (l h:Option V):Option V:=
 match x with
 | .s s=>match P.underlying t with
  | some .string=>match bound l 0,bound h s.size with
   | some a,some b=>if 0≤a∧a≤b∧b≤s.size then some (.s (s.extract a.toNat b.toNat)) else none
   | _,_=>none
  | _=>none
 | .sl els=>match P.underlying t with
  | some (.slice e)=>match lay P e with
   | some L=>match bound l 0,bound h els.length with
    | some a,some b=>if 0≤a∧a≤b∧b≤els.length∧(els.getD 0 .junk).cells.length=L.size then some (.sl ((els.take b.toNat).drop a.toNat)) else
      (if els.length=0∧a=0∧b=0 then some (.sl []) else none)
    | _,_=>none
   | none=>none
  | _=>none
 | .nl=>match P.underlying t with
  | some (.slice e)=>match lay P e with
   | some L=>match bound l 0,bound h 0 with
    | some a,some b=>if a=0∧b=0 then some .nl else none
    | _,_=>none
   | none=>none
  | _=>none
 | .own n off len E=>match P.underlying t with
  | some (.slice e)=>match lay P e with
   | some L=>match bound l 0,bound h len with
    | some a,some b=>if E=L.size∧0≤a∧a≤b∧b≤len∧(a=0∨a<len)∧(off=0∨0<len) then some (.own n (off+a.toNat*E) (b.toNat-a.toNat) E) else none
    | _,_=>none
   | none=>none
  | _=>none
 | _=>none
def effSlice (P:Program) (t:TypeId) (lo hi mx:Bool):List V→Option Eff
 | x :: rest=>match mx,lowHigh lo hi rest with
  | false,some (l,h)=>match sliceV P t x l h with
   | some v=>some (.val v)
   | none=>none
  | _,_=>none
 | _=>none
theorem run_sliceBound {P:Program} {w:World} {k:IntKind} {i:Int} {y:Nat} {code:BoundsCode} (h0:0≤i)(h1:i≤y):(Instr.sliceBound (.int k i) y code).run P w=.ok i.toNat w:=by
 unfold Instr.sliceBound
 have h2:(asIntOf (.int k i)).run P w=.ok (k,i) w:=rfl
 simp only [Sem.run_bind,h2,Result.andThen_ok,h0,h1,and_self,if_true]
 rfl
def BoundIs (v:Option Value) (d n:Int):Prop:=(v=none∧n=d)∨∃ k,v=some (.int k n)
theorem run_sliceBounds {P:Program} {w:World} {isSlice:Bool} {len cap:Nat} {low high:Option Value} {a b:Int} (hl:BoundIs low 0 a) (hh:BoundIs high len b) (h0:0≤a) (h1:a≤b) (h2:b≤cap) (h3:high=none→len≤cap) :
  (Instr.sliceBounds isSlice len cap low high none).run P w=.ok (a.toNat,b.toNat,cap) w:=by
 unfold Instr.sliceBounds
 have hp:∀ {α:Type} (x:α),(pure x:Sem α).run P w=.ok x w:=fun _=>rfl
 rcases hh with ⟨rfl,rfl⟩ | ⟨kh,rfl⟩
 ·rcases hl with ⟨rfl,rfl⟩ | ⟨kl,rfl⟩
  ·simp only [Sem.run_bind,hp,Result.andThen_ok,Int.toNat_natCast]
   rfl
  ·simp only [Sem.run_bind,hp,Result.andThen_ok,run_sliceBound h0 h1,Int.toNat_natCast]
 ·rcases hl with ⟨rfl,rfl⟩ | ⟨kl,rfl⟩
  ·simp only [Sem.run_bind,hp,Result.andThen_ok,run_sliceBound (Int.le_trans h0 h1) h2]
   rfl
  ·simp only [Sem.run_bind,hp,Result.andThen_ok,run_sliceBound (Int.le_trans h0 h1) h2]
   rw [run_sliceBound h0 (by omega)]
   simp only [Result.andThen_ok,hp]
theorem Rep.take_drop {F:Nat→Prop} {w:World} {env:Env} {D:Nat→Prop} {blk off cap:Nat} {els:List V} {E m n:Nat} (h:Rep F w env D (.slice (some ⟨blk,off,none⟩) els.length cap) (.sl els)) (hE:(els.getD 0 .junk).cells.length=E)
  (hm:m<n) (hn:n≤els.length):Rep F w env D (.slice (some ⟨blk,off+m*E,none⟩) (n-m) (cap-m)) (.sl ((els.take n).drop m)):=by
 generalize hX:Value.slice (some ⟨blk,off,none⟩) els.length cap=X at h
 cases h with
 | sl0=>simp at hn;omega
 | sl y hne hc hl hF hb hEs hy hr=>
  cases hX
  rename_i E'
  have:E=E':=by rw [← hE];exact hEs _ (getD_mem (by omega))
  subst this
  have hlen:((els.take n).drop m).length=n-m:=by simp;omega
  rw [← hlen]
  refine .sl (fun k=>y (m*E+k)) (by intro h;rw [h] at hlen;simp at hlen;omega) (by omega) (by omega) hF hb (fun e he=>hEs e (List.mem_of_mem_take (List.mem_of_mem_drop he))) (fun k hk=>?_) (fun j k hj hk=>?_)
  ·rw [Nat.add_assoc]
   refine hy _ ?_
   rw [hlen] at hk
   have h1:m*E+(n-m)*E=n*E:=by rw [← Nat.add_mul];congr 1;omega
   have h2:n*E≤els.length*E:=Nat.mul_le_mul_right _ hn
   omega
  ·have e1:((els.take n).drop m).getD j .junk=els.getD (m+j) .junk:=by
    simp [List.getD_eq_getElem?_getD,List.getElem?_take,show m+j<n by omega]
   rw [e1]
   have:=hr (m+j) k (by omega) hk
   rw [Nat.add_mul,Nat.add_assoc] at this
   exact this
theorem slice_core {P:Program} {t:TypeId} {u v:V} {l h:Option V} (hv:sliceV P t u l h=some v) {F:Nat→Prop} {w:World} {env:Env} {D:Nat→Prop} {X:Value} (h0:Rep F w env D X u) {low high:Option Value}
  (hl:∀ d n,bound l d=some n→BoundIs low d n) (hh:∀ d n,bound h d=some n→BoundIs high d n):∃ z,(Instr.sliceAt t X low high none).run P w=.ok z w∧Rep F w env D z v:=by
 unfold sliceV at hv
 split at hv
 ·rename_i s
  split at hv
  ·rename_i hu
   split at hv
   ·rename_i a b ha hb
    split at hv
    ·rename_i hc
     obtain ⟨c0,c1,c2⟩:=hc
     cases hv
     obtain ⟨rfl,hsz⟩:=h0.s_inv
     refine ⟨.string (s.extract a.toNat b.toNat),?_,.s (by simp [ByteArray.size_extract];omega)⟩
     have hb2:=run_sliceBounds (P:=P) (w:=w) (isSlice:=false) (len:=s.size) (cap:=s.size) (hl _ _ ha) (hh _ _ hb) c0 c1 c2 (fun _=>Nat.le_refl _)
     unfold Instr.sliceAt
     simp only [Sem.run_bind,r_under hu,Result.andThen_ok]
     unfold Instr.slice
     simp only [Sem.run_bind,r_under hu,Result.andThen_ok,Option.isSome_none,Bool.false_eq_true,if_false]
     have hp:(pure PUnit.unit:Sem PUnit).run P w=.ok PUnit.unit w:=rfl
     simp only [hp,Result.andThen_ok,hb2]
     rfl
    ·cases hv
   ·cases hv
  ·cases hv
 ·rename_i els
  split at hv
  ·rename_i el hu
   split at hv
   ·rename_i L hL
    obtain ⟨i,d,z',hi,hd,hz',rfl⟩:=lay_inv hL
    split at hv
    ·rename_i a b ha hb
     have key:∀ (A:Option Addr) (cap:Nat),X=.slice A els.length cap→els.length≤cap∨els.length=0→0≤a→a≤b→b≤els.length→b≤cap→(high=none→els.length≤cap) →
       (Instr.sliceAt t X low high none).run P w=.ok (.slice (if cap=a.toNat then A else A.map (·.add (a.toNat*i.size))) (b.toNat-a.toNat) (cap-a.toNat)) w:=by
      rintro A cap rfl hcap c0 c1 c2 c3 c4
      have hb2:=run_sliceBounds (P:=P) (w:=w) (isSlice:=true) (len:=els.length) (cap:=cap) (hl _ _ ha) (hh _ _ hb) c0 c1 c3 c4
      unfold Instr.sliceAt
      simp only [Sem.run_bind,r_under hu,Result.andThen_ok]
      unfold Instr.slice
      simp only [Sem.run_bind,r_under hu,Result.andThen_ok,hb2,r_size hi]
      rfl
     split at hv
     ·rename_i hc
      obtain ⟨c0,c1,c2,c3⟩:=hc
      cases hv
      cases h0 with
      | sl0=>
       rename_i A cap
       simp at c2
       obtain rfl:b=0:=by omega
       obtain rfl:a=0:=by omega
       refine ⟨_,key A cap rfl (.inr rfl) (by omega) (by omega) (by simp) (by omega) (fun _=>by simp),?_⟩
       simp only [List.take_nil,List.drop_nil,Int.toNat_zero,Nat.sub_zero]
       exact .sl0
      | sl y hne hc hl2 hF hbb hEs hy hr=>
       rename_i blk off cap E
       refine ⟨_,key _ cap rfl (.inl hc) c0 c1 c2 (by omega) (fun _=>hc),?_⟩
       by_cases hab:a=b
       ·subst hab
        rw [Nat.sub_self]
        have:(els.take a.toNat).drop a.toNat=[]:=by simp
        rw [this]
        exact .sl0
       ·rw [if_neg (by omega)]
        have h1:=Rep.take_drop (m:=a.toNat) (n:=b.toNat) (Rep.sl (D:=D) (env:=env) y hne hc hl2 hF hbb hEs hy hr) c3 (by omega) (by omega)
        simp only [Option.map_some,add_eq]
        exact h1
     ·split at hv
      ·rename_i hc
       obtain ⟨c0,rfl,rfl⟩:=hc
       cases hv
       have hnil:els=[]:=List.eq_nil_of_length_eq_zero c0
       subst hnil
       cases h0 with
       | sl0=>
        refine ⟨_,key _ _ rfl (.inr rfl) (by omega) (by omega) (by simp) (by omega) (fun _=>by simp),?_⟩
        simp only [Int.toNat_zero,Nat.sub_zero]
        exact .sl0
       | sl y hne=>exact absurd rfl hne
      ·cases hv
    ·cases hv
   ·cases hv
  ·cases hv
 ·split at hv
  ·rename_i el hu
   split at hv
   ·rename_i L hL
    obtain ⟨i,d,z',hi,hd,hz',rfl⟩:=lay_inv hL
    split at hv
    ·rename_i a b ha hb
     split at hv
     ·rename_i hc
      obtain ⟨rfl,rfl⟩:=hc
      cases hv
      cases h0 with
      | nl=>
       have hb2:=run_sliceBounds (P:=P) (w:=w) (isSlice:=true) (len:=0) (cap:=0) (hl _ _ ha) (hh _ _ hb) (by omega) (by omega) (by omega) (fun _=>Nat.le_refl _)
       refine ⟨.slice none 0 0,?_,.nl⟩
       unfold Instr.sliceAt
       simp only [Sem.run_bind,r_under hu,Result.andThen_ok]
       unfold Instr.slice
       simp only [Sem.run_bind,r_under hu,Result.andThen_ok,hb2,r_size hi]
       rfl
     ·cases hv
    ·cases hv
   ·cases hv
  ·cases hv
 ·rename_i n off len E
  split at hv
  ·rename_i el hu
   split at hv
   ·rename_i L hL
    obtain ⟨i,d,z',hi,hd,hz',rfl⟩:=lay_inv hL
    split at hv
    ·rename_i a b ha hb
     split at hv
     ·rename_i hc
      obtain ⟨rfl,c0,c1,c2,c3,c4⟩:=hc
      cases hv
      cases h0 with
      | own a1 a2 a3 a4 a5=>
       rename_i cap blk
       have hb2:=run_sliceBounds (P:=P) (w:=w) (isSlice:=true) (len:=len) (cap:=cap) (hl _ _ ha) (hh _ _ hb) c0 c1 (by omega) (fun _=>a3)
       have hrun:(Instr.sliceAt t (.slice (some ⟨blk,off,none⟩) len cap) low high none).run P w=.ok (.slice (if cap=a.toNat then some ⟨blk,off,none⟩ else (some ⟨blk,off,none⟩:Option Addr).map (·.add (a.toNat*i.size))) (b.toNat-a.toNat) (cap-a.toNat)) w:=by
        unfold Instr.sliceAt
        simp only [Sem.run_bind,r_under hu,Result.andThen_ok]
        unfold Instr.slice
        simp only [Sem.run_bind,r_under hu,Result.andThen_ok,hb2,r_size hi]
        rfl
       refine ⟨_,hrun,?_⟩
       obtain ⟨c,T,z,hw,hsz⟩:=a5
       have hcapE:off+a.toNat*i.size+(cap-a.toNat)*i.size≤c.size:=by
        have h1:a.toNat*i.size+(cap-a.toNat)*i.size=cap*i.size:=by rw [← Nat.add_mul];congr 1;omega
        simp only at hsz
        omega
       rcases c3 with rfl | c3
       ·have e1:(if cap=(0:Int).toNat then some (⟨blk,off,none⟩:Addr) else (some ⟨blk,off,none⟩:Option Addr).map (·.add ((0:Int).toNat*i.size)))=some ⟨blk,off+(0:Int).toNat*i.size,none⟩:=by
         split
         ·simp
         ·simp [Addr.add]
        rw [e1]
        exact .own a1 a2 (by omega) (by omega) ⟨c,T,z,hw,hcapE,by omega⟩
       ·rw [if_neg (by omega)]
        simp only [Option.map_some,add_eq]
        exact .own a1 a2 (by omega) (by omega) ⟨c,T,z,hw,hcapE,by omega⟩
      | own0 a1=>
       obtain rfl:b=0:=by omega
       obtain rfl:a=0:=by omega
       have hb2:=run_sliceBounds (P:=P) (w:=w) (isSlice:=true) (len:=0) (cap:=0) (hl _ _ ha) (hh _ _ hb) (by omega) (by omega) (by omega) (fun _=>Nat.le_refl _)
       refine ⟨.slice none 0 0,?_,by simp only [Int.toNat_zero,Nat.zero_mul,Nat.add_zero,Nat.sub_zero];exact .own0 a1⟩
       unfold Instr.sliceAt
       simp only [Sem.run_bind,r_under hu,Result.andThen_ok]
       unfold Instr.slice
       simp only [Sem.run_bind,r_under hu,Result.andThen_ok,hb2,r_size hi]
       rfl
     ·cases hv
    ·cases hv
   ·cases hv
  ·cases hv
 ·cases hv
theorem good_slice {P:Program} {t ty:TypeId} {x:Operand} {lo hi mx:Option Operand} {vs:List V} {e:Eff} (h:effSlice P t lo.isSome hi.isSome mx.isSome vs=some e):Good P (.slice t x lo hi mx) ty vs e:=by
 cases vs with
 | nil=>simp [effSlice] at h
 | cons u rest=>
  unfold effSlice at h
  cases mx with
  | some m=>
   simp at h
  | none=>
   have fin:∀ {l hh:Option V} {v:V},sliceV P t u l hh=some v→(∀ (F:Nat→Prop) (env:Env) (D:Nat→Prop) (a:Act) (w:World),(u :: rest).length=(Op.slice t x lo hi none).operands.size→(∀ j,j<(u :: rest).length→Rep F w env D (a.eval ((Op.slice t x lo hi none).operands.getD j (.const undef))) ((u :: rest).getD j .junk)) →
     (∀ d n,bound l d=some n→BoundIs (lo.map a.eval) d n)∧(∀ d n,bound hh d=some n→BoundIs (hi.map a.eval) d n))→Good P (.slice t x lo hi none) ty (u :: rest) (.val v):=by
    intro l hh v hv hbd
    refine Good.pure fun F env D a w hlen hr=>?_
    obtain ⟨b1,b2⟩:=hbd F env D a w hlen hr
    have h0:Rep F w env D (a.eval x) u:=by
     have:=hr 0 (by simp)
     cases lo<;>cases hi<;>exact this
    obtain ⟨z,hz,hzr⟩:=slice_core hv h0 b1 b2
    exact ⟨z,run_value hz,hzr⟩
   have conv:∀ {F:Nat→Prop} {w:World} {env:Env} {D:Nat→Prop} {X:Value} {u:V},Rep F w env D X u→∀ d n,bound (some u) d=some n→BoundIs (some X) d n:=by
    intro F w env D X u hX d n hb
    unfold bound at hb
    split at hb
    ·rename_i hq;cases hq
    ·rename_i hq
     cases hq
     cases hb
     exact .inr ⟨_,by rw [hX.int_inv.1]⟩
    ·cases hb
   have none_:∀ d n,bound none d=some n→BoundIs none d n:=by
    intro d n hb
    cases hb
    exact .inl ⟨rfl,rfl⟩
   cases lo with
   | none=>
    cases hi with
    | none=>
     cases rest with
     | nil=>
      simp only [lowHigh,Option.isSome_none] at h
      split at h
      ·rename_i v hv
       cases h
       exact fin hv fun F env D a w hlen hr=>⟨none_,none_⟩
      ·cases h
     | cons r1 rest=>simp [lowHigh] at h
    | some hx=>
     cases rest with
     | nil=>simp [lowHigh] at h
     | cons r1 rest=>
      cases rest with
      | nil=>
       simp only [lowHigh,Option.isSome_none,Option.isSome_some] at h
       split at h
       ·rename_i v hv
        cases h
        exact fin hv fun F env D a w hlen hr=>⟨none_,conv (hr 1 (by simp))⟩
       ·cases h
      | cons r2 rest=>simp [lowHigh] at h
   | some lx=>
    cases hi with
    | none=>
     cases rest with
     | nil=>simp [lowHigh] at h
     | cons r1 rest=>
      cases rest with
      | nil=>
       simp only [lowHigh,Option.isSome_none,Option.isSome_some] at h
       split at h
       ·rename_i v hv
        cases h
        exact fin hv fun F env D a w hlen hr=>⟨conv (hr 1 (by simp)),none_⟩
       ·cases h
      | cons r2 rest=>simp [lowHigh] at h
    | some hx=>
     cases rest with
     | nil=>simp [lowHigh] at h
     | cons r1 rest=>
      cases rest with
      | nil=>simp [lowHigh] at h
      | cons r2 rest=>
       cases rest with
       | nil=>
        replace h:(match sliceV P t u (some r1) (some r2) with
         | some v=>some (Eff.val v)
         | none=>none)=some e:=h
        split at h
        ·rename_i v hv
         cases h
         exact fin hv fun F env D a w hlen hr=>⟨conv (hr 1 (by simp)),conv (hr 2 (by simp))⟩
        ·cases h
       | cons r3 rest=>simp [lowHigh] at h
theorem Sim.move {C:Ctx} {env:Env} {fr:Nat→Option V} {hp:Nat→Option Row} {D:Nat→Prop} {a:Act} {w:World} (h:Sim C env fr hp D a w) {m n:Nat} {r:Row} (hr:hp m=some r) (hn:¬ D n) :
  Sim C (upd env n (env m)) fr (upd (upd hp m none) n (some r)) (fun k=>D k∨k=n) a w:=by
 have hm:D m:=(h.row m r hr).1
 have hmn:m≠n:=fun e=>hn (e ▸ hm)
 have hne:∀ k,D k→k≠n:=fun k hk e=>hn (e ▸ hk)
 have hsome:(hp m).isSome=true:=by simp [hr]
 have hsub:∀ k,k≠n→((upd (upd hp m none) n (some r)) k).isSome=true→(hp k).isSome=true∧k≠m:=by
  intro k e hk
  rw [upd_ne _ _ e] at hk
  by_cases e2:k=m
  ·subst e2;simp at hk
  ·rw [upd_ne _ _ e2] at hk;exact ⟨hk,e2⟩
 have hFd:∀ b,Fd C (upd env n (env m)) (upd (upd hp m none) n (some r)) b→Fd C env hp b:=by
  rintro b (ho | ⟨k,hk,he⟩)
  ·exact .inl ho
  ·by_cases e:k=n
   ·subst e
    rw [upd_same] at he
    exact .inr ⟨m,hsome,he⟩
   ·rw [upd_ne _ _ e] at he
    exact .inr ⟨k,(hsub k e hk).1,he⟩
 have dom:∀ k,D k→(D k∨k=n)∧upd env n (env m) k=env k:=fun k hk=>⟨.inl hk,upd_ne _ _ (hne k hk)⟩
 have lift:∀ {x:Value} {v:V},Rep (Fd C env hp) w env D x v→Rep (Fd C (upd env n (env m)) (upd (upd hp m none) n (some r))) w (upd env n (env m)) (fun k=>D k∨k=n) x v:=
  fun hx=>hx.mono (fun b _ hF=>⟨fun h=>hF (hFd b h),rfl⟩) (fun _ c _ _ h=>⟨c,rfl,h⟩) (Nat.le_refl _) dom
 have rowLift:∀ {k:Nat} {q:Row},RowAt (Fd C env hp) w env D k q→∀ {k':Nat},upd env n (env m) k'=env k→RowAt (Fd C (upd env n (env m)) (upd (upd hp m none) n (some r))) w (upd env n (env m)) (fun k=>D k∨k=n) k' q:=by
  rintro k q (⟨blk,c,he,hw,hl,hc⟩ | ⟨he,hv⟩ | ⟨blk,he,ht⟩) k' hk'
  ·exact .inl ⟨blk,c,hk'.trans he,hw,hl,fun j hj=>lift (hc j hj)⟩
  ·exact .inr (.inl ⟨hk'.trans he,hv⟩)
  ·exact .inr (.inr ⟨blk,hk'.trans he,ht⟩)
 exact {
  sz:=h.sz
  df:=h.df
  tm:=fun t v ht=>⟨(h.tm t v ht).1,lift (h.tm t v ht).2⟩
  row:=by
   intro k q hq
   by_cases e:k=n
   ·subst e
    rw [upd_same] at hq
    cases hq
    exact ⟨.inr rfl,rowLift (h.row m r hr).2 (upd_same ..)⟩
   ·rw [upd_ne _ _ e] at hq
    by_cases e2:k=m
    ·subst e2;simp at hq
    ·rw [upd_ne _ _ e2] at hq
     exact ⟨.inl (h.row k q hq).1,rowLift (h.row k q hq).2 (upd_ne _ _ e)⟩
  old:=by
   intro k b hk he
   by_cases e:k=n
   ·subst e
    rw [upd_same] at he
    exact h.old m b hsome he
   ·rw [upd_ne _ _ e] at he
    exact h.old k b (hsub k e hk).1 he
  inj:=by
   intro k k' b hk hk' he he'
   by_cases e:k=n
   ·by_cases e':k'=n
    ·rw [e,e']
    ·subst e
     rw [upd_same] at he
     rw [upd_ne _ _ e'] at he'
     exact absurd (h.inj m k' b hsome (hsub k' e' hk').1 he he') (fun e3=>(hsub k' e' hk').2 e3.symm)
   ·by_cases e':k'=n
    ·subst e'
     rw [upd_same] at he'
     rw [upd_ne _ _ e] at he
     exact absurd (h.inj k m b (hsub k e hk).1 hsome he he') (hsub k e hk).2
    ·rw [upd_ne _ _ e] at he
     rw [upd_ne _ _ e'] at he'
     exact h.inj k k' b (hsub k e hk).1 (hsub k' e' hk').1 he he'
  st:=h.st
  ob:=h.ob
  gv:=fun k hk=>⟨.inl (h.gv k hk).1,(dom k (h.gv k hk).1).2.trans (h.gv k hk).2⟩ }
def Src (F:Nat→Prop) (env:Env) (D:Nat→Prop) (w:World) (X:Value) (E:Nat) (new:List V):Prop:=
 ∃ (A:Option Addr) (n cap:Nat) (news:List Value),X=.slice A n cap∧new.length=n*E∧news.length=n*E∧n<2 ^ 62∧(A=none→n=0) ∧
  (∀ ad,A=some ad→∀ j u,news[j]? = some u→w.cell? (ad.add j)=some u)∧(∀ k,k<new.length→Rep F w env D (news.getD k undef) (new.getD k .junk))∧(∀ u ∈ news,oneV u=true)
theorem flat_all {F:Nat→Prop} {w:World} {env:Env} {D:Nat→Prop} {news:List Value} {new:List V} (hl:news.length=new.length) (hr:∀ k,k<new.length→Rep F w env D (news.getD k undef) (new.getD k .junk)) (hf:new.all V.flat=true) :
  ∀ u ∈ news,oneV u=true:=by
 intro u hu
 obtain ⟨k,hk,rfl⟩:=List.getElem_of_mem hu
 have h1:=hr k (by omega)
 have h2:(new.getD k .junk).flat=true:=by
  rw [List.all_eq_true] at hf
  exact hf _ (getD_mem (by omega))
 have:=h1.flat_one h2
 rw [List.getD_eq_getElem?_getD,List.getElem?_eq_getElem hk] at this
 exact this
def toValues (y:Nat→Value) (n:Nat):List Value:=(List.range n).map y
theorem toValues_get (y:Nat→Value) {n k:Nat} (h:k<n):(toValues y n).getD k undef=y k:=by
 simp [toValues,List.getD_eq_getElem?_getD,h]
theorem toValues_get? (y:Nat→Value) {n j:Nat} {u:Value} (h:(toValues y n)[j]? = some u):j<n∧y j=u:=by
 unfold toValues at h
 rw [List.getElem?_map] at h
 by_cases hj:j<n
 ·rw [List.getElem?_range hj] at h
  exact ⟨hj,by simpa using h⟩
 ·rw [List.getElem?_eq_none (by simp;omega)] at h
  simp at h
def flatCells (els:List V):List V:=els.flatMap V.cells
theorem flatCells_length {els:List V} {E:Nat} (h:∀ e ∈ els,e.cells.length=E):(flatCells els).length=els.length*E:=by
 induction els with
 | nil=>simp [flatCells]
 | cons e es ih=>
  have:flatCells (e :: es)=e.cells++flatCells es:=rfl
  rw [this,List.length_append,ih (fun x hx=>h x (by simp [hx])),h e (by simp),List.length_cons,Nat.succ_mul,Nat.add_comm]
theorem flatCells_get {els:List V} {E:Nat} (h:∀ e ∈ els,e.cells.length=E):∀ (j k:Nat),j<els.length→k<E→(flatCells els).getD (j*E+k) .junk=((els.getD j .junk).cells).getD k .junk:=by
 induction els with
 | nil=>intro j k hj;simp at hj
 | cons e es ih=>
  intro j k hj hk
  have e1:flatCells (e :: es)=e.cells++flatCells es:=rfl
  have he:=h e (by simp)
  rw [e1]
  cases j with
  | zero=>
   rw [Nat.zero_mul,Nat.zero_add,List.getD_eq_getElem?_getD,List.getElem?_append_left (by omega),← List.getD_eq_getElem?_getD]
   rfl
  | succ j=>
   rw [List.getD_eq_getElem?_getD,List.getElem?_append_right (by rw [he,Nat.succ_mul];omega),← List.getD_eq_getElem?_getD,he,
    show (j+1)*E+k-E=j*E+k by rw [Nat.succ_mul];omega,ih (fun x hx=>h x (by simp [hx])) j k (by simpa using hj) hk]
   rfl
theorem src_sl {F:Nat→Prop} {env:Env} {D:Nat→Prop} {w:World} {X:Value} {els:List V} {E:Nat} (h:Rep F w env D X (.sl els))(hE:(els.getD 0 .junk).cells.length=E∨els=[])(hflat:(flatCells els).all V.flat=true):Src F env D w X E (flatCells els):=by
 cases h with
 | sl0=>exact ⟨_,0,_,[],rfl,by simp [flatCells],by simp,by omega,fun _=>rfl,by simp,by simp [flatCells],by simp⟩
 | sl y hne hc hl hF hb hEs hy hr=>
  rename_i blk off cap E'
  have hpos:0<els.length:=List.length_pos_iff.2 hne
  have:E=E':=by
   rcases hE with hE | hE
   ·rw [← hE];exact hEs _ (getD_mem hpos)
   ·exact absurd hE hne
  subst this
  have hfl:=flatCells_length hEs
  have hreps:∀ k,k<(flatCells els).length→Rep F w env D ((toValues y (els.length*E)).getD k undef) ((flatCells els).getD k .junk):=by
   intro k hk
   rw [hfl] at hk
   have hE0:0<E:=by
    rcases Nat.eq_zero_or_pos E with h0 | h0
    ·rw [h0] at hk;simp at hk
    ·exact h0
   have hj:k / E<els.length:=(Nat.div_lt_iff_lt_mul hE0).2 hk
   have hk2:k % E<E:=Nat.mod_lt _ hE0
   have hdm:k / E*E+k % E=k:=by rw [Nat.mul_comm];exact Nat.div_add_mod k E
   have h1:=hr (k / E) (k % E) hj hk2
   have h2:=flatCells_get hEs (k / E) (k % E) hj hk2
   rw [hdm] at h1 h2
   rw [toValues_get _ hk,h2]
   exact h1.mono (fun b _ hF=>⟨hF,rfl⟩) (fun _ c _ _ h=>⟨c,rfl,h⟩) (Nat.le_refl _) (fun _ f=>f.elim)
  refine ⟨_,els.length,cap,toValues y (els.length*E),rfl,hfl,by simp [toValues],hl,by simp,?_,hreps,flat_all (by rw [hfl];simp [toValues]) hreps hflat⟩
  intro ad had j u hu
  cases had
  obtain ⟨hj,rfl⟩:=toValues_get? y hu
  rw [add_eq]
  exact hy j hj
theorem src_own {C:Ctx} {env:Env} {fr:Nat→Option V} {hp:Nat→Option Row} {D:Nat→Prop} {a:Act} {w:World} (hs:Sim C env fr hp D a w) {X:Value} {n off len E:Nat} {r:Row} (h:Rep (Fd C env hp) w env D X (.own n off len E)) (hr:hp n=some r)
  (hle:off+len*E≤r.cells.length) (hflat:((r.cells.drop off).take (len*E)).all V.flat=true):Src (Fd C env hp) env D w X E ((r.cells.drop off).take (len*E)):=by
 cases h with
 | own a1 a2 a3 a4 a5=>
  rename_i cap blk
  obtain ⟨c,hw,hl,hc⟩:=good_loadRow hs hr a2 (by obtain ⟨c,T,z,h,_⟩:=a5;exact ⟨c,T,z,h⟩)
  have hlen:((r.cells.drop off).take (len*E)).length=len*E:=by simp;omega
  have hreps:∀ k,k<((r.cells.drop off).take (len*E)).length→Rep (Fd C env hp) w env D ((toValues (fun k=>c.getD (off+k) undef) (len*E)).getD k undef) (((r.cells.drop off).take (len*E)).getD k .junk):=by
   intro k hk
   rw [hlen] at hk
   rw [toValues_get _ hk]
   have e2:((r.cells.drop off).take (len*E)).getD k .junk=r.cells.getD (off+k) .junk:=by
    simp [List.getD_eq_getElem?_getD,List.getElem?_take,hk]
   rw [e2]
   exact hc _ (by omega)
  refine ⟨_,len,cap,toValues (fun k=>c.getD (off+k) undef) (len*E),rfl,hlen,by simp [toValues],a4,by simp,?_,hreps,flat_all (by rw [hlen];simp [toValues]) hreps hflat⟩
  intro ad had j u hu
  cases had
  obtain ⟨hj,rfl⟩:=toValues_get? _ hu
  rw [add_eq]
  exact cell_row hw (by omega)
 | own0 a1=>exact ⟨none,0,0,[],rfl,by simp,by simp,by omega,fun _=>rfl,by simp,by simp,by simp⟩
section
variable {P:Program} {w:World}
theorem app_first {E n:Nat} {A:Option Addr} {cap:Nat} {news:List Value} (hl:news.length=n*E) (hA:A=none→n=0) (hc:∀ ad,A=some ad→∀ j u,news[j]? = some u→w.cell? (ad.add j)=some u) :
  (Builtin.firstCells E n (.slice A n cap)).run P w=.ok news.toArray w:=by
 cases A with
 | none=>
  obtain rfl:=hA rfl
  have:news=[]:=List.eq_nil_of_length_eq_zero (by simpa using hl)
  subst this
  rfl
 | some ad=>exact run_firstCells_some (P:=P) w E n ad n cap news hl (hc ad rfl)
theorem app_room {t ty e:TypeId} {i:TypeInfo} (ht:P.underlying t=some (.slice e)) (hi:P.info? e=some i) {ad:Addr} {sLen sCap m c:Nat} {A:Option Addr} {new:Array Value} {w':World}
  (hf:(Builtin.firstCells i.size m (.slice A m c)).run P w=.ok new w) (hst:(storeCells (ad.add (sLen*i.size)) new.toList).run P w=.ok () w') (hroom:sLen+m≤sCap) :
  (Builtin.append_ #[t,t] ty #[.slice (some ad) sLen sCap,.slice A m c]).run P w=.ok (.slice (some ad) (sLen+m) sCap) w':=by
 simp [Builtin.append_,run_underlying ht,sizeOf,typeInfo,hi,Builtin.lenOf,hroom,hf,hst]
theorem app_none {t ty e:TypeId} {i:TypeInfo} (ht:P.underlying t=some (.slice e)) (hi:P.info? e=some i) {c:Nat} {A:Option Addr} {new:Array Value}
  (hf:(Builtin.firstCells i.size 0 (.slice A 0 c)).run P w=.ok new w) :
  (Builtin.append_ #[t,t] ty #[.slice none 0 0,.slice A 0 c]).run P w=.ok (.slice none 0 0) w:=by
 simp [Builtin.append_,run_underlying ht,sizeOf,typeInfo,hi,Builtin.lenOf,hf]
theorem app_grow {t ty e:TypeId} {i:TypeInfo} {z:Value} (ht:P.underlying t=some (.slice e)) (hi:P.info? e=some i) (hz:i.zero=some z) {base:Option Addr} {sLen sCap m c:Nat} {A:Option Addr} {old new:Array Value}
  (hfo:(Builtin.firstCells i.size sLen (.slice base sLen sCap)).run P w.drew=.ok old w.drew) (hf:(Builtin.firstCells i.size m (.slice A m c)).run P w.drew=.ok new w.drew)
  (hg:sCap<sLen+m) (h63:((sLen+m:Nat):Int)≤9223372036854775807) (hfit:Builtin.nextslicecap (sLen+m) sCap*i.bytes≤281474976710656) :
  ∃ rest cap',(sLen+m≤cap'∧cap' < 2 ^ 63)∧rest=Builtin.zeroCells z.cells (cap' - (sLen+m))∧(Builtin.append_ #[t,t] ty #[.slice base sLen sCap,.slice A m c]).run P w=.ok (.slice (some ⟨w.heap.size,0,none⟩) (sLen+m) cap') (w.drew.alloc (.cells (old++new++rest) e)):=by
 have hn:¬ (sLen+m≤sCap):=by omega
 have h63':¬ (9223372036854775807<((sLen:Int)+(m:Int))):=by omega
 have h48':¬ (281474976710656<Builtin.nextslicecap (sLen+m) sCap*i.bytes):=by omega
 refine ⟨_,grownCap w (sLen+m) sCap e,?_,rfl,?_⟩
 ·have hlt:sLen+m<2 ^ 63:=by omega
  have hmod:=Nat.mod_lt (w.tape w.drawn (.appendCap (sLen+m) sCap e)) (show 0<2 ^ 63-(sLen+m) by omega)
  unfold grownCap Question.cut
  simp only
  omega
 ·simp [Builtin.append_,run_underlying ht,sizeOf,typeInfo,zeroValue,hi,hz,Builtin.lenOf,hn,h63',h48',Question.forced,hf,hfo,newRow,grownCap]
end
theorem step_drew (w:World):Step (fun _=>False) w w.drew:=step_drawn w _
theorem append_core {P:Program} {t ty e:TypeId} {i:TypeInfo} {z:Value} (ht:P.underlying t=some (.slice e)) (hi:P.info? e=some i) (hz:i.zero=some z) (hzs:z.cells.size=i.size)
  {C:Ctx} {env:Env} {fr:Nat→Option V} {hp:Nat→Option Row} {D:Nat→Prop} {a:Act} {w:World} (hs:Sim C env fr hp D a w) {h:Nat} {r:Row} (hr:hp h=some r) {X:Value} {len:Nat} (hX:Rep (Fd C env hp) w env D X (.own h 0 len i.size))
  (hlen:r.cells.length=len*i.size) (hT:r.T=e) {Y:Value} {new:List V} {m:Nat} (hm:new.length=m*i.size) (hpos:0<i.size) (hsrc:Src (Fd C env hp) env D w Y i.size new) (hlim:len+m≤2 ^ 40) (hby:i.bytes≤2 ^ 7) {n:Nat} (hn:¬ D n) :
  ∃ (env':Env) (w':World) (x:Value),(Builtin.append_ #[t,t] ty #[X,Y]).run P w=.ok x w'∧Sim C env' fr (upd (upd hp h none) n (some ⟨e,r.cells++new⟩)) (fun k=>D k∨k=n) a w' ∧
   Rep (Fd C env' (upd (upd hp h none) n (some ⟨e,r.cells++new⟩))) w' env' (fun k=>D k∨k=n) x (.own n 0 (len+m) i.size):=by
 obtain ⟨A,m',capY,news,rfl,hnl,hnews,hm62,hA,hcells,hreps,hone⟩:=hsrc
 obtain rfl:m=m':=Nat.eq_of_mul_eq_mul_right hpos (hm.symm.trans hnl)
 have hcatlen:(r.cells++new).length=(len+m)*i.size:=by rw [List.length_append,hlen,hm,Nat.add_mul]
 have hcat:∀ k,(r.cells++new).getD k .junk=if k<r.cells.length then r.cells.getD k .junk else new.getD (k-r.cells.length) .junk:=by
  intro k
  by_cases hk:k<r.cells.length
  ·rw [if_pos hk,List.getD_eq_getElem?_getD,List.getElem?_append_left hk,← List.getD_eq_getElem?_getD]
  ·rw [if_neg hk,List.getD_eq_getElem?_getD,List.getElem?_append_right (by omega),← List.getD_eq_getElem?_getD]
 have hfit:∀ sCap,sCap<len+m→Builtin.nextslicecap (len+m) sCap*i.bytes≤281474976710656:=fun sCap hlt=>growslice_fits hlt (by
  have:(len+m)*i.bytes≤2 ^ 40*2 ^ 7:=Nat.mul_le_mul hlim hby
  omega)
 -- a new row
 have grow:∀ (base:Option Addr) (sCap:Nat) (old:Array Value),X=.slice base len sCap→sCap<len+m→(Builtin.firstCells i.size len (.slice base len sCap)).run P w.drew=.ok old w.drew→old.size=len*i.size →
   (∀ k,k<r.cells.length→Rep (Fd C env hp) w env D (old.getD k undef) (r.cells.getD k .junk)) →
   ∃ (env':Env) (w':World) (x:Value),(Builtin.append_ #[t,t] ty #[X,.slice A m capY]).run P w=.ok x w'∧Sim C env' fr (upd (upd hp h none) n (some ⟨e,r.cells++new⟩)) (fun k=>D k∨k=n) a w' ∧
    Rep (Fd C env' (upd (upd hp h none) n (some ⟨e,r.cells++new⟩))) w' env' (fun k=>D k∨k=n) x (.own n 0 (len+m) i.size):=by
  rintro base sCap old rfl hlt hfo hos hor
  have hfn:=app_first (P:=P) (w:=w.drew) (E:=i.size) (cap:=capY) hnews hA (fun ad had j u hu=>hcells ad had j u hu)
  obtain ⟨rest,cap',⟨hcap,hcap63⟩,hrest,hrun⟩:=app_grow (P:=P) (ty:=ty) ht hi hz hfo hfn hlt (by omega) (hfit sCap hlt)
  have hsz:(old++news.toArray++rest).size=cap' * i.size:=by
   rw [Array.size_append,Array.size_append,hos,hrest]
   simp only [List.size_toArray,hnews,Builtin.zeroCells,Array.size_map,Array.size_range,hzs]
   rw [← Nat.add_mul,← Nat.add_mul]
   congr 1
   omega
  have hs1:=hs.world (step_drew w)
  have hget:∀ k,k<(r.cells++new).length→Rep (Fd C env hp) w.drew env D ((old++news.toArray++rest).getD k undef) ((r.cells++new).getD k .junk):=by
   intro k hk
   rw [hcatlen,Nat.add_mul] at hk
   rw [hcat]
   by_cases hkl:k<r.cells.length
   ·rw [if_pos hkl]
    have:(old++news.toArray++rest).getD k undef=old.getD k undef:=by
     rw [Array.getD_eq_getD_getElem?,Array.getD_eq_getD_getElem?,Array.getElem?_append_left (by simp [hos,hnews];omega),Array.getElem?_append_left (by omega)]
    rw [this]
    exact (hor k hkl).world (step_drew w)
   ·rw [if_neg hkl]
    have:(old++news.toArray++rest).getD k undef=news.getD (k-r.cells.length) undef:=by
     rw [Array.getD_eq_getD_getElem?,Array.getElem?_append_left (by simp [hos,hnews];omega),Array.getElem?_append_right (by omega),hos,← hlen,List.getD_eq_getElem?_getD,List.getElem?_toArray]
    rw [this]
    exact (hreps _ (by omega)).world (step_drew w)
  have hs2:=hs1.new (r:=⟨e,r.cells++new⟩) hn (c:=old++news.toArray++rest) (by
   show (r.cells++new).length≤_
   rw [hcatlen,hsz]
   exact Nat.mul_le_mul_right _ hcap) hget
  have hs3:=hs2.drop h
  have hhn:h≠n:=fun e=>hn (e ▸ (hs.row h r hr).1)
  have hcomm:upd (upd hp n (some ⟨e,r.cells++new⟩)) h none=upd (upd hp h none) n (some ⟨e,r.cells++new⟩):=by
   funext k
   unfold upd
   by_cases e1:k=h
   ·subst e1;simp [hhn]
   ·simp [e1]
  rw [hcomm] at hs3
  refine ⟨_,_,_,hrun,hs3,?_⟩
  refine .own (.inr rfl) (upd_same ..) hcap (by omega) ⟨old++news.toArray++rest,e,(0,0),(by show (w.drew.heap.push _)[w.drew.heap.size]? = _;rw [Array.getElem?_push_size]),by rw [hsz];omega,hcap63⟩
 cases hX with
 | own a1 a2 a3 a4 a5=>
  rename_i cap blk
  obtain ⟨c,hw,hl,hc⟩:=good_loadRow hs hr a2 (by obtain ⟨c,T,z,h,_⟩:=a5;exact ⟨c,T,z,h⟩)
  by_cases hroom:len+m≤cap
  ·obtain ⟨c2,T2,z2,hw2,hsz2⟩:=a5
   have hcc:c2=c:=by rw [hw] at hw2;cases hw2;rfl
   subst hcc
   have hfit2:(len+m)*i.size≤c2.size:=Nat.le_trans (Nat.mul_le_mul_right _ hroom) (by omega)
   rw [Nat.add_mul] at hfit2
   have hst:=r_storeCells (P:=P) news w c2 (len*i.size) 0 hw (by omega) hone
   rw [Nat.add_zero] at hst
   have hrun:=app_room (P:=P) (ty:=ty) (c:=capY) (sLen:=len) (sCap:=cap) (ad:=⟨blk,0,none⟩) ht hi (app_first hnews hA hcells) (by rw [add_eq,Nat.zero_add];exact hst) hroom
   have hs1:=hs.write (r':=⟨r.T,r.cells++new⟩) hr a2 hw rfl (setRange_size news c2 (len*i.size)) rfl (by
    show (r.cells++new).length≤_
    rw [hcatlen,setRange_size,Nat.add_mul]
    exact hfit2) (by
    intro k hk
    have hk':k<(len+m)*i.size:=by rw [← hcatlen];exact hk
    rw [Nat.add_mul] at hk'
    show Rep _ _ _ _ _ ((r.cells++new).getD k .junk)
    rw [hcat,setRange_get _ _ _ _ (by omega)]
    by_cases hkl:k<r.cells.length
    ·rw [if_pos hkl,if_neg (by omega)]
     exact hc k hkl
    ·rw [if_neg hkl,if_pos (by omega),show k-len*i.size=k-r.cells.length by omega]
     exact hreps _ (by omega))
   have hs2:=hs1.move (m:=h) (n:=n) (r:=⟨r.T,r.cells++new⟩) (by rw [upd_same]) hn
   have hcomm:upd (upd (upd hp h (some ⟨r.T,r.cells++new⟩)) h none) n (some ⟨r.T,r.cells++new⟩)=upd (upd hp h none) n (some ⟨e,r.cells++new⟩):=by
    subst hT
    funext k
    unfold upd
    by_cases e1:k=h<;>simp [e1]
   rw [hcomm] at hs2
   refine ⟨_,_,_,hrun,hs2,?_⟩
   refine .own (.inr rfl) (by rw [upd_same];exact a2) hroom (by omega) ⟨_,r.T,(0,0),putRow_heap _ _ (lt_of_heap hw),by rw [setRange_size];omega,hsz2.2⟩
  ·refine grow _ cap ((Array.range (len*i.size)).map (fun k=>c.getD k undef)) rfl (by omega) ?_ (by simp) ?_
   ·show (Builtin.firstCells i.size len (.slice (some ⟨blk,0,none⟩) len cap)).run P w.drew=_
    exact r_loadCells (P:=P) (w:=w.drew) (o:=0) (n:=len*i.size) (y:=fun k=>c.getD k undef) (fun k hk=>by
     rw [Nat.zero_add]
     exact cell_row (w:=w.drew) (c:=c) (T:=r.T) (z:=(0,0)) hw (by omega))
   ·intro k hk
    rw [range_map_getD _ (by omega)]
    exact hc k hk
 | own0 a1=>
  by_cases hroom:m=0
  ·subst hroom
   have hnil:new=[]:=List.eq_nil_of_length_eq_zero (by simpa using hm)
   subst hnil
   have hrun:=app_none (P:=P) (w:=w) (ty:=ty) (c:=capY) ht hi (app_first hnews hA hcells)
   have hs2:=hs.move (m:=h) (n:=n) hr hn
   have hcomm:upd (upd hp h none) n (some r)=upd (upd hp h none) n (some ⟨e,r.cells++[]⟩):=by
    subst hT
    rw [List.append_nil]
   rw [hcomm] at hs2
   exact ⟨_,_,_,hrun,hs2,.own0 (.inr rfl)⟩
  ·refine grow none 0 #[] rfl (by omega) rfl (by simp) ?_
   intro k hk
   omega
def appRow (L:Lay) (e:TypeId) (len:Nat) (new:List V) (m:Nat) (r:Row):Option Row:=
 if r.cells.length=len*L.size∧r.T=e∧new.length=m*L.size∧new.all V.flat=true then some ⟨e,r.cells++new⟩ else none
def effAppend (P:Program) (t:TypeId):List V→Option Eff
 | [x,y]=>match P.underlying t with
  | some (.slice e)=>match lay P e with
   | some L=>if L.zero.length=L.size∧0<L.size∧L.bytes≤2 ^ 7 then
     match x,y with
     | .nl,.nl=>some (.val .nl)
     | .nl,.sl els=>if els.length≤2 ^ 40∧((els.getD 0 .junk).cells.length=L.size∨els=[])∧(flatCells els).length=els.length*L.size∧(flatCells els).all V.flat=true then some (.new ⟨e,flatCells els⟩ (fun n=>.own n 0 els.length L.size)) else none
     | .nl,.own h2 off2 m E2=>if E2=L.size∧m≤2 ^ 40 then
       some (.new2 h2 (fun r2=>if off2+m*L.size≤r2.cells.length∧((r2.cells.drop off2).take (m*L.size)).all V.flat=true then some ⟨e,(r2.cells.drop off2).take (m*L.size)⟩ else none) (fun n=>.own n 0 m L.size)) else none
     | .own h 0 len E,.nl=>if E=L.size∧len≤2 ^ 40 then some (.grow h (appRow L e len [] 0) (fun n=>.own n 0 len L.size)) else none
     | .own h 0 len E,.sl els=>if E=L.size∧len+els.length≤2 ^ 40∧((els.getD 0 .junk).cells.length=L.size∨els=[]) then some (.grow h (appRow L e len (flatCells els) els.length) (fun n=>.own n 0 (len+els.length) L.size)) else none
     | .own h 0 len E,.own h2 off2 m E2=>if E=L.size∧E2=L.size∧len+m≤2 ^ 40 then
       some (.grow2 h h2 (fun r r2=>if off2+m*L.size≤r2.cells.length then appRow L e len ((r2.cells.drop off2).take (m*L.size)) m r else none) (fun n=>.own n 0 (len+m) L.size)) else none
     | _,_=>none
    else none
   | none=>none
  | _=>none
 | _=>none
theorem src_nl {F:Nat→Prop} {env:Env} {D:Nat→Prop} {w:World} {E:Nat}:Src F env D w (.slice none 0 0) E []:=
 ⟨none,0,0,[],rfl,by simp,by simp,by omega,fun _=>rfl,by simp,by simp,by simp⟩
theorem append_nil {P:Program} {t ty e:TypeId} {i:TypeInfo} {z:Value} (ht:P.underlying t=some (.slice e)) (hi:P.info? e=some i) (hz:i.zero=some z) (hzs:z.cells.size=i.size)
  {C:Ctx} {env:Env} {fr:Nat→Option V} {hp:Nat→Option Row} {D:Nat→Prop} {a:Act} {w:World} (hs:Sim C env fr hp D a w) {Y:Value} {new:List V} {m:Nat} (hm:new.length=m*i.size) (hpos:0<i.size)
  (hsrc:Src (Fd C env hp) env D w Y i.size new) (hlim:m≤2 ^ 40) (hby:i.bytes≤2 ^ 7) {n:Nat} (hn:¬ D n) :
  ∃ (env':Env) (w':World) (x:Value),(Builtin.append_ #[t,t] ty #[.slice none 0 0,Y]).run P w=.ok x w'∧Sim C env' fr (upd hp n (some ⟨e,new⟩)) (fun k=>D k∨k=n) a w' ∧
   Rep (Fd C env' (upd hp n (some ⟨e,new⟩))) w' env' (fun k=>D k∨k=n) x (.own n 0 m i.size):=by
 obtain ⟨A,m',capY,news,rfl,hnl,hnews,hm62,hA,hcells,hreps,hone⟩:=hsrc
 obtain rfl:m=m':=Nat.eq_of_mul_eq_mul_right hpos (hm.symm.trans hnl)
 by_cases h0:m=0
 ·subst h0
  have hnil:new=[]:=List.eq_nil_of_length_eq_zero (by simpa using hm)
  subst hnil
  have hrun:=app_none (P:=P) (w:=w) (ty:=ty) (c:=capY) ht hi (app_first hnews hA hcells)
  exact ⟨_,_,_,hrun,hs.newVirtual hn e,.own0 (.inr rfl)⟩
 ·have hfn:=app_first (P:=P) (w:=w.drew) (E:=i.size) (cap:=capY) hnews hA (fun ad had j u hu=>hcells ad had j u hu)
  obtain ⟨rest,cap',⟨hcap,hcap63⟩,hrest,hrun⟩:=app_grow (P:=P) (ty:=ty) (base:=none) (sLen:=0) (sCap:=0) (old:=#[]) ht hi hz rfl hfn (by omega) (by omega) (growslice_fits (by omega) (by
   have:(0+m)*i.bytes≤2 ^ 40*2 ^ 7:=Nat.mul_le_mul (by omega) hby
   omega))
  rw [Nat.zero_add] at hcap hrest hrun
  have hsz:(#[]++news.toArray++rest).size=cap' * i.size:=by
   rw [Array.size_append,Array.size_append,hrest]
   simp only [List.size_toArray,List.length_nil,hnews,Builtin.zeroCells,Array.size_map,Array.size_range,hzs,Nat.zero_add]
   rw [← Nat.add_mul]
   congr 1
   omega
  have hs1:=hs.world (step_drew w)
  have hs2:=hs1.new (r:=⟨e,new⟩) hn (c:=#[]++news.toArray++rest) (by
   show new.length≤_
   rw [hm,hsz]
   exact Nat.mul_le_mul_right _ hcap) (by
   intro k hk
   have hk':k<m*i.size:=by rw [← hm];exact hk
   have:(#[]++news.toArray++rest).getD k undef=news.getD k undef:=by
    rw [Array.empty_append,Array.getD_eq_getD_getElem?,Array.getElem?_append_left (by simp [hnews];omega),List.getD_eq_getElem?_getD,List.getElem?_toArray]
   rw [this]
   exact (hreps _ (by omega)).world (step_drew w))
  refine ⟨_,_,_,hrun,hs2,?_⟩
  exact .own (.inr rfl) (upd_same ..) hcap (by omega) ⟨#[]++news.toArray++rest,e,(0,0),(by show (w.drew.heap.push _)[w.drew.heap.size]? = _;rw [Array.getElem?_push_size]),by rw [hsz];omega,hcap63⟩
theorem run_append_op {P:Program} {w w':World} {a:Act} {t ty:TypeId} {x y:Operand} {z:Value} (h:(Builtin.append_ #[t,t] ty #[a.eval x,a.eval y]).run P w=.ok z w') :
  (execOp a.eval ⟨none,.call ⟨.builtin .append,#[x,y],#[t,t]⟩,ty, "", #[],none⟩).run P w=.ok (.value z) w':=by
 have:(execOp a.eval ⟨none,.call ⟨.builtin .append,#[x,y],#[t,t]⟩,ty, "", #[],none⟩)=(do pure (Next.value (← Builtin.append_ #[t,t] ty #[a.eval x,a.eval y])):Sem Next):=by
  simp only [execOp,resolve,invoke,builtin,List.map_toArray,List.map_cons,List.map_nil]
  rfl
 rw [this]
 exact run_value h
theorem good_append {P:Program} {t ty:TypeId} {x y:Operand} {vs:List V} {e:Eff} (h:effAppend P t vs=some e):Good P (.call ⟨.builtin .append,#[x,y],#[t,t]⟩) ty vs e:=by
 unfold effAppend at h
 split at h
 ·rename_i u v
  split at h
  ·rename_i el hu
   split at h
   ·rename_i L hL
    split at h
    ·rename_i hcond
     obtain ⟨hz1,hpos,hby⟩:=hcond
     obtain ⟨i,d,z,hi,hd,hz,rfl⟩:=lay_inv hL
     simp only at hz1 hpos hby h
     have hzs:z.cells.size=i.size:=by simpa using hz1
     have ops:∀ {C:Ctx} {env:Env} {hp:Nat→Option Row} {D:Nat→Prop} {a:Act} {w:World},Vals C env hp D a w (.call ⟨.builtin .append,#[x,y],#[t,t]⟩) [u,v]→Rep (Fd C env hp) w env D (a.eval x) u∧Rep (Fd C env hp) w env D (a.eval y) v:=
      fun hv=>⟨hv.2 0 (by simp),hv.2 1 (by simp)⟩
     split at h
     ·cases h
      refine Good.pure fun F env D a w hl hr=>?_
      have h0:Rep F w env D (a.eval x) .nl:=hr 0 (by simp)
      have h1:Rep F w env D (a.eval y) .nl:=hr 1 (by simp)
      refine ⟨.slice none 0 0,run_append_op ?_,.nl⟩
      generalize a.eval x=X at h0
      generalize a.eval y=Y at h1
      cases h0
      cases h1
      exact app_none hu hi (app_first (news:=[]) (by simp) (fun _=>rfl) (by simp))
     ·rename_i els
      split at h
      ·rename_i hc
       obtain ⟨c1,c2,c3,c4⟩:=hc
       cases h
       intro C env fr hp D a w hs hv n hn v' hp' used he
       simp only [Eff.run,Option.some.injEq,Prod.mk.injEq] at he
       obtain ⟨rfl,rfl,rfl⟩:=he
       obtain ⟨h0,h1⟩:=ops hv
       generalize hX:a.eval x=X at h0
       cases h0
       obtain ⟨env',w',z',hrun,hs',hr'⟩:=append_nil (P:=P) (ty:=ty) (m:=els.length) hu hi hz hzs hs c3 hpos (src_sl h1 c2 c4) c1 hby hn
       rw [dd_true]
       exact ⟨env',w',_,z',run_append_op (by rw [hX];exact hrun),hs',hr',.inl rfl⟩
      ·cases h
     ·rename_i h2 off2 m E2
      split at h
      ·rename_i hc
       obtain ⟨rfl,c1⟩:=hc
       cases h
       intro C env fr hp D a w hs hv n hn v' hp' used he
       simp only [Eff.run] at he
       split at he
       ·rename_i r2 hr2
        split at he
        ·rename_i r' hk
         cases he
         split at hk
         ·rename_i hc2
          obtain ⟨c2,c3⟩:=hc2
          cases hk
          obtain ⟨h0,h1⟩:=ops hv
          generalize hX:a.eval x=X at h0
          cases h0
          obtain ⟨env',w',z',hrun,hs',hr'⟩:=append_nil (P:=P) (ty:=ty) (m:=m) hu hi hz hzs hs (by simp;omega) hpos (src_own hs h1 hr2 c2 c3) c1 hby hn
          rw [dd_true]
          exact ⟨env',w',_,z',run_append_op (by rw [hX];exact hrun),hs',hr',.inl rfl⟩
         ·cases hk
        ·cases he
       ·cases he
      ·cases h
     ·rename_i h1 len E
      split at h
      ·rename_i hc
       obtain ⟨rfl,c1⟩:=hc
       cases h
       intro C env fr hp D a w hs hv n hn v' hp' used he
       simp only [Eff.run] at he
       split at he
       ·rename_i r hr
        split at he
        ·rename_i r' hk
         cases he
         unfold appRow at hk
         split at hk
         ·rename_i hc2
          obtain ⟨c2,c3,c4,c5⟩:=hc2
          cases hk
          obtain ⟨h0,h1'⟩:=ops hv
          generalize hY:a.eval y=Y at h1'
          cases h1'
          obtain ⟨env',w',z',hrun,hs',hr'⟩:=append_core (P:=P) (ty:=ty) (m:=0) hu hi hz hzs hs hr h0 c2 c3 c4 hpos src_nl (by omega) hby hn
          rw [dd_true]
          exact ⟨env',w',_,z',run_append_op (by rw [hY];exact hrun),hs',hr',.inl rfl⟩
         ·cases hk
        ·cases he
       ·cases he
      ·cases h
     ·rename_i h1 len E els
      split at h
      ·rename_i hc
       obtain ⟨rfl,c1,c6⟩:=hc
       cases h
       intro C env fr hp D a w hs hv n hn v' hp' used he
       simp only [Eff.run] at he
       split at he
       ·rename_i r hr
        split at he
        ·rename_i r' hk
         cases he
         unfold appRow at hk
         split at hk
         ·rename_i hc2
          obtain ⟨c2,c3,c4,c5⟩:=hc2
          cases hk
          obtain ⟨h0,h1'⟩:=ops hv
          obtain ⟨env',w',z',hrun,hs',hr'⟩:=append_core (P:=P) (ty:=ty) (m:=els.length) hu hi hz hzs hs hr h0 c2 c3 c4 hpos (src_sl h1' c6 c5) c1 hby hn
          rw [dd_true]
          exact ⟨env',w',_,z',run_append_op hrun,hs',hr',.inl rfl⟩
         ·cases hk
        ·cases he
       ·cases he
      ·cases h
     ·rename_i h1 len E h2 off2 m E2
      split at h
      ·rename_i hc
       obtain ⟨rfl,rfl,c1⟩:=hc
       cases h
       intro C env fr hp D a w hs hv n hn v' hp' used he
       simp only [Eff.run] at he
       split at he
       ·rename_i r r2 hr hr2
        split at he
        ·rename_i r' hk
         cases he
         split at hk
         ·rename_i hle
          unfold appRow at hk
          split at hk
          ·rename_i hc2
           obtain ⟨c2,c3,c4,c5⟩:=hc2
           cases hk
           obtain ⟨h0,h1'⟩:=ops hv
           obtain ⟨env',w',z',hrun,hs',hr'⟩:=append_core (P:=P) (ty:=ty) (m:=m) hu hi hz hzs hs hr h0 c2 c3 c4 hpos (src_own hs h1' hr2 hle c5) c1 hby hn
           rw [dd_true]
           exact ⟨env',w',_,z',run_append_op hrun,hs',hr',.inl rfl⟩
          ·cases hk
         ·cases hk
        ·cases he
       ·cases he
      ·cases h
     ·cases h
    ·cases h
   ·cases h
  ·cases h
 ·cases h
def numsOf (k:IntKind):List V→Option (List Int)
 | []=>some []
 | .i k' n :: r=>if k'=k then (match numsOf k r with
  | some l=>some (n :: l)
  | none=>none) else none
 | _=>none
theorem numsOf_inv {k:IntKind}:∀ {cs:List V} {l:List Int},numsOf k cs=some l→cs=l.map (V.i k):=by
 intro cs
 induction cs with
 | nil=>intro l h;simp [numsOf] at h;subst h;rfl
 | cons c cs ih=>
  intro l h
  unfold numsOf at h
  split at h
  ·rename_i he;cases he
  ·rename_i k' n r he
   cases he
   split at h
   ·rename_i hk
    subst hk
    split at h
    ·rename_i l' hl
     cases h
     rw [ih hl]
     rfl
    ·cases h
   ·cases h
  ·cases h
theorem flatCells_i (k:IntKind)(l:List Int):flatCells (l.map (V.i k))=l.map (V.i k):=by
 induction l with
 | nil=>rfl
 | cons n l ih=>simp only [List.map_cons,flatCells,List.flatMap_cons,V.cells] at ih ⊢;rw [ih];rfl
def strOf (ns:List Int):ByteArray:=⟨(ns.map fun n=>UInt8.ofNat n.toNat).toArray⟩
theorem fold_strOf (ns:List Int):∀ s:ByteArray,ns.foldl (fun r n=>r.push (UInt8.ofNat n.toNat)) s=⟨s.data++(ns.map fun n=>UInt8.ofNat n.toNat).toArray⟩:=by
 induction ns with
 | nil=>intro s;simp
 | cons n ns ih=>
  intro s
  simp only [List.foldl_cons,ih,List.map_cons]
  congr 1
  simp [ByteArray.push]
def effConvB (P:Program) (s d:TypeId):List V→Option Eff
 | [.sl els]=>match P.underlying s,P.underlying d with
  | some (.slice e),some .string=>match P.underlying e,numsOf .u8 els with
   | some (.int .u8),some l=>if l.length<2 ^ 62 then some (.val (.s (strOf l))) else none
   | _,_=>none
  | _,_=>none
 | [.own h off len E]=>match P.underlying s,P.underlying d with
  | some (.slice e),some .string=>match P.underlying e with
   | some (.int .u8)=>if E=1∧len<2 ^ 62 then some (.rd h fun r=>if off+len≤r.cells.length then (match numsOf .u8 ((r.cells.drop off).take len) with
    | some l=>some (.s (strOf l))
    | none=>none) else none) else none
   | _=>none
  | _,_=>none
 | [.nl]=>match P.underlying s,P.underlying d with
  | some (.slice e),some .string=>match P.underlying e with
   | some (.int .u8)=>some (.val (.s (strOf [])))
   | _=>none
  | _,_=>none
 | vs=>effConv P s d vs
theorem run_b2s {P:Program} {w:World} {s d e:TypeId} (hs:P.underlying s=some (.slice e)) (hd:P.underlying d=some .string) (he:P.underlying e=some (.int .u8)) {A:Option Addr} {len cap:Nat} {l:List Int} (hl:l.length=len)
  (hA:A=none→len=0) (hc:∀ ad,A=some ad→∀ j,j<len→w.cell? (ad.add j)=some (.int .u8 (l.getD j 0))):(convert s d (.slice A len cap)).run P w=.ok (.string (strOf l)) w:=by
 rw [run_convert_bytes_string w s d e A len cap hs he hd]
 cases A with
 | none=>
  obtain rfl:=hA rfl
  have:l=[]:=List.eq_nil_of_length_eq_zero hl
  subst this
  rfl
 | some ad=>
  rw [run_bytesToString w ad len cap l,fold_strOf]
  ·simp [strOf]
  ·have:=run_loadCells (P:=P) (w:=w) ad len (fun j=>.int .u8 (l.getD j 0)) (fun j hj=>hc ad rfl j hj)
   rw [this]
   congr 1
   apply Array.ext'
   simp only [List.toList_toArray]
   apply List.ext_getElem
   ·simp [hl]
   ·intro j h1 h2
    simp at h1 h2
    simp [List.getD_eq_getElem?_getD,h2]
theorem strOf_size (l:List Int):(strOf l).size=l.length:=by simp [strOf,ByteArray.size]
theorem good_convB {P:Program} {s d ty:TypeId} {x:Operand} {vs:List V} {e:Eff} (h:effConvB P s d vs=some e):Good P (.convert s d x) ty vs e:=by
 unfold effConvB at h
 split at h
 ·rename_i els
  split at h
  ·rename_i el hs hd
   split at h
   ·rename_i l he hl
    split at h
    ·rename_i hlen
     cases h
     refine Good.pure fun F env D a w hlen hr=>?_
     have h0:Rep F w env D (a.eval x) (.sl els):=hr 0 (by simp)
     have hels:=numsOf_inv hl
     subst hels
     have hsrc:=src_sl (E:=1) h0 (by cases l<;>simp [V.cells]) (by simp [flatCells,List.all_flatMap,V.cells,V.flat])
     have hfc:=flatCells_i .u8 l
     rw [hfc] at hsrc
     obtain ⟨A,n,cap,news,hX,hnl,hnews,hn62,hA,hcells,hreps,hone⟩:=hsrc
     simp at hnl
     refine ⟨.string (strOf l),?_,.s (by rw [strOf_size];assumption)⟩
     simp only [execOp,hX]
     refine run_value (run_b2s hs hd he hnl hA fun ad had j hj=>?_)
     have hrj:=hreps j (by simp;omega)
     have e5:(l.map (V.i .u8)).getD j .junk=V.i .u8 (l.getD j 0):=by
      rw [List.getD_eq_getElem?_getD,List.getElem?_map,List.getElem?_eq_getElem (by omega),List.getD_eq_getElem?_getD,List.getElem?_eq_getElem (by omega)]
      rfl
     rw [e5] at hrj
     have:=hrj.int_inv.1
     refine hcells ad had j _ ?_
     rw [List.getD_eq_getElem?_getD] at this
     rw [List.getElem?_eq_getElem (by omega)] at this ⊢
     simp only [Option.getD_some] at this
     rw [this]
    ·cases h
   ·cases h
  ·cases h
 ·rename_i n off len E
  split at h
  ·rename_i el hs hd
   split at h
   ·rename_i he
    split at h
    ·rename_i hc
     obtain ⟨rfl,hlen⟩:=hc
     cases h
     intro C env fr hp D a w hsim hv m hm v' hp' used hrun
     simp only [Eff.run] at hrun
     split at hrun
     ·rename_i r hr
      split at hrun
      ·rename_i u hu
       cases hrun
       split at hu
       ·rename_i hle
        split at hu
        ·rename_i l hl
         cases hu
         have h0:Rep (Fd C env hp) w env D (a.eval x) (.own n off len 1):=hv.2 0 (by simp)
         have hcs:=numsOf_inv hl
         have hll:l.length=len:=by
          have:=congrArg List.length hcs
          simp at this
          omega
         rw [dd_false]
         generalize hX:a.eval x=X at h0
         have key:(convert s d X).run P w=.ok (.string (strOf l)) w:=by
          cases h0 with
          | own a1 a2 a3 a4 a5=>
           obtain ⟨c,hw,hl2,hc⟩:=good_loadRow hsim hr a2 (by obtain ⟨c,T,z,h,_⟩:=a5;exact ⟨c,T,z,h⟩)
           refine run_b2s hs hd he hll (by simp) fun ad had j hj=>?_
           cases had
           rw [add_eq,cell_row hw (by omega)]
           have hrj:=hc (off+j) (by omega)
           have e2:r.cells.getD (off+j) .junk=V.i .u8 (l.getD j 0):=by
            have:((r.cells.drop off).take len).getD j .junk=r.cells.getD (off+j) .junk:=by
             simp [List.getD_eq_getElem?_getD,List.getElem?_take,hj]
            rw [← this,hcs,List.getD_eq_getElem?_getD,List.getElem?_map,List.getElem?_eq_getElem (by omega),List.getD_eq_getElem?_getD,List.getElem?_eq_getElem (by omega)]
            rfl
           rw [e2] at hrj
           rw [hrj.int_inv.1]
          | own0 a1=>exact run_b2s hs hd he hll (fun _=>rfl) (by simp)
         refine ⟨env,w,_,.string (strOf l),?_,hsim,.s (by rw [strOf_size];omega),.inl rfl⟩
         simp only [execOp,hX]
         exact run_value key
        ·cases hu
       ·cases hu
      ·cases hrun
     ·cases hrun
    ·cases h
   ·cases h
  ·cases h
 ·split at h
  ·rename_i el hs hd
   split at h
   ·rename_i he
    cases h
    refine Good.pure fun F env D a w hlen hr=>?_
    have h0:Rep F w env D (a.eval x) .nl:=hr 0 (by simp)
    generalize hX:a.eval x=X at h0
    cases h0
    refine ⟨.string (strOf []),?_,.s (by rw [strOf_size];simp)⟩
    simp only [execOp,hX]
    exact run_value (run_b2s hs hd he rfl (fun _=>rfl) (by simp))
   ·cases h
  ·cases h
 ·exact good_conv h
def effMin:List V→Option Eff
 | [.i k x,.i _ y]=>some (.val (.i k (if y<x then y else x)))
 | _=>none
theorem good_min {P:Program} {ats:Array TypeId} {ty:TypeId} {x y:Operand} {vs:List V} {e:Eff} (h:effMin vs=some e)(hk:∀ k m k' n,vs=[.i k m,.i k' n]→k=k'):Good P (.call ⟨.builtin .min,#[x,y],ats⟩) ty vs e:=by
 unfold effMin at h
 split at h
 ·rename_i k m k' n
  obtain rfl:=hk _ _ _ _ rfl
  cases h
  refine Good.pure fun F env D a w hlen hr=>?_
  obtain ⟨e0,r0⟩:=(show Rep F w env D (a.eval x) (.i k m) from hr 0 (by simp)).int_inv
  obtain ⟨e1,r1⟩:=(show Rep F w env D (a.eval y) (.i k n) from hr 1 (by simp)).int_inv
  refine ⟨.int k (if n<m then n else m),?_,.i (by split<;>assumption)⟩
  have:(execOp a.eval ⟨none,.call ⟨.builtin .min,#[x,y],ats⟩,ty, "", #[],none⟩)=(do pure (Next.value (← Builtin.min_ ats ty #[a.eval x,a.eval y])):Sem Next):=by
   simp only [execOp,resolve,invoke,builtin,List.map_toArray,List.map_cons,List.map_nil]
   rfl
  rw [this,e0,e1]
  exact run_value rfl
 ·cases h
def effMax:List V→Option Eff
 | [.i .i64 x,.i .i64 y,.i .i64 z]=>some (.val (.i .i64 (if z > (if y > x then y else x) then z else (if y > x then y else x))))
 | _=>none
theorem good_max {P:Program} {ats:Array TypeId} {ty:TypeId} {x y z:Operand} {vs:List V} {e:Eff} (h:effMax vs=some e):Good P (.call ⟨.builtin .max,#[x,y,z],ats⟩) ty vs e:=by
 unfold effMax at h
 split at h
 ·rename_i k m n
  cases h
  refine Good.pure fun F env D a w hlen hr=>?_
  obtain ⟨e0,r0⟩:=(show Rep F w env D (a.eval x) (.i .i64 k) from hr 0 (by simp)).int_inv
  obtain ⟨e1,r1⟩:=(show Rep F w env D (a.eval y) (.i .i64 m) from hr 1 (by simp)).int_inv
  obtain ⟨e2,r2⟩:=(show Rep F w env D (a.eval z) (.i .i64 n) from hr 2 (by simp)).int_inv
  refine ⟨_,?_,.i (by split<;>first | assumption | (split<;>assumption))⟩
  have:(execOp a.eval ⟨none,.call ⟨.builtin .max,#[x,y,z],ats⟩,ty, "", #[],none⟩)=(do pure (Next.value (← Builtin.max_ ats ty #[a.eval x,a.eval y,a.eval z])):Sem Next):=by
   simp only [execOp,resolve,invoke,builtin,List.map_toArray,List.map_cons,List.map_nil]
   rfl
  rw [this,e0,e1,e2]
  exact run_value rfl
 ·cases h
def K0.eq:K0→K0→Option Bool
 | .i k a,.i k' b=>if k=k' then some (a == b) else none
 | .s a,.s b=>some (a == b)
 | _,_=>none
def K0.find (k:K0):List (K0 × K0)→Option (Option K0)
 | []=>some none
 | (a,v) :: r=>match K0.eq k a with
  | some true=>some (some v)
  | some false=>K0.find k r
  | none=>none
def K0.fits:TypeDesc→K0→Bool
 | .int _,.i _ _=>true
 | .string,.s _=>true
 | _,_=>false
def K0.of:V→Option K0
 | .i k n=>some (.i k n)
 | .s x=>some (.s x)
 | _=>none
def K0.v:K0→V
 | .i k n=>.i k n
 | .s x=>.s x
def tabOf (r:Row):Option (List (K0 × K0)):=match r.cells with
 | [.tab ks]=>some ks
 | _=>none
def zeroOf (P:Program) (t:TypeId):Option V:=match P.info? t with
 | some i=>match i.zero with
  | some z=>some (ofConst z)
  | none=>none
 | none=>none
def effMakeMap (t:TypeId) (res:Option Operand) (vs:List V):Option Eff:=match res,vs with
 | none,[]=>some (.new ⟨t,[.tab []]⟩ (fun n=>.mp n))
 | _,_=>none
def lookK (key:K0) (ok:Bool) (z:V) (r:Row):Option V:=match tabOf r with
 | some ks=>match K0.find key ks with
  | some (some v)=>some (if ok=true then .tup [v.v,.b true] else v.v)
  | some none=>some (if ok=true then .tup [z,.b false] else z)
  | none=>none
 | none=>none
def putK (key val:K0) (r:Row):Option (Row × V):=match tabOf r with
 | some ks=>match K0.find key ks with
  | some none=>some (⟨r.T,[.tab (ks++[(key,val)])]⟩,.junk)
  | _=>none
 | none=>none
def effLookup (P:Program) (t:TypeId) (ok:Bool):List V→Option Eff
 | [.mp h,kv]=>match P.underlying t,K0.of kv with
  | some (.map kt et),some key=>match P.underlying kt,zeroOf P et with
   | some kd,some z=>if K0.fits kd key=true then some (.rd h (lookK key ok z)) else none
   | _,_=>none
  | _,_=>none
 | _=>none
def effMapUpdate (P:Program) (t:TypeId):List V→Option Eff
 | [.mp h,kv,xv]=>match P.underlying t,K0.of kv,K0.of xv with
  | some (.map kt _),some key,some val=>match P.underlying kt with
   | some kd=>if K0.fits kd key=true then some (.wr h (putK key val)) else none
   | none=>none
  | _,_,_=>none
 | _=>none
theorem K0.of_rep {F:Nat→Prop} {w:World} {env:Env} {D:Nat→Prop} {x:Value} {v:V} {k:K0} (h:Rep F w env D x v)(hk:K0.of v=some k):x=k.val∧k.ok:=by
 unfold K0.of at hk
 split at hk
 ·cases hk
  exact h.int_inv
 ·cases hk
  exact h.s_inv
 ·cases hk
theorem K0.rep {F:Nat→Prop} {w:World} {env:Env} {D:Nat→Prop} (k:K0)(h:k.ok):Rep F w env D k.val k.v:=by
 cases k with
 | i k n=>exact .i h
 | s x=>exact .s h
theorem tabOf_some {r:Row} {ks:List (K0 × K0)} (h:tabOf r=some ks):r.cells=[.tab ks]:=by
 unfold tabOf at h
 split at h
 ·rename_i e;cases h;exact e
 ·cases h
theorem Rep.no_tab {F:Nat→Prop} {w:World} {env:Env} {D:Nat→Prop} {x:Value} {ks:List (K0 × K0)} (h:Rep F w env D x (.tab ks)):False:=by cases h
theorem map_row {C:Ctx} {env:Env} {fr:Nat→Option V} {hp:Nat→Option Row} {D:Nat→Prop} {a:Act} {w:World} (hs:Sim C env fr hp D a w) {h blk:Nat} {r:Row} {ks:List (K0 × K0)} (hr:hp h=some r) (he:env h=some blk) (ht:tabOf r=some ks) :
  ∃ (es:Array MapEntry) (clock:Nat),w.heap[blk]? = some (.map es clock)∧es.toList.map (fun e=>(e.key,e.val))=ks.map (fun p=>(p.1.val,p.2.val))∧∀ p ∈ ks,p.1.ok∧p.2.ok:=by
 have hc:=tabOf_some ht
 rcases (hs.row h r hr).2 with ⟨blk',c,he',hw,hl,hcc⟩ | ⟨he',_⟩ | ⟨blk',he',es,cl,ks',h1,h2,h3⟩
 ·have:=hcc 0 (by rw [hc];exact Nat.zero_lt_one)
  rw [hc] at this
  exact this.no_tab.elim
 ·rw [he] at he';cases he'
 ·rw [he] at he'
  cases he'
  rw [hc] at h2
  cases h2
  exact ⟨es,cl,h1,h3⟩
theorem sameNow_eq {kd:TypeDesc} {k a:K0} (hf:K0.fits kd k=true) {b:Bool} (h:K0.eq k a=some b):Instr.sameNow kd k.val a.val=some b:=by
 cases k<;>cases a<;>simp only [K0.eq] at h<;>try (cases h;done)
 ·cases kd<;>simp [K0.fits] at hf
  split at h
  ·rename_i e
   subst e
   cases h
   simp [Instr.sameNow,K0.val]
  ·cases h
 ·cases kd<;>simp [K0.fits] at hf
  cases h
  simp [Instr.sameNow,K0.val]
def FoundK:Option K0→Option (Nat × Value)→Prop
 | none,r=>r=none
 | some v,r=>∃ j,r=some (j,v.val)
theorem findNow_eq {kd:TypeDesc} {k:K0} (hf:K0.fits kd k=true):∀ (es:List MapEntry) (ks:List (K0 × K0)) (i:Nat) (o:Option K0),es.map (fun e=>(e.key,e.val))=ks.map (fun p=>(p.1.val,p.2.val))→K0.find k ks=some o →
  ∃ r,Instr.findNow kd k.val es i=some r∧FoundK o r
 | [],[],i,o,_,h=>by
  simp only [K0.find,Option.some.injEq] at h
  subst h
  exact ⟨none,rfl,rfl⟩
 | [],_ :: _,_,_,h,_=>by simp at h
 | _ :: _,[],_,_,h,_=>by simp at h
 | e :: es,(a,v) :: ks,i,o,h,h2=>by
  simp only [List.map_cons,List.cons.injEq,Prod.mk.injEq] at h
  obtain ⟨⟨h3,h4⟩,h5⟩:=h
  simp only [K0.find] at h2
  simp only [Instr.findNow,h3]
  cases hq:K0.eq k a with
  | none=>rw [hq] at h2;cases h2
  | some b=>
   rw [hq] at h2
   rw [sameNow_eq hf hq]
   cases b with
   | true=>
    simp only [Option.some.injEq] at h2
    subst h2
    exact ⟨_,rfl,i,by rw [h4]⟩
   | false=>exact findNow_eq hf es ks (i+1) o h5 h2
theorem run_checkK {P:Program} {w:World} {kt:TypeId} {kd:TypeDesc} {k:K0} (hk:P.underlying kt=some kd)(hf:K0.fits kd k=true)(b:Bool)(n:Nat):(Instr.checkKey b (n+1) kt k.val).run P w=.ok () w:=by
 unfold Instr.checkKey
 simp only [Sem.run_bind,r_under hk,Result.andThen_ok]
 cases k<;>cases kd<;>simp [K0.fits] at hf<;>rfl
theorem run_findK {P:Program} {w:World} {kt:TypeId} {kd:TypeDesc} {k:K0} (hk:P.underlying kt=some kd) (hf:K0.fits kd k=true) {es:List MapEntry} {ks:List (K0 × K0)} {o:Option K0} (he:es.map (fun e=>(e.key,e.val))=ks.map (fun p=>(p.1.val,p.2.val))) (ho:K0.find k ks=some o) :
  ∃ r,(Instr.findKey kt k.val es).run P w=.ok r w∧FoundK o r:=by
 obtain ⟨r,h1,h2⟩:=findNow_eq hf es ks 0 o he ho
 refine ⟨r,?_,h2⟩
 unfold Instr.findKey
 simp only [Sem.run_bind,r_under hk,Result.andThen_ok,h1]
 rfl
theorem run_getMap {P:Program} {w:World} {blk:Nat} {es:Array MapEntry} {clock:Nat} (h:w.heap[blk]? = some (.map es clock)):(getObj blk).run P w=.ok (.map es clock) w:=by
 simp [getObj,Sem.run,h]
theorem find_mem {k:K0}:∀ {ks:List (K0 × K0)} {v:K0},K0.find k ks=some (some v)→∃ a,(a,v) ∈ ks
 | [],v,h=>by simp [K0.find] at h
 | (a,u) :: ks,v,h=>by
  simp only [K0.find] at h
  split at h
  ·cases h;exact ⟨a,by simp⟩
  ·obtain ⟨b,hb⟩:=find_mem h;exact ⟨b,by simp [hb]⟩
  ·cases h
theorem good_lookup {P:Program} {t ty:TypeId} {x y:Operand} {ok:Bool} {vs:List V} {e:Eff} (h:effLookup P t ok vs=some e):Good P (.lookup t x y ok) ty vs e:=by
 unfold effLookup at h
 split at h
 ·rename_i n kv
  split at h
  ·rename_i kt et key hu hkey
   split at h
   ·rename_i kd z hkd hz
    split at h
    ·rename_i hfit
     cases h
     intro C env fr hp D a w hs hv m hm v' hp' used he
     simp only [Eff.run] at he
     split at he
     ·rename_i r hr
      split at he
      ·rename_i u hu'
       cases he
       obtain ⟨blk,e0,he',hD⟩:=(show Rep _ w env D (a.eval x) (.mp n) from hv.2 0 (by simp)).mp_inv
       obtain ⟨e1,hok1⟩:=K0.of_rep (show Rep _ w env D (a.eval y) kv from hv.2 1 (by simp)) hkey
       unfold lookK at hu'
       split at hu'
       ·rename_i ks hks
        obtain ⟨es,cl,hw,hes,hoks⟩:=map_row hs hr he' hks
        have hz2:∃ (i:TypeInfo) (zz:Value),P.info? et=some i∧i.zero=some zz∧z=ofConst zz:=by
         unfold zeroOf at hz
         split at hz
         ·rename_i i hi
          split at hz
          ·rename_i zz hzz
           cases hz
           exact ⟨i,zz,hi,hzz,rfl⟩
          ·cases hz
         ·cases hz
        obtain ⟨i,zz,hi,hzz,rfl⟩:=hz2
        have tail:∀ o:Option K0,K0.find key ks=some o→∃ xv:Value,(Instr.lookup t (a.eval x) (a.eval y) ok).run P w=.ok (if ok then .tuple #[xv,.bool o.isSome] else xv) w∧(match o with | none=>xv=zz | some q=>xv=q.val):=by
         intro o ho
         obtain ⟨rr,h1,h2⟩:=run_findK (P:=P) (w:=w) hkd hfit hes ho
         have hpu:∀ {α:Type} (v:α),(pure v:Sem α).run P w=.ok v w:=fun _=>rfl
         cases o with
         | none=>
          change rr=none at h2
          subst h2
          refine ⟨zz,?_,rfl⟩
          unfold Instr.lookup
          rw [e0,e1]
          simp only [Sem.run_bind,r_under hu,Result.andThen_ok,run_getMap hw,run_checkK hkd hfit,h1,r_zero hi hzz,hpu]
          rfl
         | some q=>
          obtain ⟨j,h2⟩:=h2
          subst h2
          refine ⟨q.val,?_,rfl⟩
          unfold Instr.lookup
          rw [e0,e1]
          simp only [Sem.run_bind,r_under hu,Result.andThen_ok,run_getMap hw,run_checkK hkd hfit,h1,hpu]
          rfl
        have fin:∀ {xv:Value} {vv:V} {b:Bool},Rep (Fd C env hp) w env D xv vv→Rep (Fd C env hp) w env D (if ok then Value.tuple #[xv,.bool b] else xv) (if ok=true then .tup [vv,.b b] else vv):=by
         intro xv vv b hx
         cases ok with
         | false=>exact hx
         | true=>
          refine .tup rfl fun k hk=>?_
          match k,hk with
          | 0,_=>exact hx
          | 1,_=>exact .b
          | k+2,hk=>exact absurd hk (by simp)
        rw [dd_false]
        split at hu'
        ·rename_i q hq
         cases hu'
         obtain ⟨xv,h1,h2⟩:=tail _ hq
         simp only at h2
         subst h2
         obtain ⟨b,hb⟩:=find_mem hq
         exact ⟨env,w,_,_,run_value h1,hs,fin (K0.rep q (hoks _ hb).2),.inl rfl⟩
        ·rename_i hq
         cases hu'
         obtain ⟨xv,h1,h2⟩:=tail _ hq
         simp only at h2
         subst h2
         exact ⟨env,w,_,_,run_value h1,hs,fin (rep_ofConst xv),.inl rfl⟩
        ·cases hu'
       ·cases hu'
      ·cases he
     ·cases he
    ·cases h
   ·cases h
  ·cases h
 ·cases h
theorem good_makeMap {P:Program} {t ty:TypeId} {res:Option Operand} {vs:List V} {e:Eff} (h:effMakeMap t res vs=some e):Good P (.makeMap t res) ty vs e:=by
 unfold effMakeMap at h
 split at h
 ·cases h
  intro C env fr hp D a w hs hv n hn v hp' used he
  simp only [Eff.run,Option.some.injEq,Prod.mk.injEq] at he
  obtain ⟨rfl,rfl,rfl⟩:=he
  rw [dd_true]
  refine ⟨upd env n (some w.heap.size),{ w with heap:=w.heap.push (.map #[] 0) },_,.map (some w.heap.size),run_value ?_,hs.newMap hn t,.mp (.inr rfl) (by rw [upd_same]),.inl rfl⟩
  rfl
 ·cases h
theorem run_setMap {P:Program} {w:World} {blk:Nat} {es:Array MapEntry} {clock:Nat} (h:w.heap[blk]? = some (.map es clock))(o:Obj):(setObj blk o).run P w=.ok () { w with heap:=w.heap.setIfInBounds blk o }:=by
 simp [setObj,Sem.run,h]
theorem good_mapUpdate {P:Program} {t ty:TypeId} {x y z:Operand} {vs:List V} {e:Eff} (h:effMapUpdate P t vs=some e):Good P (.mapUpdate t x y z) ty vs e:=by
 unfold effMapUpdate at h
 split at h
 ·rename_i n kv xv
  split at h
  ·rename_i kt et key val hu hkey hval
   split at h
   ·rename_i kd hkd
    split at h
    ·rename_i hfit
     cases h
     intro C env fr hp D a w hs hv m hm v' hp' used he
     simp only [Eff.run] at he
     split at he
     ·rename_i r hr
      split at he
      ·rename_i r' v'' hk
       cases he
       unfold putK at hk
       split at hk
       ·rename_i ks hks
        split at hk
        ·rename_i hfind
         cases hk
         obtain ⟨blk,e0,he',hD⟩:=(show Rep _ w env D (a.eval x) (.mp n) from hv.2 0 (by simp)).mp_inv
         obtain ⟨e1,hok1⟩:=K0.of_rep (show Rep _ w env D (a.eval y) kv from hv.2 1 (by simp)) hkey
         obtain ⟨e2,hok2⟩:=K0.of_rep (show Rep _ w env D (a.eval z) xv from hv.2 2 (by simp)) hval
         obtain ⟨es,cl,hw,hes,hoks⟩:=map_row hs hr he' hks
         obtain ⟨rr,h1,h2⟩:=run_findK (P:=P) (w:=w) hkd hfit hes hfind
         change rr=none at h2
         subst h2
         rw [dd_false]
         refine ⟨env,_,.skip,undef,run_skip (w':={ w with heap:=w.heap.setIfInBounds blk (.map (es.push { key:=key.val,val:=val.val,born:=cl }) (cl+1)) }) ?_,hs.writeMap (r':=⟨r.T,[.tab (ks++[(key,val)])]⟩) hr he' hw ⟨ks++[(key,val)],rfl,?_,?_⟩,.junk,.inr ⟨rfl,rfl⟩⟩
         ·unfold Instr.mapUpdate
          rw [e0,e1,e2]
          simp only [Sem.run_bind,r_under hu,Result.andThen_ok,run_getMap hw,run_checkK hkd hfit,h1,run_setMap hw]
         ·simp [hes]
         ·intro p hp
          rcases List.mem_append.1 hp with hp | hp
          ·exact hoks p hp
          ·simp only [List.mem_singleton] at hp
           subst hp
           exact ⟨hok1,hok2⟩
        ·cases hk
       ·cases hk
      ·cases he
     ·cases he
    ·cases h
   ·cases h
  ·cases h
 ·cases h
def effCall (P:Program) (c:Call) (vs:List V):Option Eff:=
 match c.callee,c.args,c.argTypes with
 | .builtin .len,⟨[_]⟩,⟨[t]⟩=>effLen P t vs
 | .builtin .append,⟨[_,_]⟩,⟨[t,t']⟩=>if t=t' then effAppend P t vs else none
 | .builtin .min,⟨[_,_]⟩,_=>match vs with
  | [.i k x,.i k' y]=>if k=k' then effMin vs else none
  | _=>none
 | .builtin .max,⟨[_,_,_]⟩,_=>effMax vs
 | _,_,_=>none
def eff (P:Program) (op:Op) (vs:List V):Option Eff:=
 match op with
 | .move _=>effMove vs
 | .assign _=>effMove vs
 | .nilCheck _=>effNil vs
 | .pick _ _ _=>effPick vs
 | .alloc t=>effAlloc P t vs
 | .box t _=>effBox t vs
 | .build t parts=>effBuild P t (parts.toList.map (·.1)) vs
 | .buildSlice t n parts=>effBuildSlice P t n (parts.toList.map (·.1)) vs
 | .load t _=>effLoad P t vs
 | .store t _ _=>effStore P t vs
 | .binOp op xt _ _ _=>effBin P op xt vs
 | .unOp op _ _=>effUn op vs
 | .convert s d _=>effConvB P s d vs
 | .makeFunc fn first _=>effMakeFunc fn first.size vs
 | .makeSlice t _ _=>effMakeSlice P t vs
 | .slice t _ lo hi mx=>effSlice P t lo.isSome hi.isSome mx.isSome vs
 | .fieldAddr t _ f=>effFieldAddr P t f vs
 | .field t _ f=>effField P t f vs
 | .indexAddr t _ _=>effIndexAddr P t vs
 | .index t _ _=>effIndex P t vs
 | .extract _ ix=>effExtract ix vs
 | .call c=>effCall P c vs
 | .makeMap t r=>effMakeMap t r vs
 | .lookup t _ _ ok=>effLookup P t ok vs
 | .mapUpdate t _ _ _=>effMapUpdate P t vs
 | _=>none
theorem good_eff {P:Program} {op:Op} {ty:TypeId} {vs:List V} {e:Eff} (h:eff P op vs=some e):Good P op ty vs e:=by
 unfold eff at h
 split at h
 ·exact good_move h
 ·exact good_assign h
 ·exact good_nil h
 ·exact good_pick h
 ·exact good_alloc h
 ·exact good_box h
 ·exact good_build h
 ·exact good_buildSlice h
 ·exact good_load h
 ·exact good_store h
 ·exact good_bin h
 ·exact good_un h
 ·exact good_convB h
 ·exact good_makeFunc h
 ·exact good_makeSlice h
 ·exact good_slice h
 ·exact good_fieldAddr h
 ·exact good_field h
 ·exact good_indexAddr h
 ·exact good_index h
 ·exact good_extract h
 ·rename_i c
  obtain ⟨callee,args,ats⟩:=c
  unfold effCall at h
  split at h
  ·rename_i h1 h2 h3
   simp only at h1 h2 h3
   subst h1 h2 h3
   exact good_len (by simp) h
  ·rename_i h1 h2 h3
   simp only at h1 h2 h3
   subst h1 h2 h3
   split at h
   ·rename_i ht
    subst ht
    exact good_append h
   ·cases h
  ·rename_i h1 h2
   simp only at h1 h2
   subst h1 h2
   split at h
   ·split at h
    ·rename_i hk
     exact good_min h (fun k m k' n he=>by cases he;exact hk)
    ·cases h
   ·cases h
  ·rename_i h1 h2
   simp only at h1 h2
   subst h1 h2
   exact good_max h
  ·cases h
 ·exact good_makeMap h
 ·exact good_lookup h
 ·exact good_mapUpdate h
 ·cases h
mutual
def V.ren (f:Nat→Nat):V→V
 | .ptr h off=>.ptr (f h) off
 | .own h off len E=>.own (f h) off len E
 | .agg cs=>.agg (V.renL f cs)
 | .tup cs=>.tup (V.renL f cs)
 | .fn g cs=>.fn g (V.renL f cs)
 | .mp h=>.mp (f h)
 | v=>v
def V.renL (f:Nat→Nat):List V→List V
 | []=>[]
 | v :: vs=>V.ren f v :: V.renL f vs
end
mutual
def V.hf:V→Bool
 | .ptr _ _=>false
 | .own _ _ _ _=>false
 | .agg cs=>V.hfL cs
 | .tup cs=>V.hfL cs
 | .fn _ cs=>V.hfL cs
 | .mp _=>false
 | _=>true
def V.hfL:List V→Bool
 | []=>true
 | v :: vs=>V.hf v && V.hfL vs
end
theorem renL_length (f:Nat→Nat)(l:List V):(V.renL f l).length=l.length:=by
 induction l with
 | nil=>rfl
 | cons v l ih=>simp [V.renL,ih]
theorem renL_getD (f:Nat→Nat)(l:List V):∀ k,(V.renL f l).getD k .junk=(l.getD k .junk).ren f:=by
 induction l with
 | nil=>intro k;simp [V.renL,V.ren]
 | cons v l ih=>
  intro k
  cases k with
  | zero=>rfl
  | succ k=>exact ih k
theorem hfL_getD {l:List V} (h:V.hfL l=true):∀ k,(l.getD k .junk).hf=true:=by
 induction l with
 | nil=>intro k;simp [V.hf]
 | cons v l ih=>
  rw [V.hfL,Bool.and_eq_true] at h
  intro k
  cases k with
  | zero=>exact h.1
  | succ k=>exact ih h.2 k
theorem Rep.ren {F:Nat→Prop} {w:World} {env:Env} {D:Nat→Prop} {x:Value} {v:V} (h:Rep F w env D x v):∀ {env':Env} {D':Nat→Prop} (f:Nat→Nat),(∀ n,D n→D' (f n)∧env' (f n)=env n)→Rep F w env' D' x (v.ren f):=by
 induction h with
 | junk=>intros;simp only [V.ren];exact .junk
 | b=>intros;simp only [V.ren];exact .b
 | i hk=>intros;simp only [V.ren];exact .i hk
 | s hs=>intros;simp only [V.ren];exact .s hs
 | nl=>intros;simp only [V.ren];exact .nl
 | sl0=>intros;simp only [V.ren];exact .sl0
 | sl y hne hc hl hF hb hE hy hr ih=>intros;simp only [V.ren];exact .sl y hne hc hl hF hb hE hy hr
 | agg hs hr ih=>
  intro env' D' f hf
  simp only [V.ren]
  refine .agg (by rw [renL_length];exact hs) fun k hk=>?_
  rw [renL_length] at hk
  rw [renL_getD]
  exact ih k hk f hf
 | tup hs hr ih=>
  intro env' D' f hf
  simp only [V.ren]
  refine .tup (by rw [renL_length];exact hs) fun k hk=>?_
  rw [renL_length] at hk
  rw [renL_getD]
  exact ih k hk f hf
 | ptr hD he hs=>
  intro env' D' f hf
  simp only [V.ren]
  exact .ptr (hf _ hD).1 ((hf _ hD).2.trans he) hs
 | mp hD he=>
  intro env' D' f hf
  simp only [V.ren]
  exact .mp (hf _ hD).1 ((hf _ hD).2.trans he)
 | rp y hF hb hy hr ih=>intros;simp only [V.ren];exact .rp y hF hb hy hr
 | own hD he hc hl hs=>
  intro env' D' f hf
  simp only [V.ren]
  exact .own (hf _ hD).1 ((hf _ hD).2.trans he) hc hl hs
 | own0 hD=>
  intro env' D' f hf
  simp only [V.ren]
  exact .own0 (hf _ hD).1
 | fn hs hr ih=>
  intro env' D' f hf
  simp only [V.ren]
  refine .fn (by rw [renL_length];exact hs) fun k hk=>?_
  rw [renL_length] at hk
  rw [renL_getD]
  exact ih k hk f hf
theorem Rep.hf {F:Nat→Prop} {w:World} {env:Env} {D:Nat→Prop} {x:Value} {v:V} (h:Rep F w env D x v):v.hf=true→∀ {env':Env} {D':Nat→Prop},Rep F w env' D' x v:=by
 induction h with
 | junk=>intros;exact .junk
 | b=>intros;exact .b
 | i hk=>intros;exact .i hk
 | s hs=>intros;exact .s hs
 | nl=>intros;exact .nl
 | sl0=>intros;exact .sl0
 | sl y hne hc hl hF hb hE hy hr ih=>intros;exact .sl y hne hc hl hF hb hE hy hr
 | agg hs hr ih=>intro hv env' D';rw [V.hf] at hv;exact .agg hs fun k hk=>ih k hk (hfL_getD hv k)
 | tup hs hr ih=>intro hv env' D';rw [V.hf] at hv;exact .tup hs fun k hk=>ih k hk (hfL_getD hv k)
 | ptr hD he hs=>intro hv;simp [V.hf] at hv
 | mp hD he=>intro hv;simp [V.hf] at hv
 | rp y hF hb hy hr ih=>intros;exact .rp y hF hb hy hr
 | own hD he hc hl hs=>intro hv;simp [V.hf] at hv
 | own0 hD=>intro hv;simp [V.hf] at hv
 | fn hs hr ih=>intro hv env' D';rw [V.hf] at hv;exact .fn hs fun k hk=>ih k hk (hfL_getD hv k)
end Go.Proofs.YteidabibgjokkaaGreatDoor.Lift
