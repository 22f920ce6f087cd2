import Derived.Test.YteidabibgjokkaaGreatDoorGA
import Derived.Deep.LoopGhost
set_option maxRecDepth 20000
set_option linter.all false
namespace Go.Proofs.YteidabibgjokkaaGreatDoor.Lift
open Go
def lkp {α:Type}:List (Nat × α)→Nat→Option α
 | [],_=>none
 | (k,x) :: r,n=>if n=k then some x else lkp r n
def dlt {α:Type}:List (Nat × α)→Nat→List (Nat × α)
 | [],_=>[]
 | (k,x) :: r,n=>if k=n then dlt r n else (k,x) :: dlt r n
def setL {α:Type}:List (Nat × α)→Nat→α→List (Nat × α)
 | [],n,y=>[(n,y)]
 | (k,x) :: r,n,y=>if k=n then (n,y) :: r else (k,x) :: setL r n y
theorem lkp_cons {α:Type} (l:List (Nat × α))(n:Nat)(x:α):lkp ((n,x) :: l)=upd (lkp l) n (some x):=by
 funext m
 simp only [lkp,upd]
theorem lkp_dlt {α:Type} (l:List (Nat × α))(n:Nat):lkp (dlt l n)=upd (lkp l) n none:=by
 funext m
 induction l with
 | nil=>simp [dlt,lkp,upd]
 | cons p l ih=>
  obtain ⟨k,x⟩:=p
  simp only [dlt]
  by_cases e:k=n
  ·subst e
   rw [if_pos rfl,ih]
   unfold upd
   by_cases e2:m=k
   ·simp [e2]
   ·simp [e2,lkp]
  ·rw [if_neg e]
   simp only [lkp,ih]
   unfold upd
   by_cases e2:m=k
   ·subst e2;simp [e]
   ·simp [e2]
theorem lkp_set {α:Type} (l:List (Nat × α))(n:Nat)(x:α):lkp (setL l n x)=upd (lkp l) n (some x):=by
 funext m
 induction l with
 | nil=>simp [setL,lkp,upd]
 | cons p l ih=>
  obtain ⟨k,y⟩:=p
  simp only [setL]
  by_cases e:k=n
  ·subst e
   rw [if_pos rfl]
   simp only [lkp]
   unfold upd
   by_cases e2:m=k
   ·simp [e2]
   ·simp [e2]
  ·rw [if_neg e]
   simp only [lkp,ih]
   unfold upd
   by_cases e2:m=k
   ·subst e2;simp [e]
   ·simp [e2]
def chunks (E len:Nat) (cs:List V):List V:=if E=1 then cs else (List.range len).map fun j=>.agg ((cs.drop (j*E)).take E)
theorem chunks_one (len:Nat)(cs:List V):chunks 1 len cs=cs:=by simp [chunks]
theorem rep_chunks {F:Nat→Prop} {w:World} {env:Env} {D:Nat→Prop} {blk off len cap E:Nat} {c:Array Value} {T:TypeId} {z:Nat × Nat} {cs:List V} (hw:w.heap[blk]? = some (.cells c T z)) (hF:¬ F blk) (hE:0<E) (hlen:cs.length=len*E)
  (hsz:off+len*E≤c.size) (hcap:len≤cap) (h62:len<2 ^ 62) (hflat:cs.all V.flat=true) (hr:∀ k,k<cs.length→Rep F w (fun _=>none) (fun _=>False) (c.getD (off+k) undef) (cs.getD k .junk)) :
  Rep F w env D (.slice (some ⟨blk,off,none⟩) len cap) (.sl (chunks E len cs)):=by
 by_cases h0:len=0
 ·subst h0
  have:chunks E 0 cs=[]:=by
   unfold chunks
   split
   ·exact List.eq_nil_of_length_eq_zero (by simpa using hlen)
   ·rfl
  rw [this]
  exact .sl0
 ·have hl:(chunks E len cs).length=len:=by
   unfold chunks
   split
   ·rename_i h1;subst h1;simpa using hlen
   ·simp
  have hget:∀ j,j<len→(chunks E len cs).getD j .junk=if E=1 then cs.getD j .junk else .agg ((cs.drop (j*E)).take E):=by
   intro j hj
   unfold chunks
   split
   ·rfl
   ·simp [List.getD_eq_getElem?_getD,hj]
  have hfl:∀ v ∈ cs,v.cells=[v]:=by
   intro v hv
   rw [List.all_eq_true] at hflat
   have:=hflat v hv
   cases v<;>first | rfl | (simp [V.flat] at this)
  have hcell:∀ j k,j<len→k<E→(((chunks E len cs).getD j .junk).cells).getD k .junk=cs.getD (j*E+k) .junk:=by
   intro j k hj hk
   have hjk:j*E+k<cs.length:=by
    have h1:(j+1)*E≤len*E:=Nat.mul_le_mul_right _ hj
    rw [Nat.succ_mul] at h1
    omega
   rw [hget j hj]
   split
   ·rename_i h1
    subst h1
    obtain rfl:k=0:=by omega
    rw [hfl _ (getD_mem (by omega))]
    simp
   ·show ((cs.drop (j*E)).take E).getD k .junk=_
    simp [List.getD_eq_getElem?_getD,List.getElem?_take,hk]
  rw [show Value.slice (some ⟨blk,off,none⟩) len cap=Value.slice (some ⟨blk,off,none⟩) (chunks E len cs).length cap by rw [hl]]
  refine .sl (E:=E) (fun k=>c.getD (off+k) undef) (by intro h;rw [h] at hl;simp at hl;omega) (by omega) (by omega) hF (lt_of_heap hw) ?_ ?_ ?_
  ·intro e he
   obtain ⟨j,hj,rfl⟩:=List.getElem_of_mem he
   have hj':j<len:=by omega
   have:(chunks E len cs)[j]=(chunks E len cs).getD j .junk:=by simp [List.getD_eq_getElem?_getD,hj]
   rw [this,hget j hj']
   split
   ·rename_i h1
    subst h1
    rw [hfl _ (getD_mem (by omega))]
    rfl
   ·show ((cs.drop (j*E)).take E).length=E
    have h1:(j+1)*E≤len*E:=Nat.mul_le_mul_right _ hj'
    rw [Nat.succ_mul] at h1
    simp
    omega
  ·intro k hk
   rw [hl] at hk
   exact cell_row hw (by omega)
  ·intro j k hj hk
   rw [hl] at hj
   rw [hcell j k hj hk]
   refine hr _ ?_
   have h1:(j+1)*E≤len*E:=Nat.mul_le_mul_right _ hj
   rw [Nat.succ_mul] at h1
   omega
mutual
def frz (keep:List Nat):V→List (Nat × Row)→Option (V × List (Nat × Row))
 | .own h off len E,hp=>if h ∈ keep then some (.own h off len E,hp) else
   match lkp hp h with
   | some r=>if 0<E∧off+len*E≤r.cells.length∧((r.cells.drop off).take (len*E)).all V.flat=true∧V.hfL ((r.cells.drop off).take (len*E))=true then
     some (.sl (chunks E len ((r.cells.drop off).take (len*E))),dlt hp h) else none
   | none=>none
 | .agg cs,hp=>match frzL keep cs hp with
  | some (cs',hp')=>some (.agg cs',hp')
  | none=>none
 | .tup cs,hp=>match frzL keep cs hp with
  | some (cs',hp')=>some (.tup cs',hp')
  | none=>none
 | .nl,hp=>some (.sl [],hp)
 | v,hp=>some (v,hp)
def frzL (keep:List Nat):List V→List (Nat × Row)→Option (List V × List (Nat × Row))
 | [],hp=>some ([],hp)
 | v :: vs,hp=>match frz keep v hp with
  | some (v',hp')=>match frzL keep vs hp' with
   | some (vs',hp'')=>some (v' :: vs',hp'')
   | none=>none
  | none=>none
end
theorem Rep.sub {F F':Nat→Prop} {w:World} {env:Env} {D:Nat→Prop} {x:Value} {v:V} (h:Rep F w env D x v)(hF:∀ b,F' b→F b):Rep F' w env D x v:=
 h.mono (fun b _ hn=>⟨fun h=>hn (hF b h),rfl⟩) (fun _ c _ _ h=>⟨c,rfl,h⟩) (Nat.le_refl _) (fun _ hD=>⟨hD,rfl⟩)
theorem Fd.drop {C:Ctx} {env:Env} {hp:Nat→Option Row} {n b:Nat} (h:Fd C env (upd hp n none) b):Fd C env hp b:=by
 rcases h with ho | ⟨m,hm,he⟩
 ·exact .inl ho
 ·refine .inr ⟨m,?_,he⟩
  by_cases e:m=n
  ·subst e;simp at hm
  ·rwa [upd_ne _ _ e] at hm
theorem frz_own {C:Ctx} {env:Env} {fr:Nat→Option V} {hp:List (Nat × Row)} {D:Nat→Prop} {a:Act} {w:World} (hs:Sim C env fr (lkp hp) D a w) {h off len E:Nat} {r:Row} (hr:lkp hp h=some r) (hE:0<E) (hle:off+len*E≤r.cells.length)
  (hflat:((r.cells.drop off).take (len*E)).all V.flat=true) (hhf:V.hfL ((r.cells.drop off).take (len*E))=true) {x:Value} (hx:Rep (Fd C env (lkp hp)) w env D x (.own h off len E)) :
  Rep (Fd C env (lkp (dlt hp h))) w env D x (.sl (chunks E len ((r.cells.drop off).take (len*E)))):=by
 rw [lkp_dlt]
 cases hx with
 | own a1 a2 a3 a4 a5=>
  rename_i cap blk
  obtain ⟨c,hw,hl,hc⟩:=good_loadRow hs hr a2 (by obtain ⟨c,T,z,h,_⟩:=a5;exact ⟨c,T,z,h⟩)
  have hsome:(lkp hp h).isSome=true:=by simp [hr]
  have hnF:¬ Fd C env (upd (lkp hp) h none) blk:=by
   rintro (ho | ⟨m,hm,he⟩)
   ·exact (hs.old h blk hsome a2).1 ho
   ·by_cases e:m=h
    ·subst e;simp at hm
    ·rw [upd_ne _ _ e] at hm
     exact e (hs.inj m h blk hm hsome he a2)
  refine rep_chunks hw hnF hE (by simp;omega) (by omega) a3 a4 hflat fun k hk=>?_
  have hk':k<len*E:=by simp at hk;omega
  have e2:((r.cells.drop off).take (len*E)).getD k .junk=r.cells.getD (off+k) .junk:=by
   simp [List.getD_eq_getElem?_getD,List.getElem?_take,hk']
  have h3:=hfL_getD hhf k
  rw [e2] at h3 ⊢
  exact ((hc (off+k) (by omega)).hf h3).sub (fun b=>Fd.drop)
 | own0 a1=>
  have:chunks E 0 ((r.cells.drop 0).take (0*E))=[]:=by
   unfold chunks
   split<;>simp
  rw [this]
  exact .sl0
mutual
theorem frz_sound {C:Ctx} {env:Env} {fr:Nat→Option V} {D:Nat→Prop} {a:Act} {w:World} (keep:List Nat):∀ (v:V) (hp:List (Nat × Row)) {v':V} {hp':List (Nat × Row)},frz keep v hp=some (v',hp')→Sim C env fr (lkp hp) D a w →
  Sim C env fr (lkp hp') D a w∧(∀ b,Fd C env (lkp hp') b→Fd C env (lkp hp) b)∧∀ x,Rep (Fd C env (lkp hp)) w env D x v→Rep (Fd C env (lkp hp')) w env D x v'
 | .own h off len E,hp,v',hp',hf,hs=>by
  simp only [frz] at hf
  split at hf
  ·cases hf;exact ⟨hs,fun _ h=>h,fun _ h=>h⟩
  ·split at hf
   ·rename_i r hr
    split at hf
    ·rename_i hc
     obtain ⟨c1,c2,c3,c4⟩:=hc
     cases hf
     refine ⟨by rw [lkp_dlt];exact hs.drop h,fun b hb=>by rw [lkp_dlt] at hb;exact Fd.drop hb,fun x hx=>frz_own hs hr c1 c2 c3 c4 hx⟩
    ·cases hf
   ·cases hf
 | .agg cs,hp,v',hp',hf,hs=>by
  simp only [frz] at hf
  split at hf
  ·rename_i cs' hp1 hcs
   cases hf
   obtain ⟨h1,h2,h3,h4⟩:=frzL_sound keep cs hp hcs hs
   refine ⟨h1,h2,fun x hx=>?_⟩
   obtain ⟨xs,rfl,hsz,hr⟩:=hx.agg_inv
   exact .agg (by omega) (fun k hk=>h4 xs (by omega) hr k hk)
  ·cases hf
 | .tup cs,hp,v',hp',hf,hs=>by
  simp only [frz] at hf
  split at hf
  ·rename_i cs' hp1 hcs
   cases hf
   obtain ⟨h1,h2,h3,h4⟩:=frzL_sound keep cs hp hcs hs
   refine ⟨h1,h2,fun x hx=>?_⟩
   obtain ⟨xs,rfl,hsz,hr⟩:=hx.tup_inv
   exact .tup (by omega) (fun k hk=>h4 xs (by omega) hr k hk)
  ·cases hf
 | .junk,hp,v',hp',hf,hs=>by simp only [frz] at hf;cases hf;exact ⟨hs,fun _ h=>h,fun _ h=>h⟩
 | .b _,hp,v',hp',hf,hs=>by simp only [frz] at hf;cases hf;exact ⟨hs,fun _ h=>h,fun _ h=>h⟩
 | .i _ _,hp,v',hp',hf,hs=>by simp only [frz] at hf;cases hf;exact ⟨hs,fun _ h=>h,fun _ h=>h⟩
 | .s _,hp,v',hp',hf,hs=>by simp only [frz] at hf;cases hf;exact ⟨hs,fun _ h=>h,fun _ h=>h⟩
 | .nl,hp,v',hp',hf,hs=>by
  simp only [frz] at hf
  cases hf
  refine ⟨hs,fun _ h=>h,fun x hx=>?_⟩
  cases hx
  exact .sl0
 | .sl _,hp,v',hp',hf,hs=>by simp only [frz] at hf;cases hf;exact ⟨hs,fun _ h=>h,fun _ h=>h⟩
 | .ptr _ _,hp,v',hp',hf,hs=>by simp only [frz] at hf;cases hf;exact ⟨hs,fun _ h=>h,fun _ h=>h⟩
 | .rp _,hp,v',hp',hf,hs=>by simp only [frz] at hf;cases hf;exact ⟨hs,fun _ h=>h,fun _ h=>h⟩
 | .fn _ _,hp,v',hp',hf,hs=>by simp only [frz] at hf;cases hf;exact ⟨hs,fun _ h=>h,fun _ h=>h⟩
 | .mp _,hp,v',hp',hf,hs=>by simp only [frz] at hf;cases hf;exact ⟨hs,fun _ h=>h,fun _ h=>h⟩
 | .tab _,hp,v',hp',hf,hs=>by simp only [frz] at hf;cases hf;exact ⟨hs,fun _ h=>h,fun _ h=>h⟩
theorem frzL_sound {C:Ctx} {env:Env} {fr:Nat→Option V} {D:Nat→Prop} {a:Act} {w:World} (keep:List Nat):∀ (vs:List V) (hp:List (Nat × Row)) {vs':List V} {hp':List (Nat × Row)},frzL keep vs hp=some (vs',hp')→Sim C env fr (lkp hp) D a w →
  Sim C env fr (lkp hp') D a w∧(∀ b,Fd C env (lkp hp') b→Fd C env (lkp hp) b)∧vs'.length=vs.length ∧
   ∀ (xs:Array Value),xs.size=vs.length→(∀ k,k<vs.length→Rep (Fd C env (lkp hp)) w env D (xs.getD k undef) (vs.getD k .junk))→∀ k,k<vs'.length→Rep (Fd C env (lkp hp')) w env D (xs.getD k undef) (vs'.getD k .junk)
 | [],hp,vs',hp',hf,hs=>by
  simp only [frzL] at hf
  cases hf
  exact ⟨hs,fun _ h=>h,rfl,fun xs _ _ k hk=>by simp at hk⟩
 | v :: vs,hp,vs',hp',hf,hs=>by
  simp only [frzL] at hf
  split at hf
  ·rename_i v1 hp1 h1
   split at hf
   ·rename_i vs1 hp2 h2
    cases hf
    obtain ⟨s1,f1,r1⟩:=frz_sound keep v hp h1 hs
    obtain ⟨s2,f2,l2,r2⟩:=frzL_sound keep vs hp1 h2 s1
    refine ⟨s2,fun b hb=>f1 b (f2 b hb),by simp [l2],fun xs hsz hr k hk=>?_⟩
    cases k with
    | zero=>
     have:=r1 _ (hr 0 (by simp))
     exact this.sub f2
    | succ k=>
     simp only [List.getD_cons_succ]
     have:=r2 (xs.extract 1 xs.size) (by simp [hsz]) (fun j hj=>by
      have h3:=hr (j+1) (by simp;omega)
      simp only [List.getD_cons_succ] at h3
      have e:(xs.extract 1 xs.size).getD j undef=xs.getD (j+1) undef:=by
       rw [Array.getD_eq_getD_getElem?,Array.getD_eq_getD_getElem?,Array.getElem?_extract]
       simp only [List.length_cons] at hsz
       rw [if_pos (by omega),Nat.add_comm]
      rw [e]
      exact h3.sub f1) k (by simpa using hk)
     have e:(xs.extract 1 xs.size).getD k undef=xs.getD (k+1) undef:=by
      rw [Array.getD_eq_getD_getElem?,Array.getD_eq_getD_getElem?,Array.getElem?_extract]
      simp only [List.length_cons] at hsz hk
      rw [if_pos (by omega),Nat.add_comm]
     rw [e] at this
     exact this
   ·cases hf
  ·cases hf
end
def PFd (O:Nat→Prop) (rows:List Row) (env:Env) (b:Nat):Prop:=O b∨∃ h,h<rows.length∧env h=some b
def Came (O:Nat→Prop) (w w':World) (x:Value) (r:V) (rows:List Row):Prop:=
 Step (fun _=>False) w w'∧∃ env:Env,
  (∀ h q,rows[h]? = some q→RowAt (PFd O rows env) w' env (· < rows.length) h q) ∧
  (∀ h b,h<rows.length→env h=some b→w.heap.size≤b) ∧
  (∀ h h' b,h<rows.length→h' < rows.length→env h=some b→env h'=some b→h=h') ∧
  Rep (PFd O rows env) w' env (· < rows.length) x r
def PCall (P:Program) (f:FuncId) (args:List V) (r:V) (rows:List Row):Prop:=
 (∀ xs w,(callFunc f xs).run P w=.ok (.enter f xs) w) ∧
 ∀ (O:Nat→Prop) (w:World) (xs:Array Value),(∀ b,O b→b<w.heap.size)→xs.size=args.length→(∀ k,k<args.length→Rep O w (fun _=>none) (fun _=>False) (xs.getD k undef) (args.getD k .junk)) →
  Calls P f xs w (fun e w'=>∃ x,e=.returned x∧Came O w w' x r rows)
def Row.ren (f:Nat→Nat) (r:Row):Row:=⟨r.T,V.renL f r.cells⟩
theorem Sim.join {C:Ctx} {env:Env} {fr:Nat→Option V} {hp:Nat→Option Row} {D:Nat→Prop} {a:Act} {w w':World} (h:Sim C env fr hp D a w) {x:Value} {r:V} {rows:List Row} (hc:Came (Fd C env hp) w w' x r rows) {n:Nat} (hn:∀ j,j<rows.length→¬ D (n+j)) :
  ∃ env',Sim C env' fr (fun m=>if n≤m∧m<n+rows.length then (rows[m-n]?).map (Row.ren (n+·)) else hp m) (fun m=>D m∨(n≤m∧m<n+rows.length)) a w' ∧
   Rep (Fd C env' (fun m=>if n≤m∧m<n+rows.length then (rows[m-n]?).map (Row.ren (n+·)) else hp m)) w' env' (fun m=>D m∨(n≤m∧m<n+rows.length)) x (r.ren (n+·)):=by
 obtain ⟨hs,e1,hrow,hnew,hinj,hrep⟩:=hc
 have hout:∀ m,D m→¬ (n≤m∧m<n+rows.length):=fun m hm hin=>hn (m-n) (by omega) (by rw [show n+(m-n)=m by omega];exact hm)
 have hhp:∀ m,(hp m).isSome=true→D m:=fun m hm=>by
  obtain ⟨q,hq⟩:=Option.isSome_iff_exists.1 hm
  exact (h.row m q hq).1
 let env':Env:=fun m=>if n≤m∧m<n+rows.length then e1 (m-n) else env m
 let hp':Nat→Option Row:=fun m=>if n≤m∧m<n+rows.length then (rows[m-n]?).map (Row.ren (n+·)) else hp m
 let D':Nat→Prop:=fun m=>D m∨(n≤m∧m<n+rows.length)
 have envOut:∀ m,¬ (n≤m∧m<n+rows.length)→env' m=env m:=fun m hm=>if_neg hm
 have envIn:∀ j,j<rows.length→env' (n+j)=e1 j:=fun j hj=>by
  show (if n≤n+j∧n+j<n+rows.length then e1 (n+j-n) else env (n+j))=e1 j
  rw [if_pos ⟨by omega,by omega⟩,show n+j-n=j by omega]
 have hpOut:∀ m,¬ (n≤m∧m<n+rows.length)→hp' m=hp m:=fun m hm=>if_neg hm
 have hpIn:∀ j,j<rows.length→hp' (n+j)=(rows[j]?).map (Row.ren (n+·)):=fun j hj=>by
  show (if n≤n+j∧n+j<n+rows.length then (rows[n+j-n]?).map (Row.ren (n+·)) else hp (n+j))=_
  rw [if_pos ⟨by omega,by omega⟩,show n+j-n=j by omega]
 have hFd:∀ b,Fd C env' hp' b→PFd (Fd C env hp) rows e1 b:=by
  rintro b (ho | ⟨m,hm,he⟩)
  ·exact .inl (.inl ho)
  ·by_cases hin:n≤m∧m<n+rows.length
   ·obtain ⟨j,rfl⟩:∃ j,m=n+j:=⟨m-n,by omega⟩
    rw [envIn j (by omega)] at he
    exact .inr ⟨j,by omega,he⟩
   ·rw [hpOut m hin] at hm
    rw [envOut m hin] at he
    exact .inl (.inr ⟨m,hm,he⟩)
 have lift:∀ {x:Value} {v:V},Rep (Fd C env hp) w env D x v→Rep (Fd C env' hp') w' env' D' x v:=by
  intro x v hx
  refine hx.mono (fun b hb hF=>⟨fun hF'=>?_,hs.keep b hb (fun f=>f)⟩) hs.shape hs.size (fun m hm=>⟨.inl hm,envOut m (hout m hm)⟩)
  rcases hFd b hF' with h1 | ⟨j,hj,he⟩
  ·exact hF h1
  ·exact absurd hb (Nat.not_lt.2 (hnew j b hj he))
 have liftN:∀ {x:Value} {v:V},Rep (PFd (Fd C env hp) rows e1) w' e1 (· < rows.length) x v→Rep (Fd C env' hp') w' env' D' x (v.ren (n+·)):=by
  intro x v hx
  exact (hx.sub hFd).ren (n+·) (fun j hj=>⟨.inr ⟨by omega,by omega⟩,envIn j hj⟩)
 refine ⟨env',?_,liftN hrep⟩
 exact {
  sz:=h.sz
  df:=h.df
  tm:=fun t v ht=>⟨(h.tm t v ht).1,lift (h.tm t v ht).2⟩
  row:=by
   intro m q hq
   have hq':hp' m=some q:=hq
   by_cases hin:n≤m∧m<n+rows.length
   ·refine ⟨.inr hin,?_⟩
    obtain ⟨j,rfl⟩:∃ j,m=n+j:=⟨m-n,by omega⟩
    have hj:j<rows.length:=by omega
    rw [hpIn j hj] at hq'
    cases hrj:rows[j]? with
    | none=>rw [hrj] at hq';cases hq'
    | some q0=>
     rw [hrj] at hq'
     cases hq'
     rcases hrow j q0 hrj with ⟨blk,c,he,hw,hl,hc⟩ | ⟨he,hv⟩ | ⟨blk,he,es,cl,ks,t1,t2,t3⟩
     ·refine .inl ⟨blk,c,(envIn j hj).trans he,hw,by simp only [Row.ren,renL_length];exact hl,fun k hk=>?_⟩
      simp only [Row.ren,renL_length] at hk
      show Rep _ _ _ _ _ ((V.renL (n+·) q0.cells).getD k .junk)
      rw [renL_getD]
      exact liftN (hc k hk)
     ·exact .inr (.inl ⟨(envIn j hj).trans he,by simp [Row.ren,hv,V.renL]⟩)
     ·exact .inr (.inr ⟨blk,(envIn j hj).trans he,es,cl,ks,t1,by simp [Row.ren,t2,V.renL,V.ren],t3⟩)
   ·rw [hpOut m hin] at hq'
    refine ⟨.inl (h.row m q hq').1,?_⟩
    rcases (h.row m q hq').2 with ⟨blk,c,he,hw,hl,hc⟩ | ⟨he,hv⟩ | ⟨blk,he,ht⟩
    ·exact .inl ⟨blk,c,(envOut m hin).trans he,(hs.keep blk (lt_of_heap hw) (fun f=>f)).trans hw,hl,fun k hk=>lift (hc k hk)⟩
    ·exact .inr (.inl ⟨(envOut m hin).trans he,hv⟩)
    ·exact .inr (.inr ⟨blk,(envOut m hin).trans he,ht.keep fun hb=>hs.keep blk hb fun f=>f⟩)
  old:=by
   intro m b hm he
   by_cases hin:n≤m∧m<n+rows.length
   ·obtain ⟨j,rfl⟩:∃ j,m=n+j:=⟨m-n,by omega⟩
    have hj:j<rows.length:=by omega
    have hb:=hnew j b hj ((envIn j hj).symm.trans he)
    exact ⟨fun ho=>absurd (Nat.lt_of_lt_of_le (h.ob b ho).1 h.st.size) (Nat.not_lt.2 hb),.inl (Nat.le_trans h.st.size hb)⟩
   ·have hm':(hp' m).isSome=true:=hm
    rw [hpOut m hin] at hm'
    exact h.old m b hm' ((envOut m hin).symm.trans he)
  inj:=by
   intro m m' b hm hm' he he'
   have hm1:(hp' m).isSome=true:=hm
   have hm1':(hp' m').isSome=true:=hm'
   by_cases hin:n≤m∧m<n+rows.length
   ·obtain ⟨j,rfl⟩:∃ j,m=n+j:=⟨m-n,by omega⟩
    have hj:j<rows.length:=by omega
    have hb:=hnew j b hj ((envIn j hj).symm.trans he)
    by_cases hin':n≤m'∧m' < n+rows.length
    ·obtain ⟨j',rfl⟩:∃ j,m'=n+j:=⟨m' - n,by omega⟩
     have hj':j' < rows.length:=by omega
     rw [hinj j j' b hj hj' ((envIn j hj).symm.trans he) ((envIn j' hj').symm.trans he')]
    ·rw [hpOut m' hin'] at hm1'
     exact absurd (h.fd_lt (.inr ⟨m',hm1',(envOut m' hin').symm.trans he'⟩)) (Nat.not_lt.2 hb)
   ·rw [hpOut m hin] at hm1
    by_cases hin':n≤m'∧m' < n+rows.length
    ·obtain ⟨j',rfl⟩:∃ j,m'=n+j:=⟨m' - n,by omega⟩
     have hj':j' < rows.length:=by omega
     have hb:=hnew j' b hj' ((envIn j' hj').symm.trans he')
     exact absurd (h.fd_lt (.inr ⟨m,hm1,(envOut m hin).symm.trans he⟩)) (Nat.not_lt.2 hb)
    ·rw [hpOut m' hin'] at hm1'
     exact h.inj m m' b hm1 hm1' ((envOut m hin).symm.trans he) ((envOut m' hin').symm.trans he')
  st:=h.st.trans hs (fun _ _ f=>f.elim)
  ob:=h.ob
  gv:=fun m hm=>⟨.inl (h.gv m hm).1,(envOut m (hout m (h.gv m hm).1)).trans (h.gv m hm).2⟩ }
structure St where
 fr:List (Nat × V)
 hp:List (Nat × Row)
 nx:Nat
abbrev SimS (C:Ctx) (env:Env) (st:St) (a:Act) (w:World):Prop:=Sim C env (lkp st.fr) (lkp st.hp) (· < st.nx) a w
abbrev Specs:=FuncId→List V→Option (V × List Row)
def valOf (fr:List (Nat × V)):Operand→Option V
 | .tmp t=>lkp fr t
 | .const v=>some (ofConst v)
 | .func f=>some (.fn f [])
 | .global _=>none
def valsOf (fr:List (Nat × V)):List Operand→Option (List V)
 | []=>some []
 | x :: xs=>match valOf fr x with
  | some v=>match valsOf fr xs with
   | some vs=>some (v :: vs)
   | none=>none
  | none=>none
theorem valOf_sound {C:Ctx} {env:Env} {st:St} {a:Act} {w:World} (hs:SimS C env st a w) {x:Operand} {v:V} (h:valOf st.fr x=some v):Rep (Fd C env (lkp st.hp)) w env (· < st.nx) (a.eval x) v:=by
 cases x with
 | tmp t=>exact (hs.tm t v h).2
 | const c=>simp only [valOf,Option.some.injEq] at h;subst h;exact rep_ofConst c
 | func f=>simp only [valOf,Option.some.injEq] at h;subst h;exact .fn rfl (fun k hk=>by simp at hk)
 | global g=>simp [valOf] at h
theorem valsOf_sound {C:Ctx} {env:Env} {st:St} {a:Act} {w:World} (hs:SimS C env st a w):∀ {xs:List Operand} {vs:List V},valsOf st.fr xs=some vs→vs.length=xs.length∧∀ j,j<vs.length→Rep (Fd C env (lkp st.hp)) w env (· < st.nx) (a.eval (xs.getD j (.const undef))) (vs.getD j .junk):=by
 intro xs
 induction xs with
 | nil=>intro vs h;simp [valsOf] at h;subst h;exact ⟨rfl,fun j hj=>by simp at hj⟩
 | cons x xs ih=>
  intro vs h
  simp only [valsOf] at h
  split at h
  ·rename_i v hv
   split at h
   ·rename_i vs' hvs
    cases h
    obtain ⟨h1,h2⟩:=ih hvs
    refine ⟨by simp [h1],fun j hj=>?_⟩
    cases j with
    | zero=>exact valOf_sound hs hv
    | succ j=>exact h2 j (by simpa using hj)
   ·cases h
  ·cases h
def Eff.runL (n:Nat) (hp:List (Nat × Row)):Eff→Option (V × List (Nat × Row) × Bool)
 | .val v=>some (v,hp,false)
 | .rd h k=>match lkp hp h with
  | some r=>match k r with
   | some v=>some (v,hp,false)
   | none=>none
  | none=>none
 | .new r mk=>some (mk n,(n,r) :: hp,true)
 | .wr h k=>match lkp hp h with
  | some r=>match k r with
   | some (r',v)=>some (v,setL hp h r',false)
   | none=>none
  | none=>none
 | .wr2 h h2 k=>match lkp hp h,lkp hp h2 with
  | some r,some r2=>match k r r2 with
   | some (r',v)=>some (v,setL hp h r',false)
   | none=>none
  | _,_=>none
 | .grow h k mk=>match lkp hp h with
  | some r=>match k r with
   | some r'=>some (mk n,(n,r') :: dlt hp h,true)
   | none=>none
  | none=>none
 | .grow2 h h2 k mk=>match lkp hp h,lkp hp h2 with
  | some r,some r2=>match k r r2 with
   | some r'=>some (mk n,(n,r') :: dlt hp h,true)
   | none=>none
  | _,_=>none
 | .new2 h2 k mk=>match lkp hp h2 with
  | some r2=>match k r2 with
   | some r'=>some (mk n,(n,r') :: hp,true)
   | none=>none
  | none=>none
theorem runL_run {e:Eff} {n:Nat} {hp hp':List (Nat × Row)} {v:V} {u:Bool} (h:e.runL n hp=some (v,hp',u)):e.run n (lkp hp)=some (v,lkp hp',u):=by
 cases e<;>simp only [Eff.runL] at h<;>simp only [Eff.run]
 case val=>cases h;rfl
 case rd=>split at h<;>(try cases h;done) ; split at h<;>(try cases h;done) ; cases h;simp [*]
 case new=>cases h;rw [lkp_cons]
 case wr=>split at h<;>(try cases h;done) ; split at h<;>(try cases h;done) ; cases h;simp [*,lkp_set]
 case wr2=>split at h<;>(try cases h;done) ; split at h<;>(try cases h;done) ; cases h;simp [*,lkp_set]
 case grow=>split at h<;>(try cases h;done) ; split at h<;>(try cases h;done) ; cases h;simp [*,lkp_cons,lkp_dlt]
 case grow2=>split at h<;>(try cases h;done) ; split at h<;>(try cases h;done) ; cases h;simp [*,lkp_cons,lkp_dlt]
 case new2=>split at h<;>(try cases h;done) ; split at h<;>(try cases h;done) ; cases h;simp [*,lkp_cons]
def plain1:V→Bool
 | .b _ | .i _ _ | .s _=>true
 | _=>false
def plainV:V→Bool
 | .tup l=>l.all plain1
 | v=>plain1 v
theorem plain1_rep {F F':Nat→Prop} {w w':World} {env env':Env} {D D':Nat→Prop} {x:Value} {v:V} (h:Rep F w env D x v)(hp:plain1 v=true):Rep F' w' env' D' x v:=by
 cases h<;>first
  | (simp [plain1] at hp;done)
  | exact .b
  | (rename_i h;exact .i h)
  | (rename_i h;exact .s h)
theorem plain_rep {F F':Nat→Prop} {w w':World} {env env':Env} {D D':Nat→Prop} {x:Value} {v:V} (h:Rep F w env D x v)(hp:plainV v=true):Rep F' w' env' D' x v:=by
 cases v<;>simp only [plainV] at hp<;>first
  | exact plain1_rep h hp
  | (rename_i l;obtain ⟨xs,rfl,hsz,hr⟩:=h.tup_inv;refine .tup hsz fun k hk=>plain1_rep (hr k hk) ?_;rw [List.all_eq_true] at hp;exact hp _ (getD_mem hk))
def namedRows (base:Nat):Nat→List Row→List (Nat × Row)
 | _,[]=>[]
 | n,q :: qs=>(n,q.ren (base+·)) :: namedRows base (n+1) qs
theorem look_named (base:Nat)(hp:List (Nat × Row)):∀ (rows:List Row) (n m:Nat),lkp (namedRows base n rows++hp) m=if n≤m∧m<n+rows.length then (rows[m-n]?).map (Row.ren (base+·)) else lkp hp m:=by
 intro rows
 induction rows with
 | nil=>intro n m;rw [if_neg (by simp)];rfl
 | cons q rows ih=>
  intro n m
  simp only [namedRows,List.cons_append,lkp]
  by_cases e:m=n
  ·subst e
   rw [if_pos rfl,if_pos (by simp)]
   simp
  ·rw [if_neg e,ih]
   by_cases h:n+1≤m∧m<n+1+rows.length
   ·rw [if_pos h,if_pos (by simp;omega)]
    obtain ⟨j,rfl⟩:∃ j,m=n+1+j:=⟨m-(n+1),by omega⟩
    rw [show n+1+j-(n+1)=j by omega,show n+1+j-n=j+1 by omega]
    rfl
   ·rw [if_neg h,if_neg (by simp;omega)]
def callStep (G:Specs) (vs:List V) (hp:List (Nat × Row)) (nx:Nat):Option (V × List (Nat × Row) × Nat):=
 match vs with
 | .fn f caps :: args=>match frzL [] (args++caps) hp with
  | some (args',hp1)=>if V.hfL args'=true then match G f args' with
   | some (r,rows)=>if plainV r=true∧rows=[] then some (r,hp,nx) else some (r.ren (nx+·),namedRows nx nx rows++hp1,nx+rows.length)
   | none=>none else none
  | none=>none
 | _=>none
theorem execOp_eq (ρ:Operand→Value)(o:Oper):execOp ρ o=execOp ρ ⟨none,o.op,o.type, "", #[],none⟩:=by
 obtain ⟨dst,op,ty,pos,after,guard⟩:=o
 cases op<;>rfl
theorem wp_of_value {P:Program} {o:Oper} {a:Act} {w w':World} {x:Value} {K:Act→World→Prop} {Q:Exit→Act→World→Prop} {nx:Next} (h:(execOp a.eval ⟨none,o.op,o.type, "", #[],none⟩).run P w=.ok nx w')(hn:nx=.value x∨(nx=.skip∧x=undef))(hk:K (a.put o.dst x) w'):o.wp P a w K Q:=by
 unfold Oper.wp
 rw [execOp_eq,h]
 rcases hn with rfl | ⟨rfl,rfl⟩ <;> exact hk
theorem call_sound {P:Program} {G:Specs} (hG:∀ f args r rows,G f args=some (r,rows)→PCall P f args r rows) {C:Ctx} {env:Env} {st:St} {a:Act} {w:World} (hs:SimS C env st a w) {o:Oper} {c:Call} {g:Operand} (ho:o.op=.call c) (hcal:c.callee=.value g)
  {vs:List V} (hv:valsOf st.fr o.op.operands.toList=some vs) {v:V} {hp':List (Nat × Row)} {nx':Nat} (hc:callStep G vs st.hp st.nx=some (v,hp',nx')) {K:Act→World→Prop} {Q:Exit→Act→World→Prop}
  (hk:∀ env' x w',Sim C env' (lkp st.fr) (lkp hp') (· < nx') a w'→Rep (Fd C env' (lkp hp')) w' env' (· < nx') x v→K (a.put o.dst x) w'):o.wp P a w K Q:=by
 obtain ⟨hl,hr⟩:=valsOf_sound hs hv
 rw [ho] at hl hr
 unfold callStep at hc
 split at hc
 ·rename_i f caps args
  split at hc
  ·rename_i args' hp1 hfr
   split at hc
   ·rename_i hhf
    split at hc
    ·rename_i r rows hg
     obtain ⟨hcf,hcalls⟩:=hG f args' r rows hg
     have hops:(Op.call c).operands.toList=g :: c.args.toList:=by simp [Op.operands,Call.operands,hcal]
     rw [hops] at hl hr
     have hg0:Rep _ w env _ (a.eval g) (.fn f caps):=hr 0 (by simp)
     generalize hgv:a.eval g=gv at hg0
     cases hg0 with
     | fn hsz hcr=>
      rename_i xcaps
      have hrun:(execOp a.eval o).run P w=.ok (.enter f (c.args.map a.eval++xcaps)) w:=by
       unfold execOp
       rw [ho]
       simp only [Sem.run_bind]
       have h1:(resolve a.eval c o.type).run P w=.ok { target:=.fn (.func f) xcaps,args:=c.args.map a.eval } w:=by
        unfold resolve
        simp only [hcal,hgv,Deferred.ofValue,Array.empty_append]
        rfl
       rw [h1]
       simp only [Result.andThen_ok,invoke]
       exact hcf _ _
      unfold Oper.wp
      rw [hrun,Oper.upon_enter]
      have hlen:args.length=c.args.size:=by simpa using hl
      have hsz2:(c.args.map a.eval++xcaps).size=(args++caps).length:=by simp [hlen,hsz]
      have hrep:∀ k,k<(args++caps).length→Rep (Fd C env (lkp st.hp)) w env (· < st.nx) ((c.args.map a.eval++xcaps).getD k undef) ((args++caps).getD k .junk):=by
       intro k hk
       by_cases hka:k<args.length
       ·have h1:=hr (k+1) (by simp;omega)
        simp only [List.getD_cons_succ] at h1
        have e1:(c.args.map a.eval++xcaps).getD k undef=a.eval (c.args.toList.getD k (.const undef)):=by
         rw [Array.getD_eq_getD_getElem?,Array.getElem?_append_left (by simp;omega)]
         simp [List.getD_eq_getElem?_getD,show k<c.args.size by omega]
        have e2:(args++caps).getD k .junk=args.getD k .junk:=by
         rw [List.getD_eq_getElem?_getD,List.getElem?_append_left hka,← List.getD_eq_getElem?_getD]
        rw [e1,e2]
        exact h1
       ·have e1:(c.args.map a.eval++xcaps).getD k undef=xcaps.getD (k-args.length) undef:=by
         rw [Array.getD_eq_getD_getElem?,Array.getElem?_append_right (by simp;omega),Array.getD_eq_getD_getElem?]
         simp [hlen]
        have e2:(args++caps).getD k .junk=caps.getD (k-args.length) .junk:=by
         rw [List.getD_eq_getElem?_getD,List.getElem?_append_right (by omega),← List.getD_eq_getElem?_getD]
        rw [e1,e2]
        exact hcr _ (by simp at hk;omega)
      obtain ⟨s1,f1,l1,r1⟩:=frzL_sound [] (args++caps) st.hp hfr hs
      have r2:=r1 (c.args.map a.eval++xcaps) hsz2 hrep
      refine (hcalls (Fd C env (lkp hp1)) w (c.args.map a.eval++xcaps) (fun b hb=>s1.fd_lt hb) (by rw [l1];exact hsz2) (fun k hk=>(r2 k hk).hf (hfL_getD hhf k))).mono ?_
      rintro e w' ⟨x,rfl,hcame⟩
      show K (a.put o.dst x) w'
      split at hc
      ·rename_i hplain
       obtain ⟨hp1',hrows⟩:=hplain
       cases hc
       obtain ⟨hstep,e1,_,_,_,hrep1⟩:=hcame
       exact hk env x w' (hs.world hstep) (plain_rep hrep1 hp1')
      ·cases hc
       obtain ⟨env',hs2,hr3⟩:=s1.join hcame (n:=st.nx) (fun j hj=>by simp)
       have e1:(fun m=>if st.nx≤m∧m<st.nx+rows.length then (rows[m-st.nx]?).map (Row.ren (st.nx+·)) else lkp hp1 m)=lkp (namedRows st.nx st.nx rows++hp1):=by
        funext m
        rw [look_named]
       have e2:(fun m=>m<st.nx∨(st.nx≤m∧m<st.nx+rows.length))=(· < st.nx+rows.length):=by
        funext m
        simp only [eq_iff_iff]
        omega
       rw [e1,e2] at hs2 hr3
       exact hk env' x w' hs2 hr3
    ·cases hc
   ·cases hc
  ·cases hc
 ·cases hc
def gslot (ops:Array Oper) (j:Nat):Option Tmp:=(ops[j]?).bind (·.dst)
def guardOf (ops:Array Oper) (N:Nat) (fr:List (Nat × V)) (o:Oper):Option Bool:=
 match o.guard with
 | none=>some true
 | some (j,want)=>match gslot ops j with
  | some d=>match lkp fr d with
   | some (.b x)=>some (x == want)
   | some (.tup [])=>some false
   | _=>none
  | none=>none
def putSt (N:Nat) (dst:Option Tmp) (v:V) (fr:List (Nat × V)) (hp:List (Nat × Row)) (nx:Nat):Option St:=
 match dst with
 | some d=>if d<N then some ⟨(d,v) :: fr,hp,nx⟩ else none
 | none=>some ⟨fr,hp,nx⟩
def isCall:Op→Bool
 | .call c=>match c.callee with
  | .value _=>true
  | _=>false
 | _=>false
def stepOp (P:Program) (G:Specs) (N:Nat) (ops:Array Oper) (st:St) (o:Oper):Option St:=
 match guardOf ops N st.fr o with
 | some true=>match valsOf st.fr o.op.operands.toList with
  | some vs=>if isCall o.op=true then
    match callStep G vs st.hp st.nx with
    | some (v,hp,nx)=>putSt N o.dst v st.fr hp nx
    | none=>none
   else match eff P o.op vs with
    | some e=>match e.runL st.nx st.hp with
     | some (v,hp,u)=>putSt N o.dst v st.fr hp (if u=true then st.nx+1 else st.nx)
     | none=>none
    | none=>none
  | none=>none
 | some false=>putSt N o.dst (.tup []) st.fr st.hp st.nx
 | none=>none
theorem putSt_sound {C:Ctx} {env:Env} {dst:Option Tmp} {v:V} {fr:List (Nat × V)} {hp:List (Nat × Row)} {nx:Nat} {st':St} {a:Act} {w:World} {x:Value} (h:putSt C.N dst v fr hp nx=some st') (hs:Sim C env (lkp fr) (lkp hp) (· < nx) a w)
  (hr:Rep (Fd C env (lkp hp)) w env (· < nx) x v):SimS C env st' (a.put dst x) w:=by
 unfold putSt at h
 split at h
 ·rename_i d
  split at h
  ·rename_i hd
   cases h
   show Sim C env (lkp ((d,v) :: fr)) (lkp hp) (· < nx) (a.put (some d) x) w
   rw [lkp_cons]
   exact hs.put hd hr
  ·cases h
 ·cases h
  exact hs
theorem guard_sound {C:Ctx} {env:Env} {ops:Array Oper} {st:St} {a:Act} {w:World} (hs:SimS C env st a w) {o:Oper} {c:Bool} (h:guardOf ops C.N st.fr o=some c):Region.wanted o (yielded ops a.tmps)=c:=by
 unfold guardOf at h
 unfold Region.wanted
 split at h
 ·rename_i hg
  cases h
  simp [hg]
 ·rename_i j want hg
  split at h
  ·rename_i d hd
   split at h
   ·rename_i x hx
    cases h
    obtain ⟨hlt,hr⟩:=hs.tm d _ hx
    have hb:=hr.b_inv
    have:a.tmps[d]? = some (.bool x):=by
     have h1:d<a.tmps.size:=by rw [hs.sz];exact hlt
     rw [Array.getElem?_eq_getElem h1]
     rw [Array.getD_eq_getD_getElem?,Array.getElem?_eq_getElem h1] at hb
     exact congrArg some hb
    simp only [hg,yielded]
    unfold gslot at hd
    rw [hd]
    simp only [Option.bind_some,this]
    cases x<;>cases want<;>rfl
   ·rename_i hx
    cases h
    obtain ⟨hlt,hr⟩:=hs.tm d _ hx
    have hb:a.tmps.getD d undef=.tuple #[]:=by
     generalize a.tmps.getD d undef=X at hr
     cases hr with
     | tup hsz _=>rename_i xs;rw [Array.eq_empty_of_size_eq_zero hsz]
    have:a.tmps[d]? = some (.tuple #[]):=by
     have h1:d<a.tmps.size:=by rw [hs.sz];exact hlt
     rw [Array.getElem?_eq_getElem h1]
     rw [Array.getD_eq_getD_getElem?,Array.getElem?_eq_getElem h1] at hb
     exact congrArg some hb
    simp only [hg,yielded]
    unfold gslot at hd
    rw [hd]
    simp only [Option.bind_some,this]
    cases want<;>rfl
   ·cases h
  ·cases h
theorem stepOp_sound {P:Program} {G:Specs} (hG:∀ f args r rows,G f args=some (r,rows)→PCall P f args r rows) {C:Ctx} {env:Env} {ops:Array Oper} {st st':St} {a:Act} {w:World} (hs:SimS C env st a w) {o:Oper} (h:stepOp P G C.N ops st o=some st') {i:Nat} (hi:ops[i]? = some o)
  {K:Act→World→Prop} {Q:Exit→Act→World→Prop} (hk:∀ env' a' w',SimS C env' st' a' w'→K a' w'):wpOp P ops Q i K a w:=by
 unfold wpOp
 simp only [hi]
 unfold stepOp at h
 split at h
 ·rename_i hg
  have hw:=guard_sound hs hg
  rw [if_pos hw]
  refine .inl ?_
  split at h
  ·rename_i vs hvs
   split at h
   ·rename_i hcall
    split at h
    ·rename_i v hp nx hc
     cases hop:o.op with
     | call c=>
      rw [hop] at hcall
      simp only [isCall] at hcall
      split at hcall
      ·rename_i g hcal
       exact call_sound hG hs hop hcal hvs hc fun env' x w' hs' hr=>hk env' _ w' (putSt_sound h hs' hr)
      ·cases hcall
     | _=>rw [hop] at hcall;simp [isCall] at hcall
    ·cases h
   ·split at h
    ·rename_i e he
     split at h
     ·rename_i v hp u hrun
      obtain ⟨hl,hr⟩:=valsOf_sound hs hvs
      obtain ⟨env',w',nx,x,h1,h2,h3,h4⟩:=good_eff (ty:=o.type) he C env (lkp st.fr) (lkp st.hp) (· < st.nx) a w hs ⟨by simpa using hl,fun j hj=>by
       have:=hr j hj
       have e:o.op.operands.toList.getD j (.const undef)=o.op.operands.getD j (.const undef):=by
        simp [List.getD_eq_getElem?_getD,Array.getD_eq_getD_getElem?]
       rw [e] at this
       exact this⟩ st.nx (Nat.lt_irrefl _) v (lkp hp) u (runL_run hrun)
      have hD:DD (· < st.nx) st.nx u=(· < (if u=true then st.nx+1 else st.nx)):=by
       funext m
       simp only [DD,eq_iff_iff]
       cases u
       ·simp
       ·simp;omega
      rw [hD] at h2 h3
      exact wp_of_value h1 h4 (hk env' _ w' (putSt_sound h h2 h3))
     ·cases h
    ·cases h
  ·cases h
 ·rename_i hg
  have hw:=guard_sound hs hg
  rw [if_neg (by rw [hw];simp)]
  exact hk env _ w (putSt_sound h hs (.tup (xs:=#[]) rfl (fun k hk=>absurd hk (Nat.not_lt_zero k))))
 ·cases h
def runL (P:Program) (G:Specs) (N:Nat) (ops:Array Oper):List Oper→St→Option St
 | [],st=>some st
 | o :: l,st=>match stepOp P G N ops st o with
  | some st'=>runL P G N ops l st'
  | none=>none
theorem runL_sound {P:Program} {G:Specs} (hG:∀ f args r rows,G f args=some (r,rows)→PCall P f args r rows) {C:Ctx} {ops:Array Oper} {Q:Exit→Act→World→Prop}:∀ (l:List Oper) (i:Nat) (st st':St),ops.toList.drop i=l→runL P G C.N ops l st=some st'→∀ (env:Env) (a:Act) (w:World),SimS C env st a w →
  (∀ env' a' w',SimS C env' st' a' w'→Q .normal a' w')→wpOps P ops Q (List.range' i l.length) a w:=by
 intro l
 induction l with
 | nil=>
  intro i st st' hd h env a w hs hk
  simp only [runL,Option.some.injEq] at h
  subst h
  exact hk env a w hs
 | cons o l ih=>
  intro i st st' hd h env a w hs hk
  simp only [runL] at h
  split at h
  ·rename_i st1 h1
   have hi:ops[i]? = some o:=by
    have:(ops.toList.drop i)[0]? = some o:=by rw [hd];rfl
    simpa using this
   have hd':ops.toList.drop (i+1)=l:=by
    rw [← List.drop_drop,hd]
    rfl
   rw [List.length_cons,List.range'_succ,wpOps_cons]
   exact stepOp_sound hG hs h1 hi fun env' a' w' hs'=>ih (i+1) st1 st' hd' h env' a' w' hs' hk
  ·cases h
def AX (P:Program) (C:Ctx) (c:Code) (st:St) (Q:Exit→St→Prop):Prop:=
 ∀ (env:Env) (a:Act) (w:World),SimS C env st a w→c.wp P (fun e a' w'=>∃ st' env',Q e st'∧SimS C env' st' a' w') a w
section
variable {P:Program} {C:Ctx} {st:St} {Q:Exit→St→Prop}
theorem AX.mono {c:Code} {Q':Exit→St→Prop} (h:AX P C c st Q')(hq:∀ e st',Q' e st'→Q e st'):AX P C c st Q:=
 fun env a w hs=>wp_mono (h env a w hs) fun _ _ _ ⟨st',env',h1,h2⟩=>⟨st',env',hq _ _ h1,h2⟩
theorem AX.region {G:Specs} (hG:∀ f args r rows,G f args=some (r,rows)→PCall P f args r rows) {id:Nat} {ops:Array Oper} {st':St} (h:runL P G C.N ops ops.toList st=some st')(hq:Q .normal st'):AX P C (.region id ops false) st Q:=by
 intro env a w hs
 refine wp_region ?_
 have:=runL_sound hG (C:=C) (Q:=fun e a' w'=>∃ st' env',Q e st'∧SimS C env' st' a' w') ops.toList 0 st st' (by simp) h env a w hs (fun env' a' w' hs'=>⟨st',env',hq,hs'⟩)
 rwa [Array.length_toList,← List.range_eq_range'] at this
def thenS (c:Code) (P:Program) (C:Ctx) (Q:Exit→St→Prop):Exit→St→Prop
 | .normal,st=>AX P C c st Q
 | e,st=>Q e st
theorem AX.seq {x y:Code} (h:AX P C x st (thenS y P C Q)):AX P C (.seq x y) st Q:=by
 intro env a w hs
 refine wp_seq (wp_mono (h env a w hs) ?_)
 rintro e a' w' ⟨st',env',h1,h2⟩
 cases e with
 | normal=>exact h1 env' a' w' h2
 | _=>exact ⟨st',env',h1,h2⟩
theorem AX.skip (h:Q .normal st):AX P C .skip st Q:=fun env a w hs=>wp_skip ⟨st,env,h,hs⟩
theorem AX.exit {id:Nat} (h:Q (.exit id) st):AX P C (.exit id) st Q:=fun env a w hs=>wp_exit ⟨st,env,h,hs⟩
theorem AX.ret (h:Q .ret st):AX P C .ret st Q:=fun env a w hs=>wp_ret ⟨st,env,h,hs⟩
theorem AX.cond {c:Operand} {x y:Code} {b:Bool} (hc:valOf st.fr c=some (.b b))(h:AX P C (if b=true then x else y) st Q):AX P C (.cond c x y) st Q:=by
 intro env a w hs
 have:=(valOf_sound hs hc).b_inv
 exact wp_cond this (h env a w hs)
def blockS (id:Nat) (Q:Exit→St→Prop):Exit→St→Prop
 | .exit id',st=>if id'=id then Q .normal st else Q (.exit id') st
 | e,st=>Q e st
theorem AX.block {id:Nat} {c:Code} (h:AX P C c st (blockS id Q)):AX P C (.block id c) st Q:=by
 intro env a w hs
 refine wp_block (wp_mono (h env a w hs) ?_)
 rintro e a' w' ⟨st',env',h1,h2⟩
 cases e with
 | exit id'=>
  simp only [blockS] at h1
  simp only [Exit.inBlock]
  split at h1
  ·rename_i e
   rw [if_pos e]
   exact ⟨st',env',h1,h2⟩
  ·rename_i e
   rw [if_neg e]
   exact ⟨st',env',h1,h2⟩
 | _=>exact ⟨st',env',h1,h2⟩
end
mutual
def V.lt (n:Nat):V→Bool
 | .ptr h _=>h<n
 | .own h _ _ _=>h<n
 | .agg cs=>V.ltL n cs
 | .tup cs=>V.ltL n cs
 | .fn _ cs=>V.ltL n cs
 | .mp h=>h<n
 | _=>true
def V.ltL (n:Nat):List V→Bool
 | []=>true
 | v :: vs=>V.lt n v && V.ltL n vs
end
theorem ltL_getD {n:Nat} {l:List V} (h:V.ltL n l=true):∀ k,(l.getD k .junk).lt n=true:=by
 induction l with
 | nil=>intro k;simp [V.lt]
 | cons v l ih=>
  rw [V.ltL,Bool.and_eq_true] at h
  intro k
  cases k with
  | zero=>exact h.1
  | succ k=>exact ih h.2 k
theorem renL_tab {f:Nat→Nat} {l:List V} {ks:List (K0 × K0)} (h:V.renL f l=[.tab ks]):l=[.tab ks]:=by
 cases l with
 | nil=>simp [V.renL] at h
 | cons v l=>
  cases l with
  | cons v' l=>simp [V.renL] at h
  | nil=>
   simp only [V.renL,List.cons.injEq,and_true] at h
   cases v<;>simp only [V.ren] at h<;>first | (cases h;done) | (cases h;rfl)
theorem Rep.unren {F:Nat→Prop} {w:World} {env:Env} {D:Nat→Prop} {x:Value} {u:V} (h:Rep F w env D x u):∀ {v:V} {f:Nat→Nat} {n:Nat},u=v.ren f→v.lt n=true→Rep F w (fun m=>env (f m)) (· < n) x v:=by
 induction h with
 | junk=>intro v f n hu hv;cases v<;>simp only [V.ren] at hu<;>first | (cases hu;done) | exact .junk
 | b=>intro v f n hu hv;cases v<;>simp only [V.ren] at hu<;>first | (cases hu;done) | (cases hu;exact .b)
 | i hk=>intro v f n hu hv;cases v<;>simp only [V.ren] at hu<;>first | (cases hu;done) | (cases hu;exact .i hk)
 | s hs=>intro v f n hu hv;cases v<;>simp only [V.ren] at hu<;>first | (cases hu;done) | (cases hu;exact .s hs)
 | nl=>intro v f n hu hv;cases v<;>simp only [V.ren] at hu<;>first | (cases hu;done) | (cases hu;exact .nl)
 | sl0=>intro v f n hu hv;cases v<;>simp only [V.ren] at hu<;>first | (cases hu;done) | (cases hu;exact .sl0)
 | sl y hne hc hl hF hb hE hy hr ih=>intro v f n hu hv;cases v<;>simp only [V.ren] at hu<;>first | (cases hu;done) | (cases hu;exact .sl y hne hc hl hF hb hE hy hr)
 | agg hs hr ih=>
  intro v f n hu hv
  cases v<;>simp only [V.ren] at hu<;>try (cases hu;done)
  rename_i cs
  simp only [V.agg.injEq] at hu
  subst hu
  rw [V.lt] at hv
  rw [renL_length] at hs
  exact .agg hs fun k hk=>ih k (by rw [renL_length];exact hk) (renL_getD f cs k) (ltL_getD hv k)
 | tup hs hr ih=>
  intro v f n hu hv
  cases v<;>simp only [V.ren] at hu<;>try (cases hu;done)
  rename_i cs
  simp only [V.tup.injEq] at hu
  subst hu
  rw [V.lt] at hv
  rw [renL_length] at hs
  exact .tup hs fun k hk=>ih k (by rw [renL_length];exact hk) (renL_getD f cs k) (ltL_getD hv k)
 | ptr hD he hs=>
  intro v f n hu hv
  cases v<;>simp only [V.ren] at hu<;>try (cases hu;done)
  cases hu
  simp only [V.lt,decide_eq_true_eq] at hv
  exact .ptr hv he hs
 | mp hD he=>
  intro v f n hu hv
  cases v<;>simp only [V.ren] at hu<;>try (cases hu;done)
  cases hu
  simp only [V.lt,decide_eq_true_eq] at hv
  exact .mp hv he
 | rp y hF hb hy hr ih=>intro v f n hu hv;cases v<;>simp only [V.ren] at hu<;>first | (cases hu;done) | (cases hu;exact .rp y hF hb hy hr)
 | own hD he hc hl hs=>
  intro v f n hu hv
  cases v<;>simp only [V.ren] at hu<;>try (cases hu;done)
  cases hu
  simp only [V.lt,decide_eq_true_eq] at hv
  exact .own hv he hc hl hs
 | own0 hD=>
  intro v f n hu hv
  cases v<;>simp only [V.ren] at hu<;>try (cases hu;done)
  cases hu
  simp only [V.lt,decide_eq_true_eq] at hv
  exact .own0 hv
 | fn hs hr ih=>
  intro v f n hu hv
  cases v<;>simp only [V.ren] at hu<;>try (cases hu;done)
  rename_i g cs
  simp only [V.fn.injEq] at hu
  obtain ⟨rfl,rfl⟩:=hu
  rw [V.lt] at hv
  rw [renL_length] at hs
  exact .fn hs fun k hk=>ih k (by rw [renL_length];exact hk) (renL_getD f cs k) (ltL_getD hv k)
def LeFr (f:Nat→Nat) (fr:List (Nat × V)) (n:Nat):List (Nat × V)→Prop
 | []=>True
 | (t,v) :: r=>lkp fr t=some (v.ren f)∧v.lt n=true∧LeFr f fr n r
def LeHp (f:Nat→Nat) (hp:List (Nat × Row)) (n:Nat):List (Nat × Row)→Prop
 | []=>True
 | (h,q) :: r=>h<n∧lkp hp (f h)=some (q.ren f)∧V.ltL n q.cells=true∧LeHp f hp n r
def Apart (f:Nat→Nat) (hp:List (Nat × Row)):Prop:=∀ p ∈ hp,∀ q ∈ hp,f p.1=f q.1→p.1=q.1
structure Le (g:Nat) (f:Nat→Nat) (st' st:St):Prop where
 fr:LeFr f st.fr st'.nx st'.fr
 hp:LeHp f st.hp st'.nx st'.hp
 ap:Apart f st'.hp
 nx:g≤st'.nx
 id:∀ n,n<g→f n=n
theorem LeFr.lkp {f:Nat→Nat} {fr:List (Nat × V)} {n:Nat}:∀ {l:List (Nat × V)},LeFr f fr n l→∀ {t:Nat} {v:V},lkp l t=some v→lkp fr t=some (v.ren f)∧v.lt n=true:=by
 intro l
 induction l with
 | nil=>intro _ t v h;simp [Lift.lkp] at h
 | cons p l ih=>
  obtain ⟨k,u⟩:=p
  intro hl t v h
  obtain ⟨h1,h2,h3⟩:=hl
  simp only [Lift.lkp] at h
  split at h
  ·rename_i e
   cases h
   subst e
   exact ⟨h1,h2⟩
  ·exact ih h3 h
theorem LeHp.lkp {f:Nat→Nat} {hp:List (Nat × Row)} {n:Nat}:∀ {l:List (Nat × Row)},LeHp f hp n l→∀ {h:Nat} {q:Row},lkp l h=some q→h<n∧lkp hp (f h)=some (q.ren f)∧V.ltL n q.cells=true:=by
 intro l
 induction l with
 | nil=>intro _ t v h;simp [Lift.lkp] at h
 | cons p l ih=>
  obtain ⟨k,u⟩:=p
  intro hl t v h
  obtain ⟨h1,h2,h3,h4⟩:=hl
  simp only [Lift.lkp] at h
  split at h
  ·rename_i e
   cases h
   subst e
   exact ⟨h1,h2,h3⟩
  ·exact ih h4 h
theorem look_mem {α:Type}:∀ {l:List (Nat × α)} {n:Nat},(lkp l n).isSome=true→∃ p ∈ l,p.1=n:=by
 intro l
 induction l with
 | nil=>intro n h;simp [lkp] at h
 | cons p l ih=>
  obtain ⟨k,u⟩:=p
  intro n h
  simp only [lkp] at h
  split at h
  ·rename_i e
   exact ⟨(k,u),by simp,e.symm⟩
  ·obtain ⟨p,hp,e⟩:=ih h
   exact ⟨p,by simp [hp],e⟩
theorem Le.sound {f:Nat→Nat} {st' st:St} {C:Ctx} (h:Le C.g f st' st) {env:Env} {a:Act} {w:World} (hs:SimS C env st a w):SimS C (fun m=>env (f m)) st' a w:=by
 have hsome:∀ m,(lkp st'.hp m).isSome=true→(lkp st.hp (f m)).isSome=true:=by
  intro m hm
  obtain ⟨q,hq⟩:=Option.isSome_iff_exists.1 hm
  rw [(h.hp.lkp hq).2.1]
  rfl
 have hF:∀ b,Fd C (fun m=>env (f m)) (lkp st'.hp) b→Fd C env (lkp st.hp) b:=by
  rintro b (ho | ⟨m,hm,he⟩)
  ·exact .inl ho
  ·exact .inr ⟨f m,hsome m hm,he⟩
 have lift:∀ {x:Value} {v:V},v.lt st'.nx=true→Rep (Fd C env (lkp st.hp)) w env (· < st.nx) x (v.ren f)→Rep (Fd C (fun m=>env (f m)) (lkp st'.hp)) w (fun m=>env (f m)) (· < st'.nx) x v:=
  fun hv hx=>(hx.unren rfl hv).sub hF
 exact {
  sz:=hs.sz
  df:=hs.df
  tm:=by
   intro t v ht
   obtain ⟨h1,h2⟩:=h.fr.lkp ht
   obtain ⟨h3,h4⟩:=hs.tm t _ h1
   exact ⟨h3,lift h2 h4⟩
  row:=by
   intro m q hq
   obtain ⟨h1,h2,h3⟩:=h.hp.lkp hq
   refine ⟨h1,?_⟩
   rcases (hs.row _ _ h2).2 with ⟨blk,c,he,hw,hl,hc⟩ | ⟨he,hv⟩ | ⟨blk,he,ht⟩
   ·simp only [Row.ren,renL_length] at hl hc
    refine .inl ⟨blk,c,he,hw,hl,fun k hk=>?_⟩
    have:=hc k hk
    rw [renL_getD] at this
    exact lift (ltL_getD h3 k) this
   ·refine .inr (.inl ⟨he,?_⟩)
    have:=congrArg List.length hv
    simp only [Row.ren,renL_length] at this
    exact List.eq_nil_of_length_eq_zero this
   ·obtain ⟨es,cl,ks,t1,t2,t3⟩:=ht
    refine .inr (.inr ⟨blk,he,es,cl,ks,t1,?_,t3⟩)
    simp only [Row.ren] at t2
    exact renL_tab t2
  old:=fun m b hm he=>hs.old (f m) b (hsome m hm) he
  inj:=by
   intro m m' b hm hm' he he'
   have:=hs.inj (f m) (f m') b (hsome m hm) (hsome m' hm') he he'
   obtain ⟨p,hp,rfl⟩:=look_mem hm
   obtain ⟨q,hq,rfl⟩:=look_mem hm'
   exact h.ap p hp q hq this
  st:=hs.st
  ob:=hs.ob
  gv:=fun m hm=>⟨Nat.lt_of_lt_of_le hm h.nx,by show env (f m)=_;rw [h.id m hm];exact (hs.gv m hm).2⟩ }
section
variable {P:Program} {C:Ctx} {st:St} {Q:Exit→St→Prop}
theorem AX.weaken (f:Nat→Nat) {c:Code} {st':St} (hle:Le C.g f st' st)(h:AX P C c st' Q):AX P C c st Q:=
 fun env a w hs=>h _ a w (hle.sound hs)
def backS (g:Nat) (I:Nat→St→Prop) (n:Nat) (Q:Exit→St→Prop):Exit→St→Prop
 | .normal,st=>∃ m st' f,m<n∧Le g f st' st∧I m st'
 | e,st=>Q e st
theorem AX.loop {body:Code} (I:Nat→St→Prop)(n0:Nat)(h0:I n0 st)(step:∀ n st,I n st→AX P C body st (backS C.g I n Q)):AX P C (.loop body) st Q:=by
 intro env a w hs
 refine wp_loop_ghost (fun n a w=>∃ st env,I n st∧SimS C env st a w) n0 ⟨st,env,h0,hs⟩ ?_
 rintro n a w ⟨st,env,hI,hs⟩
 refine wp_mono (step n st hI env a w hs) ?_
 rintro e a' w' ⟨st',env',h1,h2⟩
 cases e with
 | normal=>
  obtain ⟨m,st2,f,hm,hle,hI2⟩:=h1
  exact ⟨m,hm,st2,_,hI2,hle.sound h2⟩
 | _=>exact ⟨st',env',h1,h2⟩
end
def argFr:Nat→List V→List (Nat × V)
 | _,[]=>[]
 | n,v :: vs=>(n,v) :: argFr (n+1) vs
theorem argFr_look:∀ (vs:List V) (n t:Nat) (v:V),lkp (argFr n vs) t=some v→n≤t∧t<n+vs.length∧v=vs.getD (t-n) .junk:=by
 intro vs
 induction vs with
 | nil=>intro n t v h;simp [argFr,lkp] at h
 | cons u vs ih=>
  intro n t v h
  simp only [argFr,lkp] at h
  split at h
  ·rename_i e
   subst e
   cases h
   exact ⟨Nat.le_refl _,by simp,by simp⟩
  ·obtain ⟨h1,h2,h3⟩:=ih (n+1) t v h
   refine ⟨by omega,by simp;omega,?_⟩
   rw [h3,show t-n=(t-(n+1))+1 by omega,List.getD_cons_succ]
def resV (P:Program) (st:St):ResultVar→Option V
 | .tmp t=>lkp st.fr t
 | .cell a t=>match lkp st.fr a with
  | some (.ptr h off)=>match lkp st.hp h with
   | some r=>match lay P t with
    | some L=>readAt L r.cells off
    | none=>none
   | none=>none
  | _=>none
def resVs (P:Program) (st:St):List ResultVar→Option (List V)
 | []=>some []
 | r :: rs=>match resV P st r with
  | some v=>match resVs P st rs with
   | some vs=>some (v :: vs)
   | none=>none
  | none=>none
def packV:List V→V
 | [v]=>v
 | vs=>.tup vs
def Done (P:Program) (rs:Array ResultVar) (r:V) (rows:List Row) (st:St):Prop:=
 ∃ vs,resVs P st rs.toList=some vs∧∃ (keep:List Nat) (g:Nat→Nat) (v:V) (hp:List (Nat × Row)),frz keep (packV vs) st.hp=some (v,hp)∧v=r.ren g∧r.lt rows.length=true ∧
  (∀ h q,rows[h]? = some q→lkp hp (g h)=some (q.ren g)∧V.ltL rows.length q.cells=true)∧(∀ h h',h<rows.length→h' < rows.length→g h=g h'→h=h')
def resSem (tmps:Array Value):ResultVar→Sem Value
 | .tmp t=>pure (tmps.getD t undef)
 | .cell a t=>do loadVar t (← asAddr (tmps.getD a undef))
theorem results_eq (fn:Func)(tmps:Array Value):results fn tmps=(fn.results.mapM (resSem tmps)) >>= fun vs=>pure (if h:vs.size=1 then vs[0] else .tuple vs):=by
 unfold results
 congr 1
theorem resV_sound {P:Program} {C:Ctx} {env:Env} {st:St} {a:Act} {w:World} (hs:SimS C env st a w) {rv:ResultVar} {v:V} (h:resV P st rv=some v) :
  ∃ x,(resSem a.tmps rv).run P w=.ok x w∧Rep (Fd C env (lkp st.hp)) w env (· < st.nx) x v:=by
 cases rv with
 | tmp t=>exact ⟨_,rfl,(hs.tm t v h).2⟩
 | cell a' t=>
  simp only [resV] at h
  split at h
  ·rename_i n off hp
   split at h
   ·rename_i r hr
    split at h
    ·rename_i L hL
     obtain ⟨blk,e0,he,hD⟩:=(hs.tm a' _ hp).2.ptr_inv
     obtain ⟨c,hw,hl,hc⟩:=good_loadRow hs hr he ((hs.tm a' _ hp).2.ptr_cells he)
     obtain ⟨z,hz,hzr⟩:=good_readAt (P:=P) hL (o:=0) (blk:=blk) h (fun k hk=>by rw [Nat.zero_add];exact cell_row hw (by omega)) hc
     rw [Nat.zero_add] at hz
     refine ⟨z,?_,hzr⟩
     simp only [resSem,e0]
     have h2:(asAddr (.pointer (some ⟨blk,off,none⟩))).run P w=.ok ⟨blk,off,none⟩ w:=rfl
     simp only [Sem.run_bind,h2,Result.andThen_ok]
     exact hz
    ·cases h
   ·cases h
  ·cases h
theorem resVs_sound {P:Program} {C:Ctx} {env:Env} {st:St} {a:Act} {w:World} (hs:SimS C env st a w):∀ {rs:List ResultVar} {vs:List V},resVs P st rs=some vs →
  ∃ xs:List Value,(rs.mapM (resSem a.tmps)).run P w=.ok xs w∧xs.length=vs.length ∧
   ∀ k,k<vs.length→Rep (Fd C env (lkp st.hp)) w env (· < st.nx) (xs.getD k undef) (vs.getD k .junk):=by
 intro rs
 induction rs with
 | nil=>intro vs h;simp [resVs] at h;subst h;exact ⟨[],rfl,rfl,fun k hk=>by simp at hk⟩
 | cons r rs ih=>
  intro vs h
  simp only [resVs] at h
  split at h
  ·rename_i v hv
   split at h
   ·rename_i vs' hvs
    cases h
    obtain ⟨x,hx,hxr⟩:=resV_sound hs hv
    obtain ⟨xs,h1,h2,h3⟩:=ih hvs
    refine ⟨x :: xs,?_,by simp [h2],fun k hk=>?_⟩
    ·simp only [List.mapM_cons,Sem.run_bind,hx,Result.andThen_ok,h1]
     rfl
    ·cases k with
     | zero=>exact hxr
     | succ k=>exact h3 k (by simpa using hk)
   ·cases h
  ·cases h
theorem results_sound {P:Program} {C:Ctx} {env:Env} {st:St} {a:Act} {w:World} (hs:SimS C env st a w) {fn:Func} {vs:List V} (h:resVs P st fn.results.toList=some vs) :
  ∃ x,(results fn a.tmps).run P w=.ok x w∧Rep (Fd C env (lkp st.hp)) w env (· < st.nx) x (packV vs):=by
 obtain ⟨xs,h1,h2,h3⟩:=resVs_sound hs h
 have hrun:∀ (X:Value),X=(if h:xs.toArray.size=1 then xs.toArray[0] else .tuple xs.toArray)→(results fn a.tmps).run P w=.ok X w:=by
  rintro X rfl
  rw [results_eq,Array.mapM_eq_mapM_toList,map_eq_pure_bind]
  simp only [Sem.run_bind,h1,Result.andThen_ok]
  rfl
 refine ⟨_,hrun _ rfl,?_⟩
 match vs,h2,h3 with
 | [v],h2,h3=>
  match xs,h2,h3 with
  | [x],h2,h3=>exact h3 0 (by simp)
 | [],h2,h3=>
  match xs,h2,h3 with
  | [],h2,h3=>exact .tup rfl (fun k hk=>by simp at hk)
 | v1 :: v2 :: vs,h2,h3=>
  match xs,h2,h3 with
  | x1 :: x2 :: xs,h2,h3=>
   have:(if h:(x1 :: x2 :: xs).toArray.size=1 then (x1 :: x2 :: xs).toArray[0] else .tuple (x1 :: x2 :: xs).toArray)=Value.tuple (x1 :: x2 :: xs).toArray:=by simp
   rw [this]
   refine .tup (by simpa using h2) fun k hk=>?_
   have e:(x1 :: x2 :: xs).toArray.getD k undef=(x1 :: x2 :: xs).getD k undef:=by
    rw [Array.getD_eq_getD_getElem?,List.getElem?_toArray,List.getD_eq_getElem?_getD]
   rw [e]
   exact h3 k hk
theorem PCall.of_ax {P:Program} {f:FuncId} {fn:Func} {c:Code} {args:List V} {r:V} {rows:List Row} (hcf:∀ xs w,(callFunc f xs).run P w=.ok (.enter f xs) w) (hf:P.funcs[f]? = some fn) (hb:fn.body=some c) (hN:args.length≤fn.ntmps)
  (h:∀ (O:Nat→Prop) (w:World),AX P ⟨fn.ntmps,O,fun _=>False,w,0,fun _=>none⟩ c ⟨argFr 0 args,[],0⟩ (fun e st=>(e=.ret∨e=.normal)∧Done P fn.results r rows st)):PCall P f args r rows:=by
 refine ⟨hcf,fun O w xs hO hsz hr=>?_⟩
 refine calls_of_wp hf hb ?_
 have hFd0:∀ b,Fd ⟨fn.ntmps,O,fun _=>False,w,0,fun _=>none⟩ (fun _=>none) (lkp []) b→O b:=by
  rintro b (ho | ⟨m,hm,_⟩)
  ·exact ho
  ·simp [lkp] at hm
 have hs0:SimS ⟨fn.ntmps,O,fun _=>False,w,0,fun _=>none⟩ (fun _=>none) ⟨argFr 0 args,[],0⟩ { tmps:=xs++Array.replicate (fn.ntmps-xs.size) undef,defers:=[] } w:={
  sz:=by simp;omega
  df:=rfl
  tm:=by
   intro t v ht
   obtain ⟨h1,h2,h3⟩:=argFr_look args 0 t v ht
   refine ⟨by show t<fn.ntmps;omega,?_⟩
   subst h3
   have e:(xs++Array.replicate (fn.ntmps-xs.size) undef).getD t undef=xs.getD t undef:=by
    rw [Array.getD_eq_getD_getElem?,Array.getElem?_append_left (by omega),Array.getD_eq_getD_getElem?]
   rw [e]
   exact ((hr t (by omega)).mono (fun b _ hF=>⟨fun h=>hF (hFd0 b h),rfl⟩) (fun _ c _ _ h=>⟨c,rfl,h⟩) (Nat.le_refl _) (fun _ hD=>hD.elim))
  row:=fun m q hq=>by simp [lkp] at hq
  old:=fun m b hm=>by simp [lkp] at hm
  inj:=fun m m' b hm=>by simp [lkp] at hm
  st:=Step.refl _ _
  ob:=fun b hb=>⟨hO b hb,fun f=>f⟩
  gv:=fun n hn=>absurd hn (Nat.not_lt_zero n) }
 refine wp_mono (h O w _ _ _ hs0) ?_
 rintro e a' w' ⟨st',env',⟨he,vs,hvs,keep,g,v,hp,hfz,rfl,hlt,hrows,hginj⟩,hs'⟩
 obtain ⟨x,hx,hxr⟩:=results_sound hs' hvs
 obtain ⟨s2,f2,r2⟩:=frz_sound keep (packV vs) st'.hp hfz hs'
 have hfin:a'.defers=[]∧∃ v,(results fn a'.tmps).run P w'=.ok v w'∧∃ x,Ending.returned v=.returned x∧Came O w w' x r rows:=by
  refine ⟨hs'.df,x,hx,x,rfl,hs'.st,fun m=>env' (g m),?_⟩
  have hgl:∀ m,m<rows.length→(lkp hp (g m)).isSome=true:=by
   intro m hm
   obtain ⟨h1,_⟩:=hrows m _ (List.getElem?_eq_getElem hm)
   rw [h1];rfl
  have hF:∀ b,PFd O rows (fun m=>env' (g m)) b→Fd ⟨fn.ntmps,O,fun _=>False,w,0,fun _=>none⟩ env' (lkp hp) b:=by
   rintro b (ho | ⟨m,hm,he⟩)
   ·exact .inl ho
   ·exact .inr ⟨g m,hgl m hm,he⟩
  refine ⟨?_,?_,?_,?_⟩
  ·intro m q hq
   obtain ⟨h1,h2⟩:=hrows m q hq
   rcases (s2.row _ _ h1).2 with ⟨blk,c,he,hw,hl,hc⟩ | ⟨he,hv⟩ | ⟨blk,he,ht⟩
   ·simp only [Row.ren,renL_length] at hl hc
    refine .inl ⟨blk,c,he,hw,hl,fun k hk=>?_⟩
    have:=hc k hk
    rw [renL_getD] at this
    exact (this.unren rfl (ltL_getD h2 k)).sub hF
   ·refine .inr (.inl ⟨he,?_⟩)
    have:=congrArg List.length hv
    simp only [Row.ren,renL_length] at this
    exact List.eq_nil_of_length_eq_zero this
   ·obtain ⟨es,cl,ks,t1,t2,t3⟩:=ht
    refine .inr (.inr ⟨blk,he,es,cl,ks,t1,?_,t3⟩)
    simp only [Row.ren] at t2
    exact renL_tab t2
  ·intro m b hm he
   rcases (s2.old (g m) b (hgl m hm) he).2 with h3 | h3
   ·exact h3
   ·exact h3.elim
  ·intro m m' b hm hm' he he'
   exact hginj m m' hm hm' (s2.inj (g m) (g m') b (hgl m hm) (hgl m' hm') he he')
  ·exact ((r2 x hxr).unren rfl hlt).sub hF
 rcases he with rfl | rfl<;>exact hfin
def HCall (P:Program) (f:FuncId) (args:List V) (q0 q1:Row) (r:V):Prop:=
 (∀ xs w,(callFunc f xs).run P w=.ok (.enter f xs) w) ∧
 ∀ (O:Nat→Prop) (w:World) (blk:Nat) (xs:Array Value),(∀ b,O b→b<w.heap.size)→¬ O blk →
  RowAt (fun b=>O b∨b=blk) w (fun _=>some blk) (· < 1) 0 q0→xs.size=args.length →
  (∀ k,k<args.length→Rep (fun b=>O b∨b=blk) w (fun _=>some blk) (· < 1) (xs.getD k undef) (args.getD k .junk)) →
  Calls P f xs w (fun e w'=>∃ x,e=.returned x∧Step (fun b=>b=blk) w w'∧RowAt (fun b=>O b∨b=blk) w' (fun _=>some blk) (· < 1) 0 q1 ∧
   Rep (fun b=>O b∨b=blk) w' (fun _=>some blk) (· < 1) x r)
def DoneH (P:Program) (rs:Array ResultVar) (r:V) (q1:Row) (st:St):Prop:=
 ∃ vs,resVs P st rs.toList=some vs∧packV vs=r∧r.lt 1=true∧r.ren (fun _=>0)=r∧lkp st.hp 0=some q1∧V.ltL 1 q1.cells=true∧V.renL (fun _=>0) q1.cells=q1.cells
theorem HCall.of_ax {P:Program} {f:FuncId} {fn:Func} {c:Code} {args:List V} {q0 q1:Row} {r:V} (hcf:∀ xs w,(callFunc f xs).run P w=.ok (.enter f xs) w) (hf:P.funcs[f]? = some fn) (hb:fn.body=some c) (hN:args.length≤fn.ntmps)
  (h:∀ (O M:Nat→Prop) (w:World) (G:Env),AX P ⟨fn.ntmps,O,M,w,1,G⟩ c ⟨argFr 0 args,[(0,q0)],1⟩ (fun e st=>(e=.ret∨e=.normal)∧DoneH P fn.results r q1 st)):HCall P f args q0 q1 r:=by
 refine ⟨hcf,fun O w blk xs hO hblk hrow hsz hr=>?_⟩
 refine calls_of_wp hf hb ?_
 have hl0:∀ m q,lkp [(0,q0)] m=some q→m=0∧q=q0:=by
  intro m q hq
  simp only [lkp] at hq
  split at hq
  ·cases hq
   rename_i e
   exact ⟨e,rfl⟩
  ·cases hq
 have hl1:∀ m,(lkp [(0,q0)] m).isSome=true→m=0:=by
  intro m hm
  obtain ⟨q,hq⟩:=Option.isSome_iff_exists.1 hm
  exact (hl0 m q hq).1
 have hFd0:∀ b,Fd ⟨fn.ntmps,O,fun b=>b=blk,w,1,fun _=>some blk⟩ (fun _=>some blk) (lkp [(0,q0)]) b→O b∨b=blk:=by
  rintro b (ho | ⟨m,hm,he⟩)
  ·exact .inl ho
  ·cases he
   exact .inr rfl
 have hs0:SimS ⟨fn.ntmps,O,fun b=>b=blk,w,1,fun _=>some blk⟩ (fun _=>some blk) ⟨argFr 0 args,[(0,q0)],1⟩ { tmps:=xs++Array.replicate (fn.ntmps-xs.size) undef,defers:=[] } w:={
  sz:=by simp;omega
  df:=rfl
  tm:=by
   intro t v ht
   obtain ⟨h1,h2,h3⟩:=argFr_look args 0 t v ht
   refine ⟨by show t<fn.ntmps;omega,?_⟩
   subst h3
   have e:(xs++Array.replicate (fn.ntmps-xs.size) undef).getD t undef=xs.getD t undef:=by
    rw [Array.getD_eq_getD_getElem?,Array.getElem?_append_left (by omega),Array.getD_eq_getD_getElem?]
   rw [e]
   exact (hr t (by omega)).sub hFd0
  row:=by
   intro m q hq
   obtain ⟨rfl,rfl⟩:=hl0 m q hq
   refine ⟨Nat.lt_succ_self 0,?_⟩
   rcases hrow with ⟨b',c',h1,h2,h3,h4⟩ | hrow
   ·exact .inl ⟨b',c',h1,h2,h3,fun k hk=>(h4 k hk).sub hFd0⟩
   ·exact .inr hrow
  old:=by
   intro m b hm he
   cases he
   exact ⟨hblk,.inr rfl⟩
  inj:=fun m m' b hm hm' _ _=>(hl1 m hm).trans (hl1 m' hm').symm
  st:=Step.refl _ _
  ob:=fun b hb=>⟨hO b hb,fun e=>hblk (e ▸ hb)⟩
  gv:=fun n hn=>⟨hn,rfl⟩ }
 refine wp_mono (h O (fun b=>b=blk) w (fun _=>some blk) _ _ _ hs0) ?_
 rintro e a' w' ⟨st',env',⟨he,vs,hvs,hpk,hlt,hren,hq1,hltq,hrenq⟩,hs'⟩
 obtain ⟨x,hx,hxr⟩:=results_sound hs' hvs
 have he0:env' 0=some blk:=(hs'.gv 0 (Nat.lt_succ_self 0)).2
 have hF:∀ b,O b∨b=blk→Fd ⟨fn.ntmps,O,fun b=>b=blk,w,1,fun _=>some blk⟩ env' (lkp st'.hp) b:=by
  rintro b (ho | rfl)
  ·exact .inl ho
  ·exact .inr ⟨0,by rw [hq1];rfl,he0⟩
 have hback:∀ {x:Value} {v:V},v.lt 1=true→Rep (Fd ⟨fn.ntmps,O,fun b=>b=blk,w,1,fun _=>some blk⟩ env' (lkp st'.hp)) w' env' (· < st'.nx) x (v.ren fun _=>0)→Rep (fun b=>O b∨b=blk) w' (fun _=>some blk) (· < 1) x v:=by
  intro x v hv hx
  have h1:=(hx.unren rfl hv).sub hF
  rw [he0] at h1
  exact h1
 have hfin:a'.defers=[]∧∃ v,(results fn a'.tmps).run P w'=.ok v w'∧∃ x,Ending.returned v=.returned x∧Step (fun b=>b=blk) w w'∧RowAt (fun b=>O b∨b=blk) w' (fun _=>some blk) (· < 1) 0 q1 ∧
   Rep (fun b=>O b∨b=blk) w' (fun _=>some blk) (· < 1) x r:=by
  refine ⟨hs'.df,x,hx,x,rfl,hs'.st,?_,?_⟩
  ·rcases (hs'.row 0 q1 hq1).2 with ⟨b',c',h1,h2,h3,h4⟩ | ⟨h1,h2⟩ | ⟨b',h1,h2⟩
   ·rw [he0] at h1
    cases h1
    refine .inl ⟨blk,c',rfl,h2,h3,fun k hk=>hback (ltL_getD hltq k) ?_⟩
    rw [← renL_getD,hrenq]
    exact h4 k hk
   ·rw [he0] at h1
    cases h1
   ·rw [he0] at h1
    cases h1
    exact .inr (.inr ⟨blk,rfl,h2⟩)
  ·refine hback hlt ?_
   rw [hren,← hpk]
   exact hxr
 rcases he with rfl | rfl<;>exact hfin
theorem Sim.given {C:Ctx} {env:Env} {fr:Nat→Option V} {hp:Nat→Option Row} {D:Nat→Prop} {a:Act} {w w':World} (h:Sim C env fr hp D a w) {n blk:Nat} {r r':Row} (hr:hp n=some r) (he:env n=some blk)
  (hs:Step (fun b=>b=blk) w w') (hrow:RowAt (Fd C env (upd hp n (some r'))) w' env D n r'):Sim C env fr (upd hp n (some r')) D a w':=by
 have hsome:(hp n).isSome=true:=by simp [hr]
 have hFblk:Fd C env hp blk:=.inr ⟨n,hsome,he⟩
 have hiff:∀ m,((upd hp n (some r')) m).isSome=true↔(hp m).isSome=true:=by
  intro m
  by_cases e:m=n
  ·subst e;simp [hr]
  ·rw [upd_ne _ _ e]
 have hFd:∀ b,Fd C env (upd hp n (some r')) b↔Fd C env hp b:=by
  intro b
  unfold Fd
  simp only [hiff]
 have keep:∀ b,b<w.heap.size→¬ Fd C env hp b→¬ Fd C env (upd hp n (some r')) b∧w'.heap[b]? = w.heap[b]? := by
  intro b hb hF
  exact ⟨fun h=>hF ((hFd b).1 h),hs.keep b hb (fun e=>hF (e ▸ hFblk))⟩
 have lift:∀ {x:Value} {v:V},Rep (Fd C env hp) w env D x v→Rep (Fd C env (upd hp n (some r'))) w' env D x v:=
  fun hx=>hx.mono keep hs.shape hs.size (fun _ hD=>⟨hD,rfl⟩)
 exact {
  sz:=h.sz
  df:=h.df
  tm:=fun t v ht=>⟨(h.tm t v ht).1,lift (h.tm t v ht).2⟩
  row:=by
   intro m r1 hr1
   by_cases e:m=n
   ·subst e
    rw [upd_same] at hr1
    cases hr1
    exact ⟨(h.row m r hr).1,hrow⟩
   ·rw [upd_ne _ _ e] at hr1
    refine ⟨(h.row m r1 hr1).1,?_⟩
    rcases (h.row m r1 hr1).2 with ⟨blk1,c1,he1,hw1,hl1,hc1⟩ | hv | ⟨blk1,he1,ht⟩
    ·have hne:blk1≠blk:=by
      intro eb
      subst eb
      exact e (h.inj m n blk1 (by simp [hr1]) hsome he1 he)
     exact .inl ⟨blk1,c1,he1,(hs.keep blk1 (lt_of_heap hw1) hne).trans hw1,hl1,fun k hk=>lift (hc1 k hk)⟩
    ·exact .inr (.inl hv)
    ·have hne:blk1≠blk:=by
      intro eb
      subst eb
      exact e (h.inj m n blk1 (by simp [hr1]) hsome he1 he)
     exact .inr (.inr ⟨blk1,he1,ht.keep fun hb=>hs.keep blk1 hb hne⟩)
  old:=fun m b hm he'=>h.old m b ((hiff m).1 hm) he'
  inj:=fun m m' b hm hm' e1 e2=>h.inj m m' b ((hiff m).1 hm) ((hiff m').1 hm') e1 e2
  st:=by
   refine h.st.trans hs ?_
   rintro b hb' rfl
   rcases (h.old n b hsome he).2 with hlt | hM
   ·exact absurd hb' (Nat.not_lt.2 hlt)
   ·exact hM
  ob:=h.ob
  gv:=h.gv }
theorem hcall_sound {P:Program} {C:Ctx} {env:Env} {st:St} {a:Act} {w:World} (hs:SimS C env st a w) {o:Oper} {c:Call} {g:Operand} (ho:o.op=.call c) (hcal:c.callee=.value g) {f:FuncId} {args0:List V} {n:Nat} {q0 q1:Row} {r:V}
  (hv:valsOf st.fr o.op.operands.toList=some (.fn f [] :: V.renL (fun _=>n) args0)) (hlt:V.ltL 1 args0=true) (hq:lkp st.hp n=some (q0.ren fun _=>n)) (hltq:V.ltL 1 q0.cells=true) (hne:q0.cells≠[]) (hc:HCall P f args0 q0 q1 r)
  {K:Act→World→Prop} {Q:Exit→Act→World→Prop}
  (hk:∀ x w',Sim C env (lkp st.fr) (lkp (setL st.hp n (q1.ren fun _=>n))) (· < st.nx) a w'→Rep (Fd C env (lkp (setL st.hp n (q1.ren fun _=>n)))) w' env (· < st.nx) x (r.ren fun _=>n)→K (a.put o.dst x) w'):o.wp P a w K Q:=by
 obtain ⟨hl,hr⟩:=valsOf_sound hs hv
 rw [ho] at hl hr
 have hops:(Op.call c).operands.toList=g :: c.args.toList:=by simp [Op.operands,Call.operands,hcal]
 rw [hops] at hl hr
 have hg0:Rep _ w env _ (a.eval g) (.fn f []):=hr 0 (by simp)
 obtain ⟨hcf,hcalls⟩:=hc
 generalize hgv:a.eval g=gv at hg0
 cases hg0 with
 | fn hsz hcr=>
  rename_i xcaps
  have hx0:xcaps=#[]:=Array.eq_empty_of_size_eq_zero hsz
  subst hx0
  have hrun:(execOp a.eval o).run P w=.ok (.enter f (c.args.map a.eval)) w:=by
   unfold execOp
   rw [ho]
   simp only [Sem.run_bind]
   have h1:(resolve a.eval c o.type).run P w=.ok { target:=.fn (.func f) #[],args:=c.args.map a.eval } w:=by
    unfold resolve
    simp only [hcal,hgv,Deferred.ofValue,Array.empty_append]
    rfl
   rw [h1]
   simp only [Result.andThen_ok,invoke,Array.append_empty]
   exact hcf _ _
  unfold Oper.wp
  rw [hrun,Oper.upon_enter]
  have hlen:args0.length=c.args.size:=by simpa [renL_length] using hl
  obtain ⟨hDn,hrow⟩:=hs.row n _ hq
  have hAC:(∃ blk,env n=some blk∧((∃ c0:Array Value,w.heap[blk]? = some (.cells c0 (q0.ren fun _=>n).T (0,0))∧(q0.ren fun _=>n).cells.length≤c0.size∧∀ k,k<(q0.ren fun _=>n).cells.length→Rep (Fd C env (lkp st.hp)) w env (· < st.nx) (c0.getD k undef) ((q0.ren fun _=>n).cells.getD k .junk))∨Tb w blk (q0.ren fun _=>n)))∨(q0.ren fun _=>n).cells=[]:=by
   rcases hrow with ⟨blk,c0,he,h⟩ | ⟨_,hv0⟩ | ⟨blk,he,ht⟩
   ·exact .inl ⟨blk,he,.inl ⟨c0,h⟩⟩
   ·exact .inr hv0
   ·exact .inl ⟨blk,he,.inr ht⟩
  rcases hAC with ⟨blk,he,hAC⟩ | hv0
  ·have hsome:(lkp st.hp n).isSome=true:=by rw [hq];rfl
   have hnO:¬ Fd C env (lkp (dlt st.hp n)) blk:=by
    rw [lkp_dlt]
    rintro (ho' | ⟨m,hm,he'⟩)
    ·exact (hs.old n blk hsome he).1 ho'
    ·by_cases e:m=n
     ·subst e;simp at hm
     ·rw [upd_ne _ _ e] at hm
      exact e (hs.inj m n blk hm hsome he' he)
   have hF1:∀ b,(Fd C env (lkp (dlt st.hp n)) b∨b=blk)→Fd C env (lkp st.hp) b:=by
    rintro b (h1 | rfl)
    ·rw [lkp_dlt] at h1
     exact h1.drop
    ·exact .inr ⟨n,hsome,he⟩
   have hin:∀ {x:Value} {v:V},v.lt 1=true→Rep (Fd C env (lkp st.hp)) w env (· < st.nx) x (v.ren fun _=>n)→Rep (fun b=>Fd C env (lkp (dlt st.hp n)) b∨b=blk) w (fun _=>some blk) (· < 1) x v:=by
    intro x v hv hx
    have h1:=(hx.unren rfl hv).sub hF1
    rw [he] at h1
    exact h1
   refine (hcalls (Fd C env (lkp (dlt st.hp n))) w blk (c.args.map a.eval) (fun b hb=>hs.fd_lt (hF1 b (.inl hb))) hnO ?_ (by simp [hlen]) ?_).mono ?_
   ·rcases hAC with ⟨c0,hw,hcl,hcc⟩ | ⟨es,cl,ks,t1,t2,t3⟩
    ·simp only [Row.ren,renL_length] at hcl hcc
     refine .inl ⟨blk,c0,rfl,hw,hcl,fun k hk=>hin (ltL_getD hltq k) ?_⟩
     rw [← renL_getD]
     exact hcc k hk
    ·simp only [Row.ren] at t2
     exact .inr (.inr ⟨blk,rfl,es,cl,ks,t1,renL_tab t2,t3⟩)
   ·intro k hk
    refine hin (ltL_getD hlt k) ?_
    have h1:=hr (k+1) (by simp [renL_length];omega)
    simp only [List.getD_cons_succ,renL_getD] at h1
    have e1:(c.args.map a.eval).getD k undef=a.eval (c.args.toList.getD k (.const undef)):=by
     rw [Array.getD_eq_getD_getElem?]
     simp [List.getD_eq_getElem?_getD,show k<c.args.size by omega]
    rw [e1]
    exact h1
   rintro e w' ⟨x,rfl,hstep,hrow1,hres⟩
   show K (a.put o.dst x) w'
   have hF2:∀ b,Fd C env (upd (lkp st.hp) n (some (q1.ren fun _=>n))) b→(Fd C env (lkp (dlt st.hp n)) b∨b=blk):=by
    rintro b (h1 | ⟨m,hm,he'⟩)
    ·exact .inl (.inl h1)
    ·by_cases e:m=n
     ·subst e
      rw [he] at he'
      cases he'
      exact .inr rfl
     ·rw [upd_ne _ _ e] at hm
      exact .inl (.inr ⟨m,by rw [lkp_dlt,upd_ne _ _ e];exact hm,he'⟩)
   have hout:∀ {x:Value} {v:V},Rep (fun b=>Fd C env (lkp (dlt st.hp n)) b∨b=blk) w' (fun _=>some blk) (· < 1) x v→Rep (Fd C env (upd (lkp st.hp) n (some (q1.ren fun _=>n)))) w' env (· < st.nx) x (v.ren fun _=>n):=
    fun hx=>(hx.sub hF2).ren (fun _=>n) (fun j hj=>⟨hDn,he⟩)
   refine hk x w' ?_ ?_
   ·rw [lkp_set]
    refine hs.given hq he hstep ?_
    rcases hrow1 with ⟨b',c',h1,h2,h3,h4⟩ | ⟨h1,h2⟩ | ⟨b',h1,es,cl,ks,t1,t2,t3⟩
    ·cases h1
     refine .inl ⟨blk,c',he,h2,by simp only [Row.ren,renL_length];exact h3,fun k hk=>?_⟩
     simp only [Row.ren,renL_length] at hk
     show Rep _ _ _ _ _ ((V.renL (fun _=>n) q1.cells).getD k .junk)
     rw [renL_getD]
     exact hout (h4 k hk)
    ·cases h1
    ·cases h1
     exact .inr (.inr ⟨blk,he,es,cl,ks,t1,by simp [Row.ren,t2,V.renL,V.ren],t3⟩)
   ·rw [lkp_set]
    exact hout hres
  ·exact absurd (List.eq_nil_of_length_eq_zero (by have:=congrArg List.length hv0;simpa [Row.ren,renL_length] using this)) hne
structure PO where
 dst:Option Tmp
 op:Op
 g:Option (Option Tmp × Bool)
def prepL (ops:Array Oper):List Oper→List PO
 | []=>[]
 | o :: l=>⟨o.dst,o.op,match o.guard with
  | none=>none
  | some (j,w)=>some (gslot ops j,w)⟩ :: prepL ops l
def prep (ops:Array Oper):List PO:=prepL ops ops.toList
def opsOf:Op→List Operand
 | .move x=>[x]
 | .assign x=>[x]
 | .box _ x=>[x]
 | .load _ x=>[x]
 | .unOp _ _ x=>[x]
 | .convert _ _ x=>[x]
 | .fieldAddr _ x _=>[x]
 | .field _ x _=>[x]
 | .extract x _=>[x]
 | .pick c a b=>[c,a,b]
 | .store _ a v=>[a,v]
 | .binOp _ _ a v _=>[a,v]
 | .makeSlice _ a v=>[a,v]
 | .indexAddr _ a v=>[a,v]
 | .index _ a v=>[a,v]
 | .lookup _ a v _=>[a,v]
 | .mapUpdate _ a k v=>[a,k,v]
 | .makeMap _ r=>r.toList
 | .alloc _=>[]
 | .build _ ps=>ps.toList.map (·.2)
 | .buildSlice _ _ ps=>ps.toList.map (·.2)
 | .slice _ x l h m=>x :: (l.toList++(h.toList++m.toList))
 | .call c=>match c.callee with
  | .value f=>f :: c.args.toList
  | .builtin _=>c.args.toList
  | .invoke _ _=>(Op.call c).operands.toList
 | op=>op.operands.toList
theorem opsOf_eq (op:Op):opsOf op=op.operands.toList:=by
 cases op<;>try rfl
 case slice t x l h m=>cases l<;>cases h<;>cases m<;>rfl
 case makeMap t r=>cases r<;>rfl
 case call c=>
  unfold opsOf
  simp only [Op.operands,Call.operands]
  split
  ·rename_i f hf;simp [hf]
  ·rename_i b hb;simp [hb]
  ·rfl
def guardP (fr:List (Nat × V)):Option (Option Tmp × Bool)→Option Bool
 | none=>some true
 | some (some d,want)=>match lkp fr d with
  | some (.b x)=>some (x == want)
  | some (.tup [])=>some false
  | _=>none
 | some (none,_)=>none
def landS (r:V) (rows:List Row) (hp hp1:List (Nat × Row)) (nx:Nat):V × List (Nat × Row) × Nat:=
 if plainV r=true∧rows=[] then (r,hp,nx) else (r.ren (nx+·),namedRows nx nx rows++hp1,nx+rows.length)
inductive RunO (P:Program) (N:Nat):List PO→St→St→Prop
 | nil {st:St}:RunO P N [] st st
 | op {o:PO} {l:List PO} {st st1 st2:St} {vs:List V} {e:Eff} {v:V} {hp:List (Nat × Row)} {u:Bool}:isCall o.op=false→guardP st.fr o.g=some true→valsOf st.fr (opsOf o.op)=some vs→eff P o.op vs=some e→e.runL st.nx st.hp=some (v,hp,u) →
   putSt N o.dst v st.fr hp (if u=true then st.nx+1 else st.nx)=some st1→RunO P N l st1 st2→RunO P N (o :: l) st st2
 | call {o:PO} {l:List PO} {st st1 st2:St} {f:FuncId} {caps args args':List V} {hp1:List (Nat × Row)} {r v:V} {rows:List Row} {hp:List (Nat × Row)} {nx:Nat}:isCall o.op=true→guardP st.fr o.g=some true→valsOf st.fr (opsOf o.op)=some (.fn f caps :: args)→frzL [] (args++caps) st.hp=some (args',hp1)→V.hfL args'=true→PCall P f args' r rows →
   landS r rows st.hp hp1 st.nx=(v,hp,nx)→putSt N o.dst v st.fr hp nx=some st1→RunO P N l st1 st2→RunO P N (o :: l) st st2
 | hcall {o:PO} {l:List PO} {st st1 st2:St} {f:FuncId} {args args0:List V} {n:Nat} {q q' q0 q1:Row} {r v:V}:isCall o.op=true→guardP st.fr o.g=some true→valsOf st.fr (opsOf o.op)=some (.fn f [] :: args)→HCall P f args0 q0 q1 r→args=V.renL (fun _=>n) args0→V.ltL 1 args0=true→lkp st.hp n=some q→q=(q0.ren fun _=>n)→V.ltL 1 q0.cells=true→q0.cells≠[] →
   q'=(q1.ren fun _=>n)→v=(r.ren fun _=>n)→putSt N o.dst v st.fr (setL st.hp n q') st.nx=some st1→RunO P N l st1 st2→RunO P N (o :: l) st st2
 | skip {o:PO} {l:List PO} {st st1 st2:St}:guardP st.fr o.g=some false→putSt N o.dst (.tup []) st.fr st.hp st.nx=some st1→RunO P N l st1 st2→RunO P N (o :: l) st st2
 | sem {o:PO} {l:List PO} {st st1 st2:St}:(∀ (ops:Array Oper) (i:Nat) (o':Oper),ops[i]? = some o'→(⟨o'.dst,o'.op,match o'.guard with
  | none=>none
  | some (j,w)=>some (gslot ops j,w)⟩:PO)=o→∀ (C:Ctx) (env:Env) (a:Act) (w:World),C.N=N→SimS C env st a w→∀ (K:Act→World→Prop) (Q:Exit→Act→World→Prop),(∀ env' a' w',SimS C env' st1 a' w'→K a' w')→wpOp P ops Q i K a w) →
   RunO P N l st1 st2→RunO P N (o :: l) st st2
theorem guardP_eq (ops:Array Oper)(N:Nat)(fr:List (Nat × V))(o:Oper):guardOf ops N fr o=guardP fr (match o.guard with
  | none=>none
  | some (j,w)=>some (gslot ops j,w)):=by
 unfold guardOf guardP
 cases o.guard with
 | none=>rfl
 | some p=>
  obtain ⟨j,want⟩:=p
  simp only
  cases gslot ops j<;>rfl
open Classical in
noncomputable def oneG (f:FuncId) (args:List V) (r:V) (rows:List Row):Specs:=fun f' args'=>if f'=f∧args'=args then some (r,rows) else none
theorem oneG_ok {P:Program} {f:FuncId} {args:List V} {r:V} {rows:List Row} (h:PCall P f args r rows):∀ f' args' r' rows',oneG f args r rows f' args'=some (r',rows')→PCall P f' args' r' rows':=by
 intro f' args' r' rows' h'
 unfold oneG at h'
 split at h'
 ·rename_i e
  obtain ⟨rfl,rfl⟩:=e
  cases h'
  exact h
 ·cases h'
def noG:Specs:=fun _ _=>none
theorem noG_ok {P:Program}:∀ f' args' r' rows',noG f' args'=some (r',rows')→PCall P f' args' r' rows':=fun _ _ _ _ h=>by cases h
theorem RunO.step {P:Program} {N:Nat} {ops:Array Oper} {o:Oper} {l:List PO} {st st2:St} (h:RunO P N (⟨o.dst,o.op,match o.guard with
  | none=>none
  | some (j,w)=>some (gslot ops j,w)⟩ :: l) st st2):(∃ st1 G,(∀ f args r rows,G f args=some (r,rows)→PCall P f args r rows)∧stepOp P G N ops st o=some st1∧RunO P N l st1 st2) ∨
  (∃ (st1:St) (f:FuncId) (args0:List V) (n:Nat) (q0 q1:Row) (r:V),isCall o.op=true∧guardOf ops N st.fr o=some true∧valsOf st.fr o.op.operands.toList=some (.fn f [] :: V.renL (fun _=>n) args0)∧HCall P f args0 q0 q1 r∧V.ltL 1 args0=true∧lkp st.hp n=some (q0.ren fun _=>n)∧V.ltL 1 q0.cells=true∧q0.cells≠[] ∧
   putSt N o.dst (r.ren fun _=>n) st.fr (setL st.hp n (q1.ren fun _=>n)) st.nx=some st1∧RunO P N l st1 st2) ∨
  ∃ st1:St,(∀ i:Nat,ops[i]? = some o→∀ (C:Ctx) (env:Env) (a:Act) (w:World),C.N=N→SimS C env st a w→∀ (K:Act→World→Prop) (Q:Exit→Act→World→Prop),(∀ env' a' w',SimS C env' st1 a' w'→K a' w')→wpOp P ops Q i K a w)∧RunO P N l st1 st2:=by
 cases h with
 | op h1 h2 h3 h4 h5 h6 h7=>
  rename_i st1 vs e v hp u
  refine .inl ⟨st1,noG,noG_ok,?_,h7⟩
  unfold stepOp
  rw [guardP_eq]
  simp only [opsOf_eq] at h3
  simp only [h2,h3,h1,h4,h5,Bool.false_eq_true,if_false]
  exact h6
 | call h1 h2 h3 h4 h5 h6 h7 h8 h9=>
  rename_i st1 f caps args args' hp1 r v rows hp nx
  refine .inl ⟨st1,oneG f args' r rows,oneG_ok h6,?_,h9⟩
  have hc:callStep (oneG f args' r rows) (.fn f caps :: args) st.hp st.nx=some (v,hp,nx):=by
   have:oneG f args' r rows f args'=some (r,rows):=by simp [oneG]
   simp only [callStep,h4,h5,this,if_true]
   unfold landS at h7
   split
   ·rename_i hpl
    rw [if_pos hpl] at h7
    simp only [Prod.mk.injEq] at h7
    obtain ⟨rfl,rfl,rfl⟩:=h7
    rfl
   ·rename_i hpl
    rw [if_neg hpl] at h7
    simp only [Prod.mk.injEq] at h7
    obtain ⟨rfl,rfl,rfl⟩:=h7
    rfl
  unfold stepOp
  rw [guardP_eq]
  simp only [opsOf_eq] at h3
  simp only [h2,h3,h1,hc,if_true]
  exact h8
 | skip h1 h2 h3=>
  rename_i st1
  refine .inl ⟨st1,noG,noG_ok,?_,h3⟩
  unfold stepOp
  rw [guardP_eq]
  simp only [h1]
  exact h2
 | hcall h1 h2 h3 h4 h5 h6 h7 h8 h9 h10 h11 h12 h13 h14=>
  rename_i st1 f args args0 n q q' q0 q1 r v
  subst h5 h8 h11 h12
  refine .inr (.inl ⟨st1,f,args0,n,q0,q1,r,h1,?_,by rw [← opsOf_eq];exact h3,h4,h6,h7,h9,h10,h13,h14⟩)
  rw [guardP_eq]
  exact h2
 | sem h1 h2=>
  rename_i st1
  exact .inr (.inr ⟨st1,fun i hi C env a w=>h1 ops i o hi rfl C env a w,h2⟩)
theorem RunO.spec {P:Program} {C:Ctx} {ops:Array Oper} {Q:Exit→Act→World→Prop}:∀ (l:List Oper) (i:Nat) (st st':St),ops.toList.drop i=l→RunO P C.N (prepL ops l) st st'→∀ (env:Env) (a:Act) (w:World),SimS C env st a w →
  (∀ env' a' w',SimS C env' st' a' w'→Q .normal a' w')→wpOps P ops Q (List.range' i l.length) a w:=by
 intro l
 induction l with
 | nil=>
  intro i st st' hd h env a w hs hk
  cases h
  exact hk env a w hs
 | cons o l ih=>
  intro i st st' hd h env a w hs hk
  have hi:ops[i]? = some o:=by
   have:(ops.toList.drop i)[0]? = some o:=by rw [hd];rfl
   simpa using this
  have hd':ops.toList.drop (i+1)=l:=by
   rw [← List.drop_drop,hd]
   rfl
  rw [List.length_cons,List.range'_succ,wpOps_cons]
  rcases RunO.step h with ⟨st1,G,hG,h1,h2⟩ | ⟨st1,f,args0,n,q0,q1,r,h1,h2,h3,h4,h5,h6,h7,h8,h9,h10⟩ | ⟨st1,h1,h2⟩
  ·exact stepOp_sound hG hs h1 hi fun env' a' w' hs'=>ih (i+1) st1 st' hd' h2 env' a' w' hs' hk
  ·unfold wpOp
   simp only [hi]
   have hw:=guard_sound hs h2
   rw [if_pos hw]
   refine .inl ?_
   cases hop:o.op with
   | call c=>
    rw [hop] at h1
    simp only [isCall] at h1
    split at h1
    ·rename_i g hcal
     exact hcall_sound hs hop hcal h3 h5 h6 h7 h8 h4 fun x w' hs' hr=>ih (i+1) st1 st' hd' h10 env _ w' (putSt_sound h9 hs' hr) hk
    ·cases h1
   | _=>rw [hop] at h1;simp [isCall] at h1
  ·exact h1 i hi C env a w rfl hs _ _ fun env' a' w' hs'=>ih (i+1) st1 st' hd' h2 env' a' w' hs' hk
inductive Keep:List Nat→List (Nat × V)→List (Nat × V)→Prop
 | nil {l:List Nat}:Keep l [] []
 | take {l:List Nat} {t:Nat} {v:V} {r r':List (Nat × V)}:l.contains t=true→Keep (l.filter (fun k=>!(k == t))) r r'→Keep l ((t,v) :: r) ((t,v) :: r')
 | drop {l:List Nat} {t:Nat} {v:V} {r r':List (Nat × V)}:l.contains t=false→Keep l r r'→Keep l ((t,v) :: r) r'
theorem Keep.mem {l:List Nat} {fr fr':List (Nat × V)} (h:Keep l fr fr'):∀ (t:Nat) (v:V),lkp fr' t=some v→t ∈ l:=by
 induction h with
 | nil=>intro t v h;simp [lkp] at h
 | take hc h ih=>
  intro t v hl
  simp only [lkp] at hl
  split at hl
  ·rename_i e;subst e;simpa using hc
  ·have:=ih t v hl
   rw [List.mem_filter] at this
   exact this.1
 | drop hc h ih=>exact ih
theorem Keep.lkp {l:List Nat} {fr fr':List (Nat × V)} (h:Keep l fr fr'):∀ (t:Nat) (v:V),lkp fr' t=some v→lkp fr t=some v:=by
 induction h with
 | nil=>intro t v h;exact h
 | take hc h ih=>
  intro t v hl
  simp only [Lift.lkp] at hl ⊢
  split at hl
  ·rename_i e;rw [if_pos e];exact hl
  ·rename_i e;rw [if_neg e];exact ih t v hl
 | drop hc h ih=>
  rename_i l k u r r'
  intro t v hl
  simp only [Lift.lkp]
  by_cases e:t=k
  ·subst e
   have:=h.mem t v hl
   have h2:l.contains t=true:=by simpa using this
   rw [h2] at hc
   cases hc
  ·rw [if_neg e]
   exact ih t v hl
section
variable {P:Program} {C:Ctx} {st:St} {Q:Exit→St→Prop}
theorem simS_keep {l:List Nat} {fr:List (Nat × V)} (hk:Keep l st.fr fr) {env:Env} {a:Act} {w:World} (hs:SimS C env st a w):SimS C env ⟨fr,st.hp,st.nx⟩ a w where
 sz:=hs.sz
 df:=hs.df
 tm:=fun t v ht=>hs.tm t v (hk.lkp t v ht)
 row:=hs.row
 old:=hs.old
 inj:=hs.inj
 st:=hs.st
 ob:=hs.ob
 gv:=hs.gv
theorem AX.keep {l:List Nat} {fr:List (Nat × V)} (hk:Keep l st.fr fr) {c:Code} (h:AX P C c ⟨fr,st.hp,st.nx⟩ Q):AX P C c st Q:=
 fun env a w hs=>h env a w (simS_keep hk hs)
theorem AX.reg (l:List Nat) {id:Nat} {ops:Array Oper} {po:List PO} {fr0 fr:List (Nat × V)} {hp1:List (Nat × Row)} {nx1:Nat} (hp:prep ops=po) (h:RunO P C.N po st ⟨fr0,hp1,nx1⟩) (hk:Keep l fr0 fr) (hq:Q .normal ⟨fr,hp1,nx1⟩) :
  AX P C (.region id ops false) st Q:=by
 subst hp
 intro env a w hs
 refine wp_region ?_
 have:=RunO.spec (C:=C) (Q:=fun e a' w'=>∃ st' env',Q e st'∧SimS C env' st' a' w') ops.toList 0 st _ (by simp) h env a w hs (fun env' a' w' hs'=>⟨_,env',hq,simS_keep (st:=⟨fr0,hp1,nx1⟩) hk hs'⟩)
 rwa [Array.length_toList,← List.range_eq_range'] at this
theorem AX.sreg (l:List Nat) {id:Nat} {ops:Array Oper} {po:List PO} {fr0 fr:List (Nat × V)} {hp1:List (Nat × Row)} {nx1:Nat} {y:Code} (hp:prep ops=po) (h:RunO P C.N po st ⟨fr0,hp1,nx1⟩) (hk:Keep l fr0 fr) (hq:AX P C y ⟨fr,hp1,nx1⟩ Q) :
  AX P C (.seq (.region id ops false) y) st Q:=AX.seq (AX.reg l hp h hk hq)
theorem AX.cond_true {c:Operand} {x y:Code} (hc:valOf st.fr c=some (.b true))(h:AX P C x st Q):AX P C (.cond c x y) st Q:=AX.cond hc h
theorem AX.cond_false {c:Operand} {x y:Code} (hc:valOf st.fr c=some (.b false))(h:AX P C y st Q):AX P C (.cond c x y) st Q:=AX.cond hc h
@[simp] theorem zn1 {c:Code}:thenS c P C Q .normal st=AX P C c st Q:=rfl
@[simp] theorem zn2 {c:Code}:thenS c P C Q .ret st=Q .ret st:=rfl
@[simp] theorem zn3 {c:Code} {id:Nat}:thenS c P C Q (.exit id) st=Q (.exit id) st:=rfl
@[simp] theorem zn4 {id:Nat}:blockS id Q .normal st=Q .normal st:=rfl
@[simp] theorem zn5 {id:Nat}:blockS id Q .ret st=Q .ret st:=rfl
@[simp] theorem zn6 {id id':Nat}:blockS id Q (.exit id') st=if id'=id then Q .normal st else Q (.exit id') st:=rfl
@[simp] theorem zn7 {g:Nat} {I:Nat→St→Prop} {n:Nat}:backS g I n Q .ret st=Q .ret st:=rfl
@[simp] theorem zn8 {g:Nat} {I:Nat→St→Prop} {n id:Nat}:backS g I n Q (.exit id) st=Q (.exit id) st:=rfl
theorem nmZ {p q : Prop} (h : p) (e : q = p := by first | (simp only [zn1,zn2,zn3,zn4,zn5,zn6,zn7,zn8,if_true]; rfl) | rfl) : q := e.mpr h
end
@[go_sem] theorem getD_nums (k:IntKind) (l:List Int) (j:Nat) (h:j<l.length):(l.map (V.i k)).getD j .junk=V.i k (l.getD j 0):=by
 simp [List.getD_eq_getElem?_getD,h]
@[go_sem] theorem cells_len (k:IntKind) (l:List Int) (j:Nat):(((l.map (V.i k)).getD j .junk).cells).length=1:=by
 rw [List.getD_eq_getElem?_getD,List.getElem?_map]
 cases l[j]? <;> rfl
@[go_sem] theorem cells_i (k:IntKind) (n:Int):(V.i k n).cells=[.i k n]:=rfl
@[go_sem] theorem cells_b (x:Bool):(V.b x).cells=[.b x]:=rfl
@[go_sem] theorem cells_s (x:ByteArray):(V.s x).cells=[.s x]:=rfl
@[go_sem] theorem cells_nl:V.nl.cells=[.nl]:=rfl
@[go_sem] theorem cells_sl (x:List V):(V.sl x).cells=[.sl x]:=rfl
@[go_sem] theorem cells_agg (x:List V):(V.agg x).cells=x:=rfl
@[go_sem] theorem cells_ptr (h o:Nat):(V.ptr h o).cells=[.ptr h o]:=rfl
@[go_sem] theorem cells_own (h o l e:Nat):(V.own h o l e).cells=[.own h o l e]:=rfl
@[go_sem] theorem cells_fn (f:Nat) (l:List V):(V.fn f l).cells=[.fn f l]:=rfl
@[go_sem] theorem cells_mp (h:Nat):(V.mp h).cells=[.mp h]:=rfl
@[go_sem] theorem tabOf_tab (T:TypeId) (ks:List (K0 × K0)):tabOf ⟨T,[.tab ks]⟩=some ks:=rfl
@[go_sem] theorem flat_mp (h:Nat):(V.mp h).flat=true:=rfl
@[go_sem] theorem isJunk_mp (h:Nat):(V.mp h).isJunk=false:=rfl
@[go_sem] theorem flat_i (k:IntKind) (n:Int):(V.i k n).flat=true:=rfl
@[go_sem] theorem flat_b (x:Bool):(V.b x).flat=true:=rfl
@[go_sem] theorem flat_s (x:ByteArray):(V.s x).flat=true:=rfl
@[go_sem] theorem flat_nl:V.nl.flat=true:=rfl
@[go_sem] theorem flat_sl (x:List V):(V.sl x).flat=true:=rfl
@[go_sem] theorem flat_ptr (h o:Nat):(V.ptr h o).flat=true:=rfl
@[go_sem] theorem flat_own (h o l e:Nat):(V.own h o l e).flat=true:=rfl
@[go_sem] theorem flat_fn (f:Nat) (l:List V):(V.fn f l).flat=true:=rfl
@[go_sem] theorem isJunk_i (k:IntKind) (n:Int):(V.i k n).isJunk=false:=rfl
@[go_sem] theorem isJunk_b (x:Bool):(V.b x).isJunk=false:=rfl
@[go_sem] theorem isJunk_s (x:ByteArray):(V.s x).isJunk=false:=rfl
@[go_sem] theorem isJunk_nl:V.nl.isJunk=false:=rfl
@[go_sem] theorem isJunk_sl (x:List V):(V.sl x).isJunk=false:=rfl
@[go_sem] theorem isJunk_agg (x:List V):(V.agg x).isJunk=false:=rfl
@[go_sem] theorem isJunk_ptr (h o:Nat):(V.ptr h o).isJunk=false:=rfl
@[go_sem] theorem isJunk_own (h o l e:Nat):(V.own h o l e).isJunk=false:=rfl
@[go_sem] theorem isJunk_fn (f:Nat) (l:List V):(V.fn f l).isJunk=false:=rfl
theorem u32_of (n:Int)(h0:0≤n)(h1:n<4294967296):IntKind.u32.wrap n=n:=by
 simp [IntKind.wrap,IntKind.bits,IntKind.signed];omega
theorem u64_of (n:Int)(h0:0≤n)(h1:n<18446744073709551616):IntKind.u64.wrap n=n:=by
 simp [IntKind.wrap,IntKind.bits,IntKind.signed];omega
theorem i64_of (n:Int)(h0:-9223372036854775808≤n)(h1:n≤9223372036854775807):IntKind.i64.wrap n=n:=by
 simp [IntKind.wrap,IntKind.bits,IntKind.signed]
 split<;>omega
theorem u32_wrap (n:Int):IntKind.u32.wrap n=n % 4294967296:=by simp [IntKind.wrap,IntKind.bits,IntKind.signed]
theorem u64_wrap (n:Int):IntKind.u64.wrap n=n % 18446744073709551616:=by simp [IntKind.wrap,IntKind.bits,IntKind.signed]
theorem Done.one {P:Program} {t:Tmp} {r v:V} {st:St} {hp:List (Nat × Row)} (h1:lkp st.fr t=some v)(h2:frz [] v st.hp=some (r,hp))(h3:r.lt 0=true)(h4:r.ren id=r):Done P #[.tmp t] r [] st:=
 ⟨[v],by simp [resVs,resV,h1],[],id,r,hp,h2,h4.symm,h3,fun h q hq=>by simp at hq,fun h h' hh=>by simp at hh⟩
attribute [go_sem] opsOf Option.toList Array.toList prep prepL gslot List.toList_toArray guardP valsOf valOf isCall eff effMove effNil effPick effAlloc effBox effBuild effBuildSlice effLoad effStore effBin binV binInt binBool binStr binNil binArr effUn effConvB effConv effMakeFunc effMakeSlice effSlice lowHigh sliceV bound effFieldAddr effField fieldOff effIndexAddr effIndex effExtract effCall effLen lenV effAppend appRow effMin effMax effMakeMap effLookup effMapUpdate lookK putK K0.of K0.v K0.fits putSt Eff.runL lkp dlt setL ofConst ofCell readAt setR fillV placesOf callStep landS frz frzL V.hf V.hfL V.ren V.renL Row.ren plainV plain1 namedRows zn1 zn2 zn3 zn4 zn5 zn6 zn7 zn8 List.contains_cons List.contains_nil List.length_cons List.length_nil List.length_map List.map_cons List.map_nil List.getElem?_toArray List.getElem?_cons_zero List.getElem?_cons_succ List.all_cons List.all_nil List.cons_append List.nil_append List.append_nil List.drop_zero List.zip_cons_cons List.zip_nil_left List.zip_nil_right Option.bind_some Option.isSome_some Option.isSome_none List.size_toArray List.empty_eq Array.append_empty Array.empty_append List.append_toArray zerosV_one chunks_one ite_true ite_false if_true if_false Bool.false_eq_true Bool.and_true Bool.true_and Bool.and_false Bool.false_and Bool.or_false Bool.or_true Bool.not_true Bool.not_false beq_self_eq_true and_true true_and and_self decide_true decide_false not_true_eq_false not_false_eq_true Nat.zero_add Nat.add_zero Nat.mul_one Int.toNat_natCast decide_eq_true_eq
theorem pq:(∀ ops:Array Oper,prep ops=prepL ops ops.toList)∧(∀ ops:Array Oper,prepL ops []=[]) ∧
  (∀ (ops:Array Oper) (o:Oper) (l:List Oper),prepL ops (o :: l)=⟨o.dst,o.op,match o.guard with
   | none=>none
   | some (j,w)=>some (gslot ops j,w)⟩ :: prepL ops l)∧(∀ (ops:Array Oper) (j:Nat),gslot ops j=(ops[j]?).bind (·.dst)) ∧
  (∀ l:List Oper,l.toArray.toList=l)∧(∀ (l:List Oper) (i:Nat),l.toArray[i]? = l[i]?)∧(∀ (a:Oper) (l:List Oper),(a :: l)[0]? = some a)∧(∀ (a:Oper) (l:List Oper) (n:Nat),(a :: l)[n+1]? = l[n]?) ∧
  (∀ (a:Oper) (f:Oper→Option Tmp),(some a).bind f=f a):=
 ⟨fun _=>rfl,fun _=>rfl,fun _ _ _=>rfl,fun _ _=>rfl,fun _=>rfl,fun l i=>by simp,fun _ _=>rfl,fun _ _ _=>rfl,fun _ _=>rfl⟩
theorem pb:(∀ (N d:Nat) (v:V) (fr:List (Nat × V)) (hp:List (Nat × Row)) (nx:Nat),putSt N (some d) v fr hp nx=if d<N then some ⟨(d,v) :: fr,hp,nx⟩ else none) ∧
  (∀ (N:Nat) (v:V) (fr:List (Nat × V)) (hp:List (Nat × Row)) (nx:Nat),putSt N none v fr hp nx=some ⟨fr,hp,nx⟩)∧(∀ n:Nat,0+n=n)∧((false=true)=False):=
 ⟨fun _ _ _ _ _ _=>rfl,fun _ _ _ _ _=>rfl,Nat.zero_add,by simp⟩
attribute [go_sem] decide_eq_true decide_eq_false if_pos if_neg
end Go.Proofs.YteidabibgjokkaaGreatDoor.Lift
