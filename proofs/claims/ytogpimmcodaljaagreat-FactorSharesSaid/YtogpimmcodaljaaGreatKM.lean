/- Calls that take a row of the caller's own and hand one back: the same one, written, or a new one. -/
import Derived.Test.YtogpimmcodaljaaGreatGB
import Derived.Test.YtogpimmcodaljaaGreatFaT
import Derived.Shelf.Spec.SlicesInsertGrow
set_option linter.unusedVariables false
set_option maxRecDepth 20000
set_option linter.unusedSimpArgs false
namespace Go.Proofs.YtogpimmcodaljaaGreat.Lift
open Go
def ICall (P : Program) (f : FuncId) (args : List V) (q0 qv : Row) (r : V) (q1 : Row) : Prop :=
 (∀ xs w, (callFunc f xs).run P w = .ok (.enter f xs) w) ∧
 ∀ (O : Nat → Prop) (w : World) (G : Env) (xs : Array Value), (∀ b, O b → b < w.heap.size) → (∀ b, G 0 = some b → ¬ O b) → (∀ b, G 1 = some b → O b) →
  RowAt (fun b => O b ∨ G 0 = some b) w G (· < 2) 0 q0 → RowAt (fun b => O b ∨ G 0 = some b) w G (· < 2) 1 qv → xs.size = args.length →
  (∀ k, k < args.length → Rep (fun b => O b ∨ G 0 = some b) w G (· < 2) (xs.getD k undef) (args.getD k .junk)) →
  Calls P f xs w (fun e w' => ∃ (x : Value) (e1 : Option Nat), e = .returned x ∧ Step (fun b => G 0 = some b) w w' ∧ (∀ b, e1 = some b → ¬ O b ∧ (G 0 = some b ∨ w.heap.size ≤ b)) ∧
   RowAt (fun b => O b ∨ e1 = some b) w' (fun _ => e1) (· < 1) 0 q1 ∧ Rep (fun b => O b ∨ e1 = some b) w' (fun _ => e1) (· < 1) x r)
theorem Sim.icall {C : Ctx} {env : Env} {fr : Nat → Option V} {hp : Nat → Option Row} {D : Nat → Prop} {a : Act} {w w' : World} (h : Sim C env fr hp D a w) {m n : Nat} {r r' : Row} (hr : hp m = some r) (hn : ¬ D n) {e1 : Option Nat} (hs : Step (fun b => env m = some b) w w')
  (he1 : ∀ b, e1 = some b → ¬ Fd C env (upd hp m none) b ∧ (env m = some b ∨ w.heap.size ≤ b)) (hrow : RowAt (fun b => Fd C env (upd hp m none) b ∨ e1 = some b) w' (fun _ => e1) (· < 1) 0 r') (hf : V.hfL r'.cells = true) :
  Sim C (upd env n e1) fr (upd (upd hp m none) n (some r')) (fun k => D k ∨ k = n) a w' ∧ ∀ b, Fd C (upd env n e1) (upd (upd hp m none) n (some r')) b ↔ Fd C env (upd hp m none) b ∨ e1 = some b := by
 have hsome : (hp m).isSome = true := by simp [hr]
 have hne : ∀ k, D k → k ≠ n := fun k hk e => hn (e ▸ hk)
 have hD : ∀ k, (hp k).isSome = true → D k := fun k hk => by
  obtain ⟨q, hq⟩ := Option.isSome_iff_exists.1 hk
  exact (h.row k q hq).1
 have hdrop : ∀ k, (upd hp m none k).isSome = true → k ≠ m ∧ (hp k).isSome = true := fun k hk => by
  by_cases e : k = m
  ·subst e; simp at hk
  ·rw [upd_ne _ _ e] at hk; exact ⟨e, hk⟩
 have hFd : ∀ b, Fd C (upd env n e1) (upd (upd hp m none) n (some r')) b ↔ Fd C env (upd hp m none) b ∨ e1 = some b := by
  intro b
  constructor
  ·rintro (ho | ⟨k, hk, he⟩)
   ·exact .inl (.inl ho)
   ·by_cases e : k = n
    ·subst e; rw [upd_same] at he; exact .inr he
    ·rw [upd_ne _ _ e] at hk he
     exact .inl (.inr ⟨k, hk, he⟩)
  ·rintro ((ho | ⟨k, hk, he⟩) | he)
   ·exact .inl ho
   ·have e := hne k (hD k (hdrop k hk).2)
    exact .inr ⟨k, by rw [upd_ne _ _ e]; exact hk, by rw [upd_ne _ _ e]; exact he⟩
   ·exact .inr ⟨n, by rw [upd_same]; rfl, by rw [upd_same]; exact he⟩
 have keep : ∀ b, b < w.heap.size → ¬ Fd C env hp b → ¬ Fd C (upd env n e1) (upd (upd hp m none) n (some r')) b ∧ w'.heap[b]? = w.heap[b]? := by
  intro b hb hF
  refine ⟨fun h2 => ?_, hs.keep b hb fun e => hF (.inr ⟨m, hsome, e⟩)⟩
  rcases (hFd b).1 h2 with h3 | h3
  ·exact hF (Fd.drop h3)
  ·rcases (he1 b h3).2 with h4 | h4
   ·exact hF (.inr ⟨m, hsome, h4⟩)
   ·omega
 have dom : ∀ k, D k → (D k ∨ k = n) ∧ upd env n e1 k = env k := fun k hk => ⟨.inl hk, upd_ne _ _ (hne k hk)⟩
 have lift : ∀ {x : Value} {v : V}, Rep (Fd C env hp) w env D x v → Rep (Fd C (upd env n e1) (upd (upd hp m none) n (some r'))) w' (upd env n e1) (fun k => D k ∨ k = n) x v :=
  fun hx => hx.mono keep hs.shape hs.size dom
 refine ⟨?_, hFd⟩
 exact {
  sz := h.sz
  df := h.df
  tm := fun t v ht => ⟨(h.tm t v ht).1, lift (h.tm t v ht).2⟩
  row := by
   intro k q hq
   by_cases e : k = n
   ·subst e
    rw [upd_same] at hq
    cases hq
    refine ⟨.inr rfl, ?_⟩
    rcases hrow with ⟨blk, c, g1, g2, g3, g4⟩ | ⟨g1, g2⟩
    ·exact .inl ⟨blk, c, by rw [upd_same]; exact g1, g2, g3, fun j hj => ((g4 j hj).hf (hfL_getD hf j)).sub fun b hb => (hFd b).1 hb⟩
    ·exact .inr ⟨by rw [upd_same]; exact g1, g2⟩
   ·rw [upd_ne _ _ e] at hq
    have e2 : k ≠ m := fun e2 => by subst e2; rw [upd_same] at hq; cases hq
    rw [upd_ne _ _ e2] at hq
    obtain ⟨g1, g2⟩ := h.row k q hq
    refine ⟨.inl g1, ?_⟩
    rcases g2 with ⟨blk, c, g3, g4, g5, g6⟩ | ⟨g3, g4⟩
    ·have hnb : ¬ env m = some blk := fun e3 => e2 (h.inj k m blk (by simp [hq]) hsome g3 e3)
     exact .inl ⟨blk, c, by rw [upd_ne _ _ e]; exact g3, (hs.keep blk (lt_of_heap g4) hnb).trans g4, g5, fun j hj => lift (g6 j hj)⟩
    ·exact .inr ⟨by rw [upd_ne _ _ e]; exact g3, g4⟩
  old := by
   intro k b hk he
   by_cases e : k = n
   ·subst e
    rw [upd_same] at he
    obtain ⟨g1, g2⟩ := he1 b he
    refine ⟨fun ho => g1 (.inl ho), ?_⟩
    rcases g2 with g2 | g2
    ·exact (h.old m b hsome g2).2
    ·exact .inl (Nat.le_trans h.st.size g2)
   ·rw [upd_ne _ _ e] at hk he
    exact h.old k b (hdrop k hk).2 he
  inj := by
   intro k k' b hk hk' e e'
   by_cases g : k = n
   ·by_cases g' : k' = n
    ·rw [g, g']
    ·exfalso
     subst g
     rw [upd_same] at e
     rw [upd_ne _ _ g'] at hk' e'
     exact (he1 b e).1 (.inr ⟨k', hk', e'⟩)
   ·by_cases g' : k' = n
    ·exfalso
     subst g'
     rw [upd_same] at e'
     rw [upd_ne _ _ g] at hk e
     exact (he1 b e').1 (.inr ⟨k, hk, e⟩)
    ·rw [upd_ne _ _ g] at hk e
     rw [upd_ne _ _ g'] at hk' e'
     exact h.inj k k' b (hdrop k hk).2 (hdrop k' hk').2 e e'
  st := by
   refine h.st.trans hs ?_
   rintro b hb e
   rcases (h.old m b hsome e).2 with g | g
   ·exact absurd hb (Nat.not_lt.2 g)
   ·exact g
  ob := h.ob
  gv := fun k hk => ⟨.inl (h.gv k hk).1, (upd_ne _ _ (hne k (h.gv k hk).1)).trans (h.gv k hk).2⟩ }
theorem icall_core {P : Program} {C : Ctx} {env : Env} {fr : Nat → Option V} {hp : Nat → Option Row} {D : Nat → Prop} {a : Act} {w : World} (hs : Sim C env fr hp D a w) {o : Oper} {c : Call} {g : Operand} (ho : o.op = .call c) (hcal : c.callee = .value g)
  {f : FuncId} {args args0 : List V} {q0 qv q1 : Row} {r : V} {m k0 n : Nat} (hv0 : Rep (Fd C env hp) w env D (a.eval g) (.fn f [])) (hlen : args.length = c.args.size)
  (hva : ∀ k, k < args.length → Rep (Fd C env hp) w env D (a.eval (c.args.toList.getD k (.const undef))) (args.getD k .junk))
  (hargs : args = V.renL (nm [m, k0]) args0) (hlt : V.ltL 2 args0 = true) (hq : hp m = some q0) (hq2 : hp k0 = some qv) (hmk : k0 ≠ m) (hf0 : V.hfL q0.cells = true) (hfv : V.hfL qv.cells = true) (hf1 : V.hfL q1.cells = true) (hn : ¬ D n) (hc : ICall P f args0 q0 qv r q1)
  {K : Act → World → Prop} {Q : Exit → Act → World → Prop} (hk : ∀ env' x w', Sim C env' fr (upd (upd hp m none) n (some q1)) (fun k => D k ∨ k = n) a w' → Rep (Fd C env' (upd (upd hp m none) n (some q1))) w' env' (fun k => D k ∨ k = n) x (r.ren fun _ => n) → K (a.put o.dst x) w') : o.wp P a w K Q := by
 obtain ⟨hcf, hcalls⟩ := hc
 generalize hgv : a.eval g = gv at hv0
 cases hv0 with
 | fn hsz hcr =>
  rename_i xcaps
  have hx0 : xcaps = #[] := Array.eq_empty_of_size_eq_zero hsz
  subst hx0
  have hrun : (execOp a.eval o).run P w = .ok (.enter f (c.args.map a.eval)) w := by
   unfold execOp
   rw [ho]
   simp only [Sem.run_bind]
   have h1 : (resolve a.eval c o.type).run P w = .ok { target := .fn (.func f) #[], args := c.args.map a.eval } w := by
    unfold resolve
    simp only [hcal, hgv, Deferred.ofValue, Array.empty_append]
    rfl
   rw [h1]
   simp only [Result.andThen_ok, invoke, Array.append_empty]
   exact hcf _ _
  unfold Oper.wp
  rw [hrun, Oper.upon_enter]
  have hsome : (hp m).isSome = true := by simp [hq]
  have hlen0 : args0.length = args.length := by rw [hargs, renL_length]
  have hFin : ∀ b, (Fd C env (upd hp m none) b ∨ env m = some b) → Fd C env hp b := by
   rintro b (h1 | h1)
   ·exact Fd.drop h1
   ·exact .inr ⟨m, hsome, h1⟩
  have hin : ∀ {x : Value} {v : V}, v.lt 2 = true → Rep (Fd C env hp) w env D x (v.ren (nm [m, k0])) → Rep (fun b => Fd C env (upd hp m none) b ∨ env m = some b) w (fun j => env (nm [m, k0] j)) (· < 2) x v :=
   fun hv hx => (hx.unren rfl hv).sub hFin
  refine (hcalls (Fd C env (upd hp m none)) w (fun j => env (nm [m, k0] j)) (c.args.map a.eval) (fun b hb => hs.fd_lt (Fd.drop hb)) ?_ ?_ ?_ ?_ (by simp; omega) ?_).mono ?_
  ·rintro b hb (ho' | ⟨k, hk', he⟩)
   ·exact (hs.old m b hsome hb).1 ho'
   ·by_cases e : k = m
    ·subst e; simp at hk'
    ·rw [upd_ne _ _ e] at hk'
     exact e (hs.inj k m b hk' hsome he hb)
  ·intro b hb
   exact .inr ⟨k0, by rw [upd_ne _ _ hmk, hq2]; rfl, hb⟩
  ·rcases (hs.row m q0 hq).2 with ⟨blk, c0, g1, g2, g3, g4⟩ | ⟨g1, g2⟩
   ·exact .inl ⟨blk, c0, g1, g2, g3, fun j hj => ((g4 j hj).hf (hfL_getD hf0 j)).sub hFin⟩
   ·exact .inr ⟨g1, g2⟩
  ·rcases (hs.row k0 qv hq2).2 with ⟨blk, c0, g1, g2, g3, g4⟩ | ⟨g1, g2⟩
   ·exact .inl ⟨blk, c0, g1, g2, g3, fun j hj => ((g4 j hj).hf (hfL_getD hfv j)).sub hFin⟩
   ·exact .inr ⟨g1, g2⟩
  ·intro k hk'
   have h1 := hva k (by omega)
   rw [hargs, renL_getD] at h1
   have e1 : (c.args.map a.eval).getD k undef = a.eval (c.args.toList.getD k (.const undef)) := by
    rw [Array.getD_eq_getD_getElem?]
    simp [List.getD_eq_getElem?_getD, show k < c.args.size by omega]
   rw [e1]
   exact hin (ltL_getD hlt k) h1
  rintro e w' ⟨x, e1, rfl, hstep, he1, hrow, hres⟩
  show K (a.put o.dst x) w'
  obtain ⟨h1, h2⟩ := hs.icall hq hn hstep he1 hrow hf1
  exact hk _ x w' h1 ((hres.sub fun b hb => (h2 b).1 hb).ren (fun _ => n) fun j hj => ⟨.inr rfl, upd_same ..⟩)
theorem RunD.icall {P : Program} {N : Nat} {o : PO} {l : List PO} {Ts : List Tr} {st st1 st2 : St} (m k0 : Nat) {f : FuncId} {args args0 : List V} {r v : V} {q0 qv q1 : Row} {T : Tr} (h0 : isCall o.op = true) (h1 : guardP st.fr o.g = some true) (h2 : valsOf st.fr (opsOf o.op) = some (.fn f [] :: args)) (h4 : ICall P f args0 q0 qv r q1)
  (ha : args = V.renL (nm [m, k0]) args0) (hlt : V.ltL 2 args0 = true) (hq : lkp st.hp m = some q0) (hq2 : lkp st.hp k0 = some qv) (hmk : k0 ≠ m) (hf0 : V.hfL q0.cells = true) (hfv : V.hfL qv.cells = true) (hf1 : V.hfL q1.cells = true) (hv : r.ren (fun _ => st.nx) = v) (h5 : putSt N o.dst v st.fr ((st.nx, q1) :: dlt st.hp m) (st.nx + 1) = some st1)
  (hT : T = ⟨o.dst, slotsOf (opsOf o.op) ++ gSlot o.g, v, [m, k0], [(m, none), (st.nx, some q1)], [st.nx]⟩) (hnext : RunD P N l st1 Ts st2) : RunD P N (o :: l) st (T :: Ts) st2 := by
 subst hT hv
 obtain ⟨hd, hfw, hph, _⟩ := putSt_dst h5
 refine .tr ?_ ?_ ?_ hnext
 ·intro ops i o' hi ho
  subst ho
  simp only at h0 h1 h2 h5
  intro C env fr hpf D a w hN hs hfr hhp hnn hex K Q hk
  subst hN
  unfold wpOp
  simp only [hi]
  rw [if_pos (guard_sim hs h1 (fun t ht => hfr t (List.mem_append.2 (.inr ht))))]
  refine .inl ?_
  obtain ⟨hl, hr⟩ := valsOf_sim hs h2 (fun t ht => hfr t (List.mem_append.2 (.inl ht)))
  rw [opsOf_eq] at hl hr
  cases hop : o'.op with
  | call c =>
   rw [hop] at h0 hl hr
   simp only [isCall] at h0
   split at h0
   ·rename_i g hcal
    have hops : (Op.call c).operands.toList = g :: c.args.toList := by simp [Op.operands, Call.operands, hcal]
    rw [hops] at hl hr
    refine icall_core hs hop hcal (n := st.nx) (hr 0 (by simp)) (by simpa using hl) (fun k hk => ?_) ha hlt ((hhp m (by simp)).trans hq) ((hhp k0 (by simp)).trans hq2) hmk hf0 hfv hf1 (hnn st.nx (by simp)) h4 (fun env' x w' hs' hx => ?_)
    ·have h1 := hr (k + 1) (by simp; omega)
     simpa only [List.getD_cons_succ] using h1
    ·have e1 : (fun k => D k ∨ k = st.nx) = fun k => D k ∨ k ∈ [st.nx] := by funext k; simp
     rw [e1, ← wrt_upd2] at hs' hx
     exact hk env' _ w' (put_sim (T := ⟨o'.dst, slotsOf (opsOf o'.op) ++ gSlot (match o'.guard with
      | none => none
      | some (j, w) => some (gslot ops j, w)), r.ren (fun _ => st.nx), [m, k0], [(m, none), (st.nx, some q1)], [st.nx]⟩) hs' hd hx)
   ·cases h0
  | _ => rw [hop] at h0; simp [isCall] at h0
 ·exact hfw
 ·rw [hph, lkp_cons, lkp_dlt, wrt_upd2]
end Go.Proofs.YtogpimmcodaljaaGreat.Lift
/- Lists of whole numbers that are the call's own: an element is inserted (the library's contract as this framework wants it). -/
set_option linter.unusedVariables false
set_option linter.unusedSimpArgs false
namespace Go.Proofs.YtogpimmcodaljaaGreat
open Go Go.Proofs.YtogpimmcodaljaaGreat.Lift
attribute [local irreducible] Lift.PCall Lift.HCall
theorem layIns : Lays2.n21 Tryz.prog rhoL where
 mixed := by kernel_rfl
 f21 := by kernel_rfl
 f27 := by kernel_rfl
 f28 := by kernel_rfl
 f35 := by kernel_rfl
 f39 := by kernel_rfl
 t0 := by kernel_rfl
 a0 := fun _ => by kernel_rfl
 z0 := fun _ => by kernel_rfl
 v0 := fun _ => by kernel_rfl
 t3 := by kernel_rfl
 a3 := fun _ => by kernel_rfl
 z3 := fun _ => by kernel_rfl
 v3 := fun _ => by kernel_rfl
 t4 := by kernel_rfl
 a4 := fun _ => by kernel_rfl
 z4 := fun _ => by kernel_rfl
 v4 := fun _ => by kernel_rfl
 t22 := by kernel_rfl
 a22 := fun _ => by kernel_rfl
 z22 := fun _ => by kernel_rfl
 v22 := fun _ => by kernel_rfl
 i3 := by kernel_rfl
def insL (l : List Int) (i : Nat) (x : Int) : List Int := l.take i ++ x :: l.drop i
theorem insL_length {l : List Int} {i : Nat} {x : Int} (h : i ≤ l.length) : (insL l i x).length = l.length + 1 := by
 unfold insL
 rw [List.length_append, List.length_cons, List.length_take, List.length_drop]
 omega
theorem insL_get {l : List Int} {i : Nat} {x : Int} (h : i ≤ l.length) (k : Nat) : (insL l i x).getD k 0 = if k < i then l.getD k 0 else if k = i then x else l.getD (k - 1) 0 := by
 have h1 : (l.take i).length = i := by rw [List.length_take]; omega
 unfold insL
 by_cases hk : k < i
 ·rw [if_pos hk, List.getD_eq_getElem?_getD, List.getElem?_append_left (by omega), List.getElem?_take, if_pos hk, ← List.getD_eq_getElem?_getD]
 ·rw [if_neg hk, List.getD_eq_getElem?_getD, List.getElem?_append_right (by omega), h1]
  by_cases e : k = i
  ·rw [if_pos e, e, Nat.sub_self]
   rfl
  ·rw [if_neg e, show k - i = (k - i - 1) + 1 by omega, List.getElem?_cons_succ, List.getElem?_drop, show i + (k - i - 1) = k - 1 by omega, ← List.getD_eq_getElem?_getD]
theorem map_getD_int {l : List Int} {k : Nat} (h : k < l.length) : (l.map (Value.int .i64)).getD k undef = .int .i64 (l.getD k 0) := by
 rw [List.getD_eq_getElem?_getD, List.getElem?_map, List.getElem?_eq_getElem h, List.getD_eq_getElem?_getD, List.getElem?_eq_getElem h]
 rfl
theorem map_get?_int {l : List Int} {j : Nat} {v : Value} (h : (l.map (Value.int .i64))[j]? = some v) : j < l.length ∧ v = .int .i64 (l.getD j 0) := by
 rw [List.getElem?_map] at h
 by_cases hj : j < l.length
 ·rw [List.getElem?_eq_getElem hj] at h
  cases h
  refine ⟨hj, ?_⟩
  rw [List.getD_eq_getElem?_getD, List.getElem?_eq_getElem hj]
  rfl
 ·rw [List.getElem?_eq_none (by omega)] at h
  cases h
theorem one_ints (l : List Int) : ∀ v ∈ l.map (Value.int .i64), v.oneCell' = true := fun v hv => by
 obtain ⟨x, _, rfl⟩ := List.mem_map.1 hv
 rfl
theorem cap_bd {w : World} {need old : Nat} {e : TypeId} (h : need < 2 ^ 63) : need ≤ grownCap w need old e ∧ grownCap w need old e < 2 ^ 63 := by
 have hmod := Nat.mod_lt (w.tape w.drawn (.appendCap need old e)) (show 0 < 2 ^ 63 - need by omega)
 unfold grownCap Question.cut
 simp only
 omega
theorem size_zeros (n : Nat) : (Builtin.zeroCells (Value.int .i64 0).cells n).size = n := by
 simp [Builtin.zeroCells, Value.cells]
theorem app_getD {cs : List Value} {r : Array Value} {k : Nat} (h : k < cs.length) : (cs.toArray ++ r).getD k undef = cs.getD k undef := by
 rw [Array.getD_eq_getD_getElem?, Array.getElem?_append_left (by simpa using h), List.getElem?_toArray, List.getD_eq_getElem?_getD]
theorem step_new {w W : World} {M : Nat → Prop} (h : Step (fun _ => False) w W) (o : Obj) : Step M w (W.alloc o) :=
 ((Step.refl M w).trans h (fun _ _ f => f.elim)).trans (step_push W o) (fun _ _ f => f.elim)
set_option maxHeartbeats 8000000 in
theorem fins_i (l : List Int) (i : Nat) (x : Int) (hi : i ≤ l.length) (hl : l.length < 2 ^ 30) (hb : ∀ k, k < l.length → -9223372036854775808 ≤ l.getD k 0 ∧ l.getD k 0 ≤ 9223372036854775807) (hx : -9223372036854775808 ≤ x ∧ x ≤ 9223372036854775807) :
  ICall Tryz.prog 102 [.own 0 0 l.length 1, .i .i64 (i : Nat), .own 1 0 1 1] ⟨3, zl l⟩ ⟨3, [.i .i64 x]⟩ (.own 0 0 (l.length + 1) 1) ⟨3, zl (insL l i x)⟩ := by
 refine ⟨Tryz.call102, fun O w G xs hO hGO hG1 hrow hrv hsz hr => ?_⟩
 obtain ⟨xl⟩ := xs
 match xl, hsz with
 | [a, b, d], hs3 =>
 have h0 : Rep _ w G _ a (.own 0 0 l.length 1) := hr 0 (by simp)
 have h1 : Rep _ w G _ b (.i .i64 (i : Nat)) := hr 1 (by simp)
 have h2 : Rep _ w G _ d (.own 1 0 1 1) := hr 2 (by simp)
 have e1 := h1.int_inv.1
 subst e1
 have hbi : ∀ k, k < (insL l i x).length → -9223372036854775808 ≤ (insL l i x).getD k 0 ∧ (insL l i x).getD k 0 ≤ 9223372036854775807 := fun k hk => by
  rw [insL_length hi] at hk
  rw [insL_get hi]
  split
  ·exact hb k (by omega)
  ·split
   ·exact hx
   ·exact hb _ (by omega)
 have hil := insL_length (x := x) hi
 obtain ⟨n, hn⟩ : ∃ n, l.length = n := ⟨_, rfl⟩
 rw [hn] at h0 hi hil
 -- the end, whatever the road
 have fin : ∀ (w' : World) (nb cap : Nat) (c' : Array Value), w'.heap[nb]? = some (Obj.cells c' 3 (0, 0)) → Step (fun b => G 0 = some b) w w' → ¬ O nb → (G 0 = some nb ∨ w.heap.size ≤ nb) → n + 1 ≤ cap → cap < 2 ^ 63 → cap ≤ c'.size →
   (∀ k, k < n + 1 → c'.getD k undef = .int .i64 ((insL l i x).getD k 0)) →
   ∃ (x1 : Value) (e1 : Option Nat), Ending.returned (.slice (some ⟨nb, 0, none⟩) (n + 1) cap) = .returned x1 ∧ Step (fun b => G 0 = some b) w w' ∧ (∀ b, e1 = some b → ¬ O b ∧ (G 0 = some b ∨ w.heap.size ≤ b)) ∧
    RowAt (fun b => O b ∨ e1 = some b) w' (fun _ => e1) (· < 1) 0 ⟨3, zl (insL l i x)⟩ ∧ Rep (fun b => O b ∨ e1 = some b) w' (fun _ => e1) (· < 1) x1 (.own 0 0 (l.length + 1) 1) := by
  intro w' nb cap c' g1 g2 g3 g4 g5 g6 g7 g8
  refine ⟨_, some nb, rfl, g2, fun b hb => by cases hb; exact ⟨g3, g4⟩, .inl ⟨nb, c', rfl, g1, ?_, ?_⟩, ?_⟩
  ·show (zl (insL l i x)).length ≤ _
   rw [zl_length]; omega
  ·exact zl_rep (fun k hk => g8 k (by omega)) hbi
  ·rw [hn]
   exact .own Nat.zero_lt_one rfl g5 (by omega) ⟨c', _, _, g1, by omega, g6⟩
 have drewStep : ∀ w' : World, Step (fun b => G 0 = some b) w.drew w' → Step (fun b => G 0 = some b) w w' := fun w' h => (show Step (fun b => G 0 = some b) w w.drew from ⟨Nat.le_refl _, rfl, rfl, rfl, fun _ _ _ => rfl, fun _ c _ _ h => ⟨c, rfl, h⟩⟩).trans h (fun _ _ h => h)
 have finG : ∀ (m old : Nat), l.length = m → (m + 1 ≤ grownCap w (m + 1) old 3 ∧ grownCap w (m + 1) old 3 < 2 ^ 63) → i = m →
   ∃ (x1 : Value) (e1 : Option Nat), Ending.returned (.slice (some ⟨w.heap.size, 0, none⟩) (m + 1) (grownCap w (m + 1) old 3)) = .returned x1 ∧ Step (fun b => G 0 = some b) w (w.drew.alloc (.cells ((l.map (Value.int .i64) ++ [x].map (Value.int .i64)).toArray ++ Builtin.zeroCells (Value.int .i64 0).cells (grownCap w (m + 1) old 3 - (m + 1))) 3)) ∧ (∀ b, e1 = some b → ¬ O b ∧ (G 0 = some b ∨ w.heap.size ≤ b)) ∧
    RowAt (fun b => O b ∨ e1 = some b) (w.drew.alloc (.cells ((l.map (Value.int .i64) ++ [x].map (Value.int .i64)).toArray ++ Builtin.zeroCells (Value.int .i64 0).cells (grownCap w (m + 1) old 3 - (m + 1))) 3)) (fun _ => e1) (· < 1) 0 ⟨3, zl (insL l i x)⟩ ∧ Rep (fun b => O b ∨ e1 = some b) (w.drew.alloc (.cells ((l.map (Value.int .i64) ++ [x].map (Value.int .i64)).toArray ++ Builtin.zeroCells (Value.int .i64 0).cells (grownCap w (m + 1) old 3 - (m + 1))) 3)) (fun _ => e1) (· < 1) x1 (.own 0 0 (l.length + 1) 1) := by
  intro m old hm hgc him
  obtain rfl : n = m := by omega
  generalize grownCap w (n + 1) old 3 = gc at *
  refine fin _ w.heap.size gc _ (by show (w.heap.push _)[w.heap.size]? = _; rw [Array.getElem?_push_size]) (step_new (step_drew w) _) (fun h => absurd (hO _ h) (Nat.lt_irrefl _)) (.inr (Nat.le_refl _)) hgc.1 hgc.2 ?_ fun k hk => ?_
  ·rw [Array.size_append, size_zeros]
   simp only [List.size_toArray, List.length_append, List.length_map, List.length_singleton]
   omega
  ·rw [app_getD (by simp; omega), insL_get (by omega), List.getD_eq_getElem?_getD]
   by_cases k1 : k < i
   ·rw [if_pos k1, List.getElem?_append_left (by rw [List.length_map]; omega), ← List.getD_eq_getElem?_getD, map_getD_int (by omega)]
   ·rw [if_neg k1, if_pos (by omega), List.getElem?_append_right (by rw [List.length_map]; omega), List.length_map, show k - l.length = 0 by omega]
    rfl
 -- the value
 cases h2 with
 | own d1 d2 d3 d4 d5 =>
  rename_i vcap vb
  have hvO : O vb := hG1 vb d2
  obtain ⟨cv, hwv, hcv, hxv⟩ : ∃ cv, w.heap[vb]? = some (Obj.cells cv 3 (0, 0)) ∧ 1 ≤ cv.size ∧ cv.getD 0 undef = .int .i64 x := by
   rcases hrv with ⟨blk', c, he, hw, hcl, hcc⟩ | ⟨he, _⟩
   ·rw [d2] at he
    cases he
    exact ⟨c, hw, hcl, (hcc 0 Nat.zero_lt_one).int_inv.1⟩
   ·rw [d2] at he
    cases he
  have hvs : ∀ j v, ([x].map (Value.int .i64))[j]? = some v → w.cell? ⟨vb, 0 + j, none⟩ = some v := fun j v hj => by
   obtain ⟨hj1, rfl⟩ := map_get?_int hj
   obtain rfl : j = 0 := by simpa using hj1
   rw [Nat.zero_add, cell_row hwv (by omega), hxv]
   rfl
  cases h0 with
  | own a1 a2 a3 a4 a5 =>
   rename_i cap blk
   rcases hrow with ⟨blk', c, he, hw, hcl, hcc⟩ | ⟨he, _⟩
   ·rw [a2] at he
    cases he
    replace hw : w.heap[blk]? = some (Obj.cells c 3 (0, 0)) := hw
    replace hcl : (zl l).length ≤ c.size := hcl
    rw [zl_length] at hcl
    have hcells := zl_cells (l := l) (fun k hk => hcc k (by show k < (zl l).length; rw [zl_length]; exact hk))
    obtain ⟨c9, T9, z9, hw9, hsz9, hcap63⟩ := a5
    have hcc9 : c9 = c := by rw [hw] at hw9; cases hw9; rfl
    subst hcc9
    have hvb : vb ≠ blk := fun e => hGO blk a2 (e ▸ hvO)
    have hcs : ∀ j v, (l.map (Value.int .i64))[j]? = some v → w.cell? ⟨blk, 0 + j, none⟩ = some v := fun j v hj => by
     obtain ⟨hj1, rfl⟩ := map_get?_int hj
     rw [Nat.zero_add, cell_row hw (by omega), hcells j hj1]
    have hblkO := hGO blk a2
    have hin : ∀ (c' : Array Value) (W : World), W.heap[blk]? = some (Obj.cells c9 3 (0, 0)) → c'.size = c9.size → Step (fun b => G 0 = some b) W (putRow W blk c' 3) := fun c' W h1 h2 => step_putRow h1 h2 a2
    by_cases hroom : n + 1 ≤ cap
    ·by_cases hin2 : i < n
     ·have hk := Any2.slices_Insert_int_shift layIns blk 0 n cap i vb 0 1 vcap (l.map (Value.int .i64)) ([x].map (Value.int .i64)) w hin2 (by omega) hroom (by omega) hvb (by rw [List.length_map, hn]) rfl hcs
       (fun j hj => by rw [Nat.zero_add, cell_row hw (by omega)]; rfl) (fun j hj => by simp [World.frozen?, hw]) hvs (one_ints _) (one_ints _) 3 3 cv.size c9.size (by simp [World.shape?, hwv]) (by simp [World.shape?, hw]) (by omega) (by simp [World.frozen?, hwv]) (by simp [World.frozen?, hwv])
      refine Calls.mono hk ?_
      rintro e w' ⟨rfl, rfl⟩
      have hw1 : w.drew.heap[blk]? = some (Obj.cells c9 3 (0, 0)) := hw
      rw [setCells_row _ _ _ _ hw1, setCells_row _ _ _ _ (putRow_heap _ _ (lt_of_heap hw1)), putRow_putRow]
      refine fin _ blk cap _ (putRow_heap _ _ (lt_of_heap hw1)) (drewStep _ (hin _ _ hw1 (by rw [setRange_size, setRange_size]))) hblkO (.inl a2) hroom hcap63 (by rw [setRange_size, setRange_size]; omega) fun k hk => ?_
      rw [setRange_get _ _ _ _ (by rw [setRange_size]; simp; omega), setRange_get _ _ _ _ (by rw [List.length_drop, List.length_map]; omega), insL_get (by omega)]
      simp only [Nat.zero_add, List.length_map, List.length_singleton, List.length_drop]
      by_cases k1 : k < i
      ·rw [if_neg (by omega), if_neg (by omega), if_pos k1, hcells k (by omega)]
      ·rw [if_neg k1]
       by_cases k2 : k = i
       ·rw [if_pos (by omega), if_pos k2, k2, Nat.sub_self]
        rfl
       ·rw [if_neg (by omega), if_pos (by omega), if_neg k2, List.getD_eq_getElem?_getD, List.getElem?_drop, show i + (k - (i + 1)) = k - 1 by omega, ← List.getD_eq_getElem?_getD, map_getD_int (by omega)]
     ·obtain rfl : i = n := by omega
      have hk := Any2.slices_Insert_int_end_room layIns blk 0 i cap vb 0 1 vcap ([x].map (Value.int .i64)) w (by omega) hroom (by omega) rfl
       (fun j hj => by rw [Nat.zero_add, cell_row hw (by omega)]; rfl) (fun j hj => by simp [World.frozen?, hw]) hvs (one_ints _)
      refine Calls.mono hk ?_
      rintro e w' ⟨rfl, rfl⟩
      rw [setCells_row _ _ _ _ hw]
      refine fin _ blk cap _ (putRow_heap _ _ (lt_of_heap hw)) (hin _ _ hw (by rw [setRange_size])) hblkO (.inl a2) hroom hcap63 (by rw [setRange_size]; omega) fun k hk => ?_
      rw [setRange_get _ _ _ _ (by simp; omega), insL_get (by omega)]
      simp only [Nat.zero_add, List.length_map, List.length_singleton]
      by_cases k1 : k < i
      ·rw [if_neg (by omega), if_pos k1, hcells k (by omega)]
      ·rw [if_neg k1, if_pos (by omega), if_pos (by omega), show k - i = 0 by omega]
       rfl
    ·have hgc := cap_bd (w := w) (need := n + 1) (old := cap) (e := 3) (by omega)
     by_cases hin2 : i < n
     ·have hk := Any2.slices_Insert_int_grow layIns blk 0 n cap i vb 0 1 vcap (l.map (Value.int .i64)) ([x].map (Value.int .i64)) w hin2 (by omega) a3 (by omega) (by omega) (by rw [List.length_map, hn]) rfl hcs hvs (one_ints _) (one_ints _)
      refine Calls.mono hk ?_
      rintro e w' ⟨rfl, rfl⟩
      have hrt : rhoL.t 3 = 3 := rfl
      rw [hrt]
      generalize grownCap w (n + 1) cap 3 = gc at *
      obtain ⟨c0, hc0⟩ : ∃ c0, ((l.map (Value.int .i64)).take i).toArray ++ Builtin.zeroCells (Value.int .i64 0).cells (n + 1 - i) ++ Builtin.zeroCells (Value.int .i64 0).cells (gc - (n + 1)) = c0 := ⟨_, rfl⟩
      have hsz0 : c0.size = gc := by
       rw [← hc0, Array.size_append, Array.size_append, size_zeros, size_zeros]
       simp only [List.size_toArray, List.length_take, List.length_map]
       omega
      have hg0 : ∀ k, k < i → c0.getD k undef = .int .i64 (l.getD k 0) := fun k hk => by
       rw [← hc0, Array.append_assoc, app_getD (by rw [List.length_take, List.length_map]; omega), List.getD_eq_getElem?_getD, List.getElem?_take, if_pos hk, ← List.getD_eq_getElem?_getD, map_getD_int (by omega)]
      rw [hc0]
      have hwa : (w.alloc (.cells c0 3)).drew.heap[w.heap.size]? = some (Obj.cells c0 3 (0, 0)) := by
       show (w.heap.push _)[w.heap.size]? = _
       rw [Array.getElem?_push_size]
      rw [setCells_row _ _ _ _ hwa]
      have hwb : (putRow (w.alloc (.cells c0 3)).drew w.heap.size (setRange c0 i ([x].map (Value.int .i64))) 3).drew.heap[w.heap.size]? = some (Obj.cells (setRange c0 i ([x].map (Value.int .i64))) 3 (0, 0)) := putRow_heap _ _ (lt_of_heap hwa)
      rw [setCells_row _ _ _ _ hwb]
      have s1 : Step (fun b => b = w.heap.size) w (w.alloc (.cells c0 3)).drew := (step_new (Step.refl _ w) (.cells c0 3)).trans (step_drew _) (fun _ _ f => f.elim)
      have s2 := s1.trans (step_putRow (M := fun b => b = w.heap.size) hwa (c' := setRange c0 i ([x].map (Value.int .i64))) (by rw [setRange_size]) rfl) (fun _ _ h => h)
      have s3 := s2.trans (step_drew _) (fun _ _ f => f.elim)
      have s4 := s3.trans (step_putRow (M := fun b => b = w.heap.size) hwb (c' := setRange (setRange c0 i ([x].map (Value.int .i64))) (i + 1) ((l.map (Value.int .i64)).drop i)) (by rw [setRange_size]) rfl) (fun _ _ h => h)
      refine fin _ w.heap.size gc _ (putRow_heap _ _ (lt_of_heap hwb)) ⟨s4.size, s4.os, s4.tape, s4.output, fun b hb hm => s4.keep b hb (fun e => by omega), s4.shape⟩ (fun h => absurd (hO _ h) (Nat.lt_irrefl _)) (.inr (Nat.le_refl _)) hgc.1 hgc.2 (by rw [setRange_size, setRange_size]; omega) fun k hk => ?_
      rw [setRange_get _ _ _ _ (by rw [setRange_size, List.length_drop, List.length_map]; omega), setRange_get _ _ _ _ (by simp; omega), insL_get (by omega)]
      simp only [List.length_map, List.length_singleton, List.length_drop]
      by_cases k1 : k < i
      ·rw [if_neg (by omega), if_neg (by omega), if_pos k1, hg0 k k1]
      ·rw [if_neg k1]
       by_cases k2 : k = i
       ·rw [if_neg (by omega), if_pos (by omega), if_pos k2, k2, Nat.sub_self]
        rfl
       ·rw [if_pos (by omega), if_neg k2, List.getD_eq_getElem?_getD, List.getElem?_drop, show i + (k - (i + 1)) = k - 1 by omega, ← List.getD_eq_getElem?_getD, map_getD_int (by omega)]
     ·obtain rfl : i = n := by omega
      have hk := Any2.slices_Insert_int_end_grow layIns (some ⟨blk, 0, none⟩) i cap vb 0 1 vcap (l.map (Value.int .i64)) ([x].map (Value.int .i64)) w (by omega) a3 (by omega) (by omega) (by rw [List.length_map, hn]) rfl (by simp) (fun ad had j v hj => by cases had; rw [add_eq]; exact hcs j v hj) hvs (one_ints _)
      refine Calls.mono hk ?_
      rintro e w' ⟨rfl, rfl⟩
      have hrt : rhoL.t 3 = 3 := rfl
      rw [hrt]
      exact finG i cap hn hgc rfl
   ·rw [a2] at he
    cases he
  | own0 a1 =>
   obtain rfl : i = 0 := by omega
   have hgc := cap_bd (w := w) (need := 0 + 1) (old := 0) (e := 3) (by omega)
   have hk := Any2.slices_Insert_int_end_grow layIns none 0 0 vb 0 1 vcap (l.map (Value.int .i64)) ([x].map (Value.int .i64)) w (by omega) (Nat.le_refl _) (by omega) (by omega) (by rw [List.length_map, hn]) rfl (fun _ => rfl) (fun ad had => by cases had) hvs (one_ints _)
   refine Calls.mono hk ?_
   rintro e w' ⟨rfl, rfl⟩
   have hrt : rhoL.t 3 = 3 := rfl
   rw [hrt]
   exact finG 0 0 hn hgc rfl
end Go.Proofs.YtogpimmcodaljaaGreat
