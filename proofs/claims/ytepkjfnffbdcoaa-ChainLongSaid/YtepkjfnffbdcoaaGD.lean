/- Calls that are given a row of the caller's: they may write it, and the caller has it back. -/
import Derived.Test.YtepkjfnffbdcoaaGC
set_option linter.unusedVariables false
set_option maxRecDepth 20000
set_option linter.unusedSimpArgs false
namespace Go.Proofs.Ytepkjfnffbdcoaa.Lift
open Go

/-- The contract of a function that gets one row of its caller's (its name there: 0). -/
def HCall (P : Program) (f : FuncId) (args : List V) (q0 q1 : Row) (r : V) : Prop :=
  (∀ xs w, (callFunc f xs).run P w = .ok (.enter f xs) w) ∧
  ∀ (O : Nat → Prop) (w : World) (blk : Nat) (xs : Array Value), (∀ b, O b → b < w.heap.size) → ¬ O blk →
    RowAt (fun b => O b ∨ b = blk) w (fun _ => some blk) (· < 1) 0 q0 → xs.size = args.length →
    (∀ k, k < args.length → Rep (fun b => O b ∨ b = blk) w (fun _ => some blk) (· < 1) (xs.getD k undef) (args.getD k .junk)) →
    Calls P f xs w (fun e w' => ∃ x, e = .returned x ∧ Step (fun b => b = blk) w w' ∧ RowAt (fun b => O b ∨ b = blk) w' (fun _ => some blk) (· < 1) 0 q1 ∧
      Rep (fun b => O b ∨ b = blk) w' (fun _ => some blk) (· < 1) x r)

/-- What the end of such a function tells. -/
def DoneH (P : Program) (rs : Array ResultVar) (r : V) (q1 : Row) (st : St) : Prop :=
  ∃ vs, resVs P st rs.toList = some vs ∧ packV vs = r ∧ r.lt 1 = true ∧ r.ren (fun _ => 0) = r ∧ lkp st.hp 0 = some q1 ∧ V.ltL 1 q1.cells = true ∧ V.renL (fun _ => 0) q1.cells = q1.cells

theorem HCall.of_ax {P : Program} {f : FuncId} {fn : Func} {c : Code} {args : List V} {q0 q1 : Row} {r : V} (hcf : ∀ xs w, (callFunc f xs).run P w = .ok (.enter f xs) w) (hf : P.funcs[f]? = some fn) (hb : fn.body = some c) (hN : args.length ≤ fn.ntmps)
    (h : ∀ (O M : Nat → Prop) (w : World) (G : Env), AX P ⟨fn.ntmps, O, M, w, 1, G⟩ c ⟨argFr 0 args, [(0, q0)], 1⟩ (fun e st => (e = .ret ∨ e = .normal) ∧ DoneH P fn.results r q1 st)) : HCall P f args q0 q1 r := by
  refine ⟨hcf, fun O w blk xs hO hblk hrow hsz hr => ?_⟩
  refine calls_of_wp hf hb ?_
  have hl0 : ∀ m q, lkp [(0, q0)] m = some q → m = 0 ∧ q = q0 := by
    intro m q hq
    simp only [lkp] at hq
    split at hq
    · cases hq
      rename_i e
      exact ⟨e, rfl⟩
    · cases hq
  have hl1 : ∀ m, (lkp [(0, q0)] m).isSome = true → m = 0 := by
    intro m hm
    obtain ⟨q, hq⟩ := Option.isSome_iff_exists.1 hm
    exact (hl0 m q hq).1
  have hFd0 : ∀ b, Fd ⟨fn.ntmps, O, fun b => b = blk, w, 1, fun _ => some blk⟩ (fun _ => some blk) (lkp [(0, q0)]) b → O b ∨ b = blk := by
    rintro b (ho | ⟨m, hm, he⟩)
    · exact .inl ho
    · cases he
      exact .inr rfl
  have hs0 : SimS ⟨fn.ntmps, O, fun b => b = blk, w, 1, fun _ => some blk⟩ (fun _ => some blk) ⟨argFr 0 args, [(0, q0)], 1⟩ { tmps := xs ++ Array.replicate (fn.ntmps - xs.size) undef, defers := [] } w := {
    sz := by simp; omega
    df := rfl
    tm := by
      intro t v ht
      obtain ⟨h1, h2, h3⟩ := argFr_look args 0 t v ht
      refine ⟨by show t < fn.ntmps; omega, ?_⟩
      subst h3
      have e : (xs ++ Array.replicate (fn.ntmps - xs.size) undef).getD t undef = xs.getD t undef := by
        rw [Array.getD_eq_getD_getElem?, Array.getElem?_append_left (by omega), Array.getD_eq_getD_getElem?]
      rw [e]
      exact (hr t (by omega)).sub hFd0
    row := by
      intro m q hq
      obtain ⟨rfl, rfl⟩ := hl0 m q hq
      refine ⟨Nat.lt_succ_self 0, ?_⟩
      rcases hrow with ⟨b', c', h1, h2, h3, h4⟩ | ⟨h1, h2⟩
      · exact .inl ⟨b', c', h1, h2, h3, fun k hk => (h4 k hk).sub hFd0⟩
      · exact .inr ⟨h1, h2⟩
    old := by
      intro m b hm he
      cases he
      exact ⟨hblk, .inr rfl⟩
    inj := fun m m' b hm hm' _ _ => (hl1 m hm).trans (hl1 m' hm').symm
    st := Step.refl _ _
    ob := fun b hb => ⟨hO b hb, fun e => hblk (e ▸ hb)⟩
    gv := fun n hn => ⟨hn, rfl⟩ }
  refine wp_mono (h O (fun b => b = blk) w (fun _ => some blk) _ _ _ hs0) ?_
  rintro e a' w' ⟨st', env', ⟨he, vs, hvs, hpk, hlt, hren, hq1, hltq, hrenq⟩, hs'⟩
  obtain ⟨x, hx, hxr⟩ := results_sound hs' hvs
  have he0 : env' 0 = some blk := (hs'.gv 0 (Nat.lt_succ_self 0)).2
  have hF : ∀ b, O b ∨ b = blk → Fd ⟨fn.ntmps, O, fun b => b = blk, w, 1, fun _ => some blk⟩ env' (lkp st'.hp) b := by
    rintro b (ho | rfl)
    · exact .inl ho
    · exact .inr ⟨0, by rw [hq1]; rfl, he0⟩
  have hback : ∀ {x : Value} {v : V}, v.lt 1 = true → Rep (Fd ⟨fn.ntmps, O, fun b => b = blk, w, 1, fun _ => some blk⟩ env' (lkp st'.hp)) w' env' (· < st'.nx) x (v.ren fun _ => 0) → Rep (fun b => O b ∨ b = blk) w' (fun _ => some blk) (· < 1) x v := by
    intro x v hv hx
    have h1 := (hx.unren rfl hv).sub hF
    rw [he0] at h1
    exact h1
  have hfin : a'.defers = [] ∧ ∃ v, (results fn a'.tmps).run P w' = .ok v w' ∧ ∃ x, Ending.returned v = .returned x ∧ Step (fun b => b = blk) w w' ∧ RowAt (fun b => O b ∨ b = blk) w' (fun _ => some blk) (· < 1) 0 q1 ∧
      Rep (fun b => O b ∨ b = blk) w' (fun _ => some blk) (· < 1) x r := by
    refine ⟨hs'.df, x, hx, x, rfl, hs'.st, ?_, ?_⟩
    · rcases (hs'.row 0 q1 hq1).2 with ⟨b', c', h1, h2, h3, h4⟩ | ⟨h1, h2⟩
      · rw [he0] at h1
        cases h1
        refine .inl ⟨blk, c', rfl, h2, h3, fun k hk => hback (ltL_getD hltq k) ?_⟩
        rw [← renL_getD, hrenq]
        exact h4 k hk
      · rw [he0] at h1
        cases h1
    · refine hback hlt ?_
      rw [hren, ← hpk]
      exact hxr
  rcases he with rfl | rfl <;> exact hfin

/-- A row has been written elsewhere. -/
theorem Sim.given {C : Ctx} {env : Env} {fr : Nat → Option V} {hp : Nat → Option Row} {D : Nat → Prop} {a : Act} {w w' : World} (h : Sim C env fr hp D a w) {n blk : Nat} {r r' : Row} (hr : hp n = some r) (he : env n = some blk)
    (hs : Step (fun b => b = blk) w w') (hrow : RowAt (Fd C env (upd hp n (some r'))) w' env D n r') : Sim C env fr (upd hp n (some r')) D a w' := by
  have hsome : (hp n).isSome = true := by simp [hr]
  have hFblk : Fd C env hp blk := .inr ⟨n, hsome, he⟩
  have hiff : ∀ m, ((upd hp n (some r')) m).isSome = true ↔ (hp m).isSome = true := by
    intro m
    by_cases e : m = n
    · subst e; simp [hr]
    · rw [upd_ne _ _ e]
  have hFd : ∀ b, Fd C env (upd hp n (some r')) b ↔ Fd C env hp b := by
    intro b
    unfold Fd
    simp only [hiff]
  have keep : ∀ b, b < w.heap.size → ¬ Fd C env hp b → ¬ Fd C env (upd hp n (some r')) b ∧ w'.heap[b]? = w.heap[b]? := by
    intro b hb hF
    exact ⟨fun h => hF ((hFd b).1 h), hs.keep b hb (fun e => hF (e ▸ hFblk))⟩
  have lift : ∀ {x : Value} {v : V}, Rep (Fd C env hp) w env D x v → Rep (Fd C env (upd hp n (some r'))) w' env D x v :=
    fun hx => hx.mono keep hs.shape hs.size (fun _ hD => ⟨hD, rfl⟩)
  exact {
    sz := h.sz
    df := h.df
    tm := fun t v ht => ⟨(h.tm t v ht).1, lift (h.tm t v ht).2⟩
    row := by
      intro m r1 hr1
      by_cases e : m = n
      · subst e
        rw [upd_same] at hr1
        cases hr1
        exact ⟨(h.row m r hr).1, hrow⟩
      · rw [upd_ne _ _ e] at hr1
        refine ⟨(h.row m r1 hr1).1, ?_⟩
        rcases (h.row m r1 hr1).2 with ⟨blk1, c1, he1, hw1, hl1, hc1⟩ | hv
        · have hne : blk1 ≠ blk := by
            intro eb
            subst eb
            exact e (h.inj m n blk1 (by simp [hr1]) hsome he1 he)
          exact .inl ⟨blk1, c1, he1, (hs.keep blk1 (lt_of_heap hw1) hne).trans hw1, hl1, fun k hk => lift (hc1 k hk)⟩
        · exact .inr hv
    old := fun m b hm he' => h.old m b ((hiff m).1 hm) he'
    inj := fun m m' b hm hm' e1 e2 => h.inj m m' b ((hiff m).1 hm) ((hiff m').1 hm') e1 e2
    st := by
      refine h.st.trans hs ?_
      rintro b hb' rfl
      rcases (h.old n b hsome he).2 with hlt | hM
      · exact absurd hb' (Nat.not_lt.2 hlt)
      · exact hM
    ob := h.ob
    gv := h.gv }

/-- Such a call, seen from the caller. -/
theorem hcall_sound {P : Program} {C : Ctx} {env : Env} {st : St} {a : Act} {w : World} (hs : SimS C env st a w) {o : Oper} {c : Call} {g : Operand} (ho : o.op = .call c) (hcal : c.callee = .value g) {f : FuncId} {args0 : List V} {n : Nat} {q0 q1 : Row} {r : V}
    (hv : valsOf st.fr o.op.operands.toList = some (.fn f [] :: V.renL (fun _ => n) args0)) (hlt : V.ltL 1 args0 = true) (hq : lkp st.hp n = some (q0.ren fun _ => n)) (hltq : V.ltL 1 q0.cells = true) (hne : q0.cells ≠ []) (hc : HCall P f args0 q0 q1 r)
    {K : Act → World → Prop} {Q : Exit → Act → World → Prop}
    (hk : ∀ x w', Sim C env (lkp st.fr) (lkp (setL st.hp n (q1.ren fun _ => n))) (· < st.nx) a w' → Rep (Fd C env (lkp (setL st.hp n (q1.ren fun _ => n)))) w' env (· < st.nx) x (r.ren fun _ => n) → K (a.put o.dst x) w') : o.wp P a w K Q := by
  obtain ⟨hl, hr⟩ := valsOf_sound hs hv
  rw [ho] at hl hr
  have hops : (Op.call c).operands.toList = g :: c.args.toList := by simp [Op.operands, Call.operands, hcal]
  rw [hops] at hl hr
  have hg0 : Rep _ w env _ (a.eval g) (.fn f []) := hr 0 (by simp)
  obtain ⟨hcf, hcalls⟩ := hc
  generalize hgv : a.eval g = gv at hg0
  cases hg0 with
  | fn hsz hcr =>
    rename_i xcaps
    have hx0 : xcaps = #[] := Array.eq_empty_of_size_eq_zero hsz
    subst hx0
    have hrun : (execOp a.eval o).run P w = .ok (.enter f (c.args.map a.eval)) w := by
      unfold execOp
      rw [ho]
      simp only [Sem.run_bind]
      have h1 : (resolve a.eval c o.type).run P w = .ok { target := .fn (.func f) #[], args := c.args.map a.eval } w := by
        unfold resolve
        simp only [hcal, hgv, Deferred.ofValue, Array.empty_append]
        rfl
      rw [h1]
      simp only [Result.andThen_ok, invoke, Array.append_empty]
      exact hcf _ _
    unfold Oper.wp
    rw [hrun, Oper.upon_enter]
    have hlen : args0.length = c.args.size := by simpa [renL_length] using hl
    obtain ⟨hDn, hrow⟩ := hs.row n _ hq
    rcases hrow with ⟨blk, c0, he, hw, hcl, hcc⟩ | ⟨_, hv0⟩
    · have hsome : (lkp st.hp n).isSome = true := by rw [hq]; rfl
      have hnO : ¬ Fd C env (lkp (dlt st.hp n)) blk := by
        rw [lkp_dlt]
        rintro (ho' | ⟨m, hm, he'⟩)
        · exact (hs.old n blk hsome he).1 ho'
        · by_cases e : m = n
          · subst e; simp at hm
          · rw [upd_ne _ _ e] at hm
            exact e (hs.inj m n blk hm hsome he' he)
      have hF1 : ∀ b, (Fd C env (lkp (dlt st.hp n)) b ∨ b = blk) → Fd C env (lkp st.hp) b := by
        rintro b (h1 | rfl)
        · rw [lkp_dlt] at h1
          exact h1.drop
        · exact .inr ⟨n, hsome, he⟩
      have hin : ∀ {x : Value} {v : V}, v.lt 1 = true → Rep (Fd C env (lkp st.hp)) w env (· < st.nx) x (v.ren fun _ => n) → Rep (fun b => Fd C env (lkp (dlt st.hp n)) b ∨ b = blk) w (fun _ => some blk) (· < 1) x v := by
        intro x v hv hx
        have h1 := (hx.unren rfl hv).sub hF1
        rw [he] at h1
        exact h1
      refine (hcalls (Fd C env (lkp (dlt st.hp n))) w blk (c.args.map a.eval) (fun b hb => hs.fd_lt (hF1 b (.inl hb))) hnO ?_ (by simp [hlen]) ?_).mono ?_
      · simp only [Row.ren, renL_length] at hcl hcc
        refine .inl ⟨blk, c0, rfl, hw, hcl, fun k hk => hin (ltL_getD hltq k) ?_⟩
        rw [← renL_getD]
        exact hcc k hk
      · intro k hk
        refine hin (ltL_getD hlt k) ?_
        have h1 := hr (k + 1) (by simp [renL_length]; omega)
        simp only [List.getD_cons_succ, renL_getD] at h1
        have e1 : (c.args.map a.eval).getD k undef = a.eval (c.args.toList.getD k (.const undef)) := by
          rw [Array.getD_eq_getD_getElem?]
          simp [List.getD_eq_getElem?_getD, show k < c.args.size by omega]
        rw [e1]
        exact h1
      rintro e w' ⟨x, rfl, hstep, hrow1, hres⟩
      show K (a.put o.dst x) w'
      have hF2 : ∀ b, Fd C env (upd (lkp st.hp) n (some (q1.ren fun _ => n))) b → (Fd C env (lkp (dlt st.hp n)) b ∨ b = blk) := by
        rintro b (h1 | ⟨m, hm, he'⟩)
        · exact .inl (.inl h1)
        · by_cases e : m = n
          · subst e
            rw [he] at he'
            cases he'
            exact .inr rfl
          · rw [upd_ne _ _ e] at hm
            exact .inl (.inr ⟨m, by rw [lkp_dlt, upd_ne _ _ e]; exact hm, he'⟩)
      have hout : ∀ {x : Value} {v : V}, Rep (fun b => Fd C env (lkp (dlt st.hp n)) b ∨ b = blk) w' (fun _ => some blk) (· < 1) x v → Rep (Fd C env (upd (lkp st.hp) n (some (q1.ren fun _ => n)))) w' env (· < st.nx) x (v.ren fun _ => n) :=
        fun hx => (hx.sub hF2).ren (fun _ => n) (fun j hj => ⟨hDn, he⟩)
      refine hk x w' ?_ ?_
      · rw [lkp_set]
        refine hs.given hq he hstep ?_
        rcases hrow1 with ⟨b', c', h1, h2, h3, h4⟩ | ⟨h1, h2⟩
        · cases h1
          refine .inl ⟨blk, c', he, h2, by simp only [Row.ren, renL_length]; exact h3, fun k hk => ?_⟩
          simp only [Row.ren, renL_length] at hk
          show Rep _ _ _ _ _ ((V.renL (fun _ => n) q1.cells).getD k .junk)
          rw [renL_getD]
          exact hout (h4 k hk)
        · cases h1
      · rw [lkp_set]
        exact hout hres
    · exact absurd (List.eq_nil_of_length_eq_zero (by have := congrArg List.length hv0; simpa [Row.ren, renL_length] using this)) hne

end Go.Proofs.Ytepkjfnffbdcoaa.Lift

/- The rules in the form in which proofs use them: what is to be computed stands in the goal. -/
set_option linter.unusedVariables false
set_option linter.unusedSimpArgs false
namespace Go.Proofs.Ytepkjfnffbdcoaa.Lift
open Go

/-- An operation with its guard's slot. -/
structure PO where
  dst : Option Tmp
  op : Op
  g : Option (Option Tmp × Bool)

def prepL (ops : Array Oper) : List Oper → List PO
  | [] => []
  | o :: l => ⟨o.dst, o.op, match o.guard with
    | none => none
    | some (j, w) => some (gslot ops j, w)⟩ :: prepL ops l
def prep (ops : Array Oper) : List PO := prepL ops ops.toList

/-- The operands, as a list that computes. -/
def opsOf : Op → List Operand
  | .move x => [x]
  | .assign x => [x]
  | .box _ x => [x]
  | .load _ x => [x]
  | .unOp _ _ x => [x]
  | .convert _ _ x => [x]
  | .fieldAddr _ x _ => [x]
  | .field _ x _ => [x]
  | .extract x _ => [x]
  | .pick c a b => [c, a, b]
  | .store _ a v => [a, v]
  | .binOp _ _ a v _ => [a, v]
  | .makeSlice _ a v => [a, v]
  | .indexAddr _ a v => [a, v]
  | .index _ a v => [a, v]
  | .alloc _ => []
  | .build _ ps => ps.toList.map (·.2)
  | .buildSlice _ _ ps => ps.toList.map (·.2)
  | .slice _ x l h m => x :: (l.toList ++ (h.toList ++ m.toList))
  | .call c => match c.callee with
    | .value f => f :: c.args.toList
    | .builtin _ => c.args.toList
    | .invoke _ _ => (Op.call c).operands.toList
  | op => op.operands.toList
theorem opsOf_eq (op : Op) : opsOf op = op.operands.toList := by
  cases op <;> try rfl
  case slice t x l h m => cases l <;> cases h <;> cases m <;> rfl
  case call c =>
    unfold opsOf
    simp only [Op.operands, Call.operands]
    split
    · rename_i f hf; simp [hf]
    · rename_i b hb; simp [hb]
    · rfl

def guardP (fr : List (Nat × V)) : Option (Option Tmp × Bool) → Option Bool
  | none => some true
  | some (some d, want) => match lkp fr d with
    | some (.b x) => some (x == want)
    | some (.tup []) => some false
    | _ => none
  | some (none, _) => none

/-- What a call leaves: a plain result alone leaves the caller's own as it was. -/
def landS (r : V) (rows : List Row) (hp hp1 : List (Nat × Row)) (nx : Nat) : V × List (Nat × Row) × Nat :=
  if plainV r = true ∧ rows = [] then (r, hp, nx) else (r.ren (nx + ·), namedRows nx nx rows ++ hp1, nx + rows.length)

/-- The region's run, operation by operation. -/
inductive RunO (P : Program) (N : Nat) : List PO → St → St → Prop
  | nil {st : St} : RunO P N [] st st
  | op {o : PO} {l : List PO} {st st1 st2 : St} {vs : List V} {e : Eff} {v : V} {hp : List (Nat × Row)} {u : Bool} : isCall o.op = false → guardP st.fr o.g = some true → valsOf st.fr (opsOf o.op) = some vs → eff P o.op vs = some e → e.runL st.nx st.hp = some (v, hp, u) →
      putSt N o.dst v st.fr hp (if u = true then st.nx + 1 else st.nx) = some st1 → RunO P N l st1 st2 → RunO P N (o :: l) st st2
  | call {o : PO} {l : List PO} {st st1 st2 : St} {f : FuncId} {caps args args' : List V} {hp1 : List (Nat × Row)} {r v : V} {rows : List Row} {hp : List (Nat × Row)} {nx : Nat} : isCall o.op = true → guardP st.fr o.g = some true → valsOf st.fr (opsOf o.op) = some (.fn f caps :: args) → frzL [] (args ++ caps) st.hp = some (args', hp1) → V.hfL args' = true → PCall P f args' r rows →
      landS r rows st.hp hp1 st.nx = (v, hp, nx) → putSt N o.dst v st.fr hp nx = some st1 → RunO P N l st1 st2 → RunO P N (o :: l) st st2
  | hcall {o : PO} {l : List PO} {st st1 st2 : St} {f : FuncId} {args args0 : List V} {n : Nat} {q q' q0 q1 : Row} {r v : V} : isCall o.op = true → guardP st.fr o.g = some true → valsOf st.fr (opsOf o.op) = some (.fn f [] :: args) → HCall P f args0 q0 q1 r → args = V.renL (fun _ => n) args0 → V.ltL 1 args0 = true → lkp st.hp n = some q → q = (q0.ren fun _ => n) → V.ltL 1 q0.cells = true → q0.cells ≠ [] →
      q' = (q1.ren fun _ => n) → v = (r.ren fun _ => n) → putSt N o.dst v st.fr (setL st.hp n q') st.nx = some st1 → RunO P N l st1 st2 → RunO P N (o :: l) st st2
  | skip {o : PO} {l : List PO} {st st1 st2 : St} : guardP st.fr o.g = some false → putSt N o.dst (.tup []) st.fr st.hp st.nx = some st1 → RunO P N l st1 st2 → RunO P N (o :: l) st st2
  | sem {o : PO} {l : List PO} {st st1 st2 : St} : (∀ (ops : Array Oper) (i : Nat) (o' : Oper), ops[i]? = some o' → (⟨o'.dst, o'.op, match o'.guard with
    | none => none
    | some (j, w) => some (gslot ops j, w)⟩ : PO) = o → ∀ (C : Ctx) (env : Env) (a : Act) (w : World), C.N = N → SimS C env st a w → ∀ (K : Act → World → Prop) (Q : Exit → Act → World → Prop), (∀ env' a' w', SimS C env' st1 a' w' → K a' w') → wpOp P ops Q i K a w) →
      RunO P N l st1 st2 → RunO P N (o :: l) st st2

theorem guardP_eq (ops : Array Oper) (N : Nat) (fr : List (Nat × V)) (o : Oper) : guardOf ops N fr o = guardP fr (match o.guard with
    | none => none
    | some (j, w) => some (gslot ops j, w)) := by
  unfold guardOf guardP
  cases o.guard with
  | none => rfl
  | some p =>
    obtain ⟨j, want⟩ := p
    simp only
    cases gslot ops j <;> rfl

open Classical in
/-- The specs that know one call. -/
noncomputable def oneG (f : FuncId) (args : List V) (r : V) (rows : List Row) : Specs := fun f' args' => if f' = f ∧ args' = args then some (r, rows) else none
theorem oneG_ok {P : Program} {f : FuncId} {args : List V} {r : V} {rows : List Row} (h : PCall P f args r rows) : ∀ f' args' r' rows', oneG f args r rows f' args' = some (r', rows') → PCall P f' args' r' rows' := by
  intro f' args' r' rows' h'
  unfold oneG at h'
  split at h'
  · rename_i e
    obtain ⟨rfl, rfl⟩ := e
    cases h'
    exact h
  · cases h'
def noG : Specs := fun _ _ => none
theorem noG_ok {P : Program} : ∀ f' args' r' rows', noG f' args' = some (r', rows') → PCall P f' args' r' rows' := fun _ _ _ _ h => by cases h

theorem RunO.step {P : Program} {N : Nat} {ops : Array Oper} {o : Oper} {l : List PO} {st st2 : St} (h : RunO P N (⟨o.dst, o.op, match o.guard with
    | none => none
    | some (j, w) => some (gslot ops j, w)⟩ :: l) st st2) : (∃ st1 G, (∀ f args r rows, G f args = some (r, rows) → PCall P f args r rows) ∧ stepOp P G N ops st o = some st1 ∧ RunO P N l st1 st2) ∨
    (∃ (st1 : St) (f : FuncId) (args0 : List V) (n : Nat) (q0 q1 : Row) (r : V), isCall o.op = true ∧ guardOf ops N st.fr o = some true ∧ valsOf st.fr o.op.operands.toList = some (.fn f [] :: V.renL (fun _ => n) args0) ∧ HCall P f args0 q0 q1 r ∧ V.ltL 1 args0 = true ∧ lkp st.hp n = some (q0.ren fun _ => n) ∧ V.ltL 1 q0.cells = true ∧ q0.cells ≠ [] ∧
      putSt N o.dst (r.ren fun _ => n) st.fr (setL st.hp n (q1.ren fun _ => n)) st.nx = some st1 ∧ RunO P N l st1 st2) ∨
    ∃ st1 : St, (∀ i : Nat, ops[i]? = some o → ∀ (C : Ctx) (env : Env) (a : Act) (w : World), C.N = N → SimS C env st a w → ∀ (K : Act → World → Prop) (Q : Exit → Act → World → Prop), (∀ env' a' w', SimS C env' st1 a' w' → K a' w') → wpOp P ops Q i K a w) ∧ RunO P N l st1 st2 := by
  cases h with
  | op h1 h2 h3 h4 h5 h6 h7 =>
    rename_i st1 vs e v hp u
    refine .inl ⟨st1, noG, noG_ok, ?_, h7⟩
    unfold stepOp
    rw [guardP_eq]
    simp only [opsOf_eq] at h3
    simp only [h2, h3, h1, h4, h5, Bool.false_eq_true, if_false]
    exact h6
  | call h1 h2 h3 h4 h5 h6 h7 h8 h9 =>
    rename_i st1 f caps args args' hp1 r v rows hp nx
    refine .inl ⟨st1, oneG f args' r rows, oneG_ok h6, ?_, h9⟩
    have hc : callStep (oneG f args' r rows) (.fn f caps :: args) st.hp st.nx = some (v, hp, nx) := by
      have : oneG f args' r rows f args' = some (r, rows) := by simp [oneG]
      simp only [callStep, h4, h5, this, if_true]
      unfold landS at h7
      split
      · rename_i hpl
        rw [if_pos hpl] at h7
        simp only [Prod.mk.injEq] at h7
        obtain ⟨rfl, rfl, rfl⟩ := h7
        rfl
      · rename_i hpl
        rw [if_neg hpl] at h7
        simp only [Prod.mk.injEq] at h7
        obtain ⟨rfl, rfl, rfl⟩ := h7
        rfl
    unfold stepOp
    rw [guardP_eq]
    simp only [opsOf_eq] at h3
    simp only [h2, h3, h1, hc, if_true]
    exact h8
  | skip h1 h2 h3 =>
    rename_i st1
    refine .inl ⟨st1, noG, noG_ok, ?_, h3⟩
    unfold stepOp
    rw [guardP_eq]
    simp only [h1]
    exact h2
  | hcall h1 h2 h3 h4 h5 h6 h7 h8 h9 h10 h11 h12 h13 h14 =>
    rename_i st1 f args args0 n q q' q0 q1 r v
    subst h5 h8 h11 h12
    refine .inr (.inl ⟨st1, f, args0, n, q0, q1, r, h1, ?_, by rw [← opsOf_eq]; exact h3, h4, h6, h7, h9, h10, h13, h14⟩)
    rw [guardP_eq]
    exact h2
  | sem h1 h2 =>
    rename_i st1
    exact .inr (.inr ⟨st1, fun i hi C env a w => h1 ops i o hi rfl C env a w, h2⟩)

theorem RunO.spec {P : Program} {C : Ctx} {ops : Array Oper} {Q : Exit → Act → World → Prop} : ∀ (l : List Oper) (i : Nat) (st st' : St), ops.toList.drop i = l → RunO P C.N (prepL ops l) st st' → ∀ (env : Env) (a : Act) (w : World), SimS C env st a w →
    (∀ env' a' w', SimS C env' st' a' w' → Q .normal a' w') → wpOps P ops Q (List.range' i l.length) a w := by
  intro l
  induction l with
  | nil =>
    intro i st st' hd h env a w hs hk
    cases h
    exact hk env a w hs
  | cons o l ih =>
    intro i st st' hd h env a w hs hk
    have hi : ops[i]? = some o := by
      have : (ops.toList.drop i)[0]? = some o := by rw [hd]; rfl
      simpa using this
    have hd' : ops.toList.drop (i + 1) = l := by
      rw [← List.drop_drop, hd]
      rfl
    rw [List.length_cons, List.range'_succ, wpOps_cons]
    rcases RunO.step h with ⟨st1, G, hG, h1, h2⟩ | ⟨st1, f, args0, n, q0, q1, r, h1, h2, h3, h4, h5, h6, h7, h8, h9, h10⟩ | ⟨st1, h1, h2⟩
    · exact stepOp_sound hG hs h1 hi fun env' a' w' hs' => ih (i + 1) st1 st' hd' h2 env' a' w' hs' hk
    · unfold wpOp
      simp only [hi]
      have hw := guard_sound hs h2
      rw [if_pos hw]
      refine .inl ?_
      cases hop : o.op with
      | call c =>
        rw [hop] at h1
        simp only [isCall] at h1
        split at h1
        · rename_i g hcal
          exact hcall_sound hs hop hcal h3 h5 h6 h7 h8 h4 fun x w' hs' hr => ih (i + 1) st1 st' hd' h10 env _ w' (putSt_sound h9 hs' hr) hk
        · cases h1
      | _ => rw [hop] at h1; simp [isCall] at h1
    · exact h1 i hi C env a w rfl hs _ _ fun env' a' w' hs' => ih (i + 1) st1 st' hd' h2 env' a' w' hs' hk

/-- Only these slots are kept, each with its last value. -/
inductive Keep : List Nat → List (Nat × V) → List (Nat × V) → Prop
  | nil {l : List Nat} : Keep l [] []
  | take {l : List Nat} {t : Nat} {v : V} {r r' : List (Nat × V)} : l.contains t = true → Keep (l.filter (fun k => !(k == t))) r r' → Keep l ((t, v) :: r) ((t, v) :: r')
  | drop {l : List Nat} {t : Nat} {v : V} {r r' : List (Nat × V)} : l.contains t = false → Keep l r r' → Keep l ((t, v) :: r) r'

theorem Keep.mem {l : List Nat} {fr fr' : List (Nat × V)} (h : Keep l fr fr') : ∀ (t : Nat) (v : V), lkp fr' t = some v → t ∈ l := by
  induction h with
  | nil => intro t v h; simp [lkp] at h
  | take hc h ih =>
    intro t v hl
    simp only [lkp] at hl
    split at hl
    · rename_i e; subst e; simpa using hc
    · have := ih t v hl
      rw [List.mem_filter] at this
      exact this.1
  | drop hc h ih => exact ih

theorem Keep.lkp {l : List Nat} {fr fr' : List (Nat × V)} (h : Keep l fr fr') : ∀ (t : Nat) (v : V), lkp fr' t = some v → lkp fr t = some v := by
  induction h with
  | nil => intro t v h; exact h
  | take hc h ih =>
    intro t v hl
    simp only [Lift.lkp] at hl ⊢
    split at hl
    · rename_i e; rw [if_pos e]; exact hl
    · rename_i e; rw [if_neg e]; exact ih t v hl
  | drop hc h ih =>
    rename_i l k u r r'
    intro t v hl
    simp only [Lift.lkp]
    by_cases e : t = k
    · subst e
      have := h.mem t v hl
      have h2 : l.contains t = true := by simpa using this
      rw [h2] at hc
      cases hc
    · rw [if_neg e]
      exact ih t v hl

section
variable {P : Program} {C : Ctx} {st : St} {Q : Exit → St → Prop}

theorem simS_keep {l : List Nat} {fr : List (Nat × V)} (hk : Keep l st.fr fr) {env : Env} {a : Act} {w : World} (hs : SimS C env st a w) : SimS C env ⟨fr, st.hp, st.nx⟩ a w where
  sz := hs.sz
  df := hs.df
  tm := fun t v ht => hs.tm t v (hk.lkp t v ht)
  row := hs.row
  old := hs.old
  inj := hs.inj
  st := hs.st
  ob := hs.ob
  gv := hs.gv

theorem AX.keep {l : List Nat} {fr : List (Nat × V)} (hk : Keep l st.fr fr) {c : Code} (h : AX P C c ⟨fr, st.hp, st.nx⟩ Q) : AX P C c st Q :=
  fun env a w hs => h env a w (simS_keep hk hs)

/-- A region; behind it the slots of l alone are known. -/
theorem AX.reg (l : List Nat) {id : Nat} {ops : Array Oper} {po : List PO} {fr0 fr : List (Nat × V)} {hp1 : List (Nat × Row)} {nx1 : Nat} (hp : prep ops = po) (h : RunO P C.N po st ⟨fr0, hp1, nx1⟩) (hk : Keep l fr0 fr) (hq : Q .normal ⟨fr, hp1, nx1⟩) :
    AX P C (.region id ops false) st Q := by
  subst hp
  intro env a w hs
  refine wp_region ?_
  have := RunO.spec (C := C) (Q := fun e a' w' => ∃ st' env', Q e st' ∧ SimS C env' st' a' w') ops.toList 0 st _ (by simp) h env a w hs (fun env' a' w' hs' => ⟨_, env', hq, simS_keep (st := ⟨fr0, hp1, nx1⟩) hk hs'⟩)
  rwa [Array.length_toList, ← List.range_eq_range'] at this

theorem AX.sreg (l : List Nat) {id : Nat} {ops : Array Oper} {po : List PO} {fr0 fr : List (Nat × V)} {hp1 : List (Nat × Row)} {nx1 : Nat} {y : Code} (hp : prep ops = po) (h : RunO P C.N po st ⟨fr0, hp1, nx1⟩) (hk : Keep l fr0 fr) (hq : AX P C y ⟨fr, hp1, nx1⟩ Q) :
    AX P C (.seq (.region id ops false) y) st Q := AX.seq (AX.reg l hp h hk hq)

theorem AX.cond_true {c : Operand} {x y : Code} (hc : valOf st.fr c = some (.b true)) (h : AX P C x st Q) : AX P C (.cond c x y) st Q := AX.cond hc h
theorem AX.cond_false {c : Operand} {x y : Code} (hc : valOf st.fr c = some (.b false)) (h : AX P C y st Q) : AX P C (.cond c x y) st Q := AX.cond hc h
theorem AX.cond_dec {c : Operand} {x y : Code} {p : Prop} [Decidable p] (hc : valOf st.fr c = some (.b (decide p))) (h1 : p → AX P C x st Q) (h2 : ¬ p → AX P C y st Q) : AX P C (.cond c x y) st Q := by
  refine AX.cond hc ?_
  by_cases hp : p
  · rw [if_pos (by simp [hp])]; exact h1 hp
  · rw [if_neg (by simp [hp])]; exact h2 hp

theorem AX.if_ {c : Operand} {x y : Code} (h : match valOf st.fr c with
    | some (.b b) => if b = true then AX P C x st Q else AX P C y st Q
    | _ => False) : AX P C (.cond c x y) st Q := by
  split at h
  · rename_i b hb
    refine AX.cond hb ?_
    cases b <;> exact h
  · exact h.elim

@[simp] theorem thenS_normal {c : Code} : thenS c P C Q .normal st = AX P C c st Q := rfl
@[simp] theorem thenS_ret {c : Code} : thenS c P C Q .ret st = Q .ret st := rfl
@[simp] theorem thenS_exit {c : Code} {id : Nat} : thenS c P C Q (.exit id) st = Q (.exit id) st := rfl
@[simp] theorem blockS_normal {id : Nat} : blockS id Q .normal st = Q .normal st := rfl
@[simp] theorem blockS_ret {id : Nat} : blockS id Q .ret st = Q .ret st := rfl
@[simp] theorem blockS_exit {id id' : Nat} : blockS id Q (.exit id') st = if id' = id then Q .normal st else Q (.exit id') st := rfl
@[simp] theorem backS_ret {g : Nat} {I : Nat → St → Prop} {n : Nat} : backS g I n Q .ret st = Q .ret st := rfl
@[simp] theorem backS_exit {g : Nat} {I : Nat → St → Prop} {n id : Nat} : backS g I n Q (.exit id) st = Q (.exit id) st := rfl
end

/-! ### What a walk's simp computes with -/
@[go_sem] theorem getD_nums (k : IntKind) (l : List Int) (j : Nat) (h : j < l.length) : (l.map (V.i k)).getD j .junk = V.i k (l.getD j 0) := by
  simp [List.getD_eq_getElem?_getD, h]
@[go_sem] theorem cells_len (k : IntKind) (l : List Int) (j : Nat) : (((l.map (V.i k)).getD j .junk).cells).length = 1 := by
  rw [List.getD_eq_getElem?_getD, List.getElem?_map]
  cases l[j]? <;> rfl
@[go_sem] theorem cells_i (k : IntKind) (n : Int) : (V.i k n).cells = [.i k n] := rfl
@[go_sem] theorem cells_b (x : Bool) : (V.b x).cells = [.b x] := rfl
@[go_sem] theorem cells_s (x : ByteArray) : (V.s x).cells = [.s x] := rfl
@[go_sem] theorem cells_nl : V.nl.cells = [.nl] := rfl
@[go_sem] theorem cells_sl (x : List V) : (V.sl x).cells = [.sl x] := rfl
@[go_sem] theorem cells_agg (x : List V) : (V.agg x).cells = x := rfl
@[go_sem] theorem cells_ptr (h o : Nat) : (V.ptr h o).cells = [.ptr h o] := rfl
@[go_sem] theorem cells_own (h o l e : Nat) : (V.own h o l e).cells = [.own h o l e] := rfl
@[go_sem] theorem cells_fn (f : Nat) (l : List V) : (V.fn f l).cells = [.fn f l] := rfl
@[go_sem] theorem flat_i (k : IntKind) (n : Int) : (V.i k n).flat = true := rfl
@[go_sem] theorem flat_b (x : Bool) : (V.b x).flat = true := rfl
@[go_sem] theorem flat_s (x : ByteArray) : (V.s x).flat = true := rfl
@[go_sem] theorem flat_nl : V.nl.flat = true := rfl
@[go_sem] theorem flat_sl (x : List V) : (V.sl x).flat = true := rfl
@[go_sem] theorem flat_ptr (h o : Nat) : (V.ptr h o).flat = true := rfl
@[go_sem] theorem flat_own (h o l e : Nat) : (V.own h o l e).flat = true := rfl
@[go_sem] theorem flat_fn (f : Nat) (l : List V) : (V.fn f l).flat = true := rfl
@[go_sem] theorem isJunk_i (k : IntKind) (n : Int) : (V.i k n).isJunk = false := rfl
@[go_sem] theorem isJunk_b (x : Bool) : (V.b x).isJunk = false := rfl
@[go_sem] theorem isJunk_s (x : ByteArray) : (V.s x).isJunk = false := rfl
@[go_sem] theorem isJunk_nl : V.nl.isJunk = false := rfl
@[go_sem] theorem isJunk_sl (x : List V) : (V.sl x).isJunk = false := rfl
@[go_sem] theorem isJunk_agg (x : List V) : (V.agg x).isJunk = false := rfl
@[go_sem] theorem isJunk_ptr (h o : Nat) : (V.ptr h o).isJunk = false := rfl
@[go_sem] theorem isJunk_own (h o l e : Nat) : (V.own h o l e).isJunk = false := rfl
@[go_sem] theorem isJunk_fn (f : Nat) (l : List V) : (V.fn f l).isJunk = false := rfl

theorem u32_of (n : Int) (h0 : 0 ≤ n) (h1 : n < 4294967296) : IntKind.u32.wrap n = n := by
  simp [IntKind.wrap, IntKind.bits, IntKind.signed]; omega
theorem u64_of (n : Int) (h0 : 0 ≤ n) (h1 : n < 18446744073709551616) : IntKind.u64.wrap n = n := by
  simp [IntKind.wrap, IntKind.bits, IntKind.signed]; omega
theorem i64_of (n : Int) (h0 : -9223372036854775808 ≤ n) (h1 : n ≤ 9223372036854775807) : IntKind.i64.wrap n = n := by
  simp [IntKind.wrap, IntKind.bits, IntKind.signed]
  split <;> omega
theorem u32_wrap (n : Int) : IntKind.u32.wrap n = n % 4294967296 := by simp [IntKind.wrap, IntKind.bits, IntKind.signed]
theorem u64_wrap (n : Int) : IntKind.u64.wrap n = n % 18446744073709551616 := by simp [IntKind.wrap, IntKind.bits, IntKind.signed]

theorem Done.one {P : Program} {t : Tmp} {r v : V} {st : St} {hp : List (Nat × Row)} (h1 : lkp st.fr t = some v) (h2 : frz [] v st.hp = some (r, hp)) (h3 : r.lt 0 = true) (h4 : r.ren id = r) : Done P #[.tmp t] r [] st :=
  ⟨[v], by simp [resVs, resV, h1], [], id, r, hp, h2, h4.symm, h3, fun h q hq => by simp at hq, fun h h' hh => by simp at hh⟩

/-! ### The walk's simp set -/
attribute [go_sem] opsOf Option.toList Array.toList prep prepL gslot List.toList_toArray guardP valsOf valOf  isCall eff effMove effPick effAlloc effBox effBuild effBuildSlice effLoad effStore effBin binV binInt binBool binStr binNil effUn effConvB effConv effMakeFunc effMakeSlice effSlice lowHigh sliceV bound effFieldAddr effField fieldOff effIndexAddr effIndex effExtract effCall effLen lenV effAppend appRow effMin putSt Eff.runL lkp dlt setL ofConst ofCell readAt setR fillV placesOf callStep landS frz frzL V.hf V.hfL V.ren V.renL Row.ren plainV plain1 namedRows thenS_normal thenS_ret thenS_exit blockS_normal blockS_ret blockS_exit backS_ret backS_exit List.contains_cons List.contains_nil List.length_cons List.length_nil List.length_map List.map_cons List.map_nil List.getElem?_toArray List.getElem?_cons_zero List.getElem?_cons_succ List.all_cons List.all_nil List.cons_append List.nil_append List.append_nil List.drop_zero List.zip_cons_cons List.zip_nil_left List.zip_nil_right Option.bind_some Option.isSome_some Option.isSome_none List.size_toArray List.empty_eq Array.append_empty Array.empty_append List.append_toArray zerosV_one chunks_one ite_true ite_false if_true if_false Bool.false_eq_true Bool.and_true Bool.true_and Bool.and_false Bool.false_and Bool.or_false Bool.or_true Bool.not_true Bool.not_false beq_self_eq_true and_true true_and and_self decide_true decide_false not_true_eq_false not_false_eq_true Nat.zero_add Nat.add_zero Nat.mul_one Int.toNat_natCast decide_eq_true_eq

/-! ### Rules in bundles (for the walks' simp) -/
theorem pq : (∀ ops : Array Oper, prep ops = prepL ops ops.toList) ∧ (∀ ops : Array Oper, prepL ops [] = []) ∧
    (∀ (ops : Array Oper) (o : Oper) (l : List Oper), prepL ops (o :: l) = ⟨o.dst, o.op, match o.guard with
      | none => none
      | some (j, w) => some (gslot ops j, w)⟩ :: prepL ops l) ∧ (∀ (ops : Array Oper) (j : Nat), gslot ops j = (ops[j]?).bind (·.dst)) ∧
    (∀ l : List Oper, l.toArray.toList = l) ∧ (∀ (l : List Oper) (i : Nat), l.toArray[i]? = l[i]?) ∧ (∀ (a : Oper) (l : List Oper), (a :: l)[0]? = some a) ∧ (∀ (a : Oper) (l : List Oper) (n : Nat), (a :: l)[n + 1]? = l[n]?) ∧
    (∀ (a : Oper) (f : Oper → Option Tmp), (some a).bind f = f a) :=
  ⟨fun _ => rfl, fun _ => rfl, fun _ _ _ => rfl, fun _ _ => rfl, fun _ => rfl, fun l i => by simp, fun _ _ => rfl, fun _ _ _ => rfl, fun _ _ => rfl⟩
theorem pb : (∀ (N d : Nat) (v : V) (fr : List (Nat × V)) (hp : List (Nat × Row)) (nx : Nat), putSt N (some d) v fr hp nx = if d < N then some ⟨(d, v) :: fr, hp, nx⟩ else none) ∧
    (∀ (N : Nat) (v : V) (fr : List (Nat × V)) (hp : List (Nat × Row)) (nx : Nat), putSt N none v fr hp nx = some ⟨fr, hp, nx⟩) ∧ (∀ n : Nat, 0 + n = n) ∧ ((false = true) = False) :=
  ⟨fun _ _ _ _ _ _ => rfl, fun _ _ _ _ _ => rfl, Nat.zero_add, by simp⟩
attribute [go_sem] decide_eq_true decide_eq_false if_pos if_neg

end Go.Proofs.Ytepkjfnffbdcoaa.Lift
