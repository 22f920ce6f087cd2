/- Calls that are given a row of the caller's: they may write it, and the caller has it back. -/
import Derived.Test.YtlhobedecoeohaaLift9
set_option linter.unusedVariables false
set_option linter.unusedSimpArgs false
namespace Go.Proofs.Ytlhobedecoeohaa.Lift
open Go

/-- The contract of a function that gets one row of its caller's (its name there: 0). -/
def HCall (P : Program) (f : FuncId) (args : List V) (q0 q1 : Row) (r : V) : Prop :=
  (∀ xs w, (callFunc f xs).run P w = .ok (.enter f xs) w) ∧
  ∀ (O : Nat → Prop) (w : World) (blk : Nat) (xs : Array Value), (∀ b, O b → b < w.heap.size) → ¬ O blk →
    RowAt (fun b => O b ∨ b = blk) w (fun _ => some blk) (· < 1) 0 q0 → xs.size = args.length →
    (∀ k, k < args.length → Rep (fun b => O b ∨ b = blk) w (fun _ => some blk) (· < 1) (xs.getD k undef) (args.getD k .junk)) →
    Calls P f xs w (fun e w' => ∃ x, e = .returned x ∧ Step (fun b => b = blk) w w' ∧ RowAt (fun b => O b ∨ b = blk) w' (fun _ => some blk) (· < 1) 0 q1 ∧
      Rep (fun b => O b ∨ b = blk) w' (fun _ => some blk) (· < 1) x r)

/-- What the end of such a function tells. -/
def DoneH (P : Program) (rs : Array ResultVar) (r : V) (q1 : Row) (st : St) : Prop :=
  ∃ vs, resVs P st rs.toList = some vs ∧ packV vs = r ∧ r.lt 1 = true ∧ r.ren (fun _ => 0) = r ∧ lkp st.hp 0 = some q1 ∧ V.ltL 1 q1.cells = true ∧ V.renL (fun _ => 0) q1.cells = q1.cells

theorem HCall.of_ax {P : Program} {f : FuncId} {fn : Func} {c : Code} {args : List V} {q0 q1 : Row} {r : V} (hcf : ∀ xs w, (callFunc f xs).run P w = .ok (.enter f xs) w) (hf : P.funcs[f]? = some fn) (hb : fn.body = some c) (hN : args.length ≤ fn.ntmps)
    (h : ∀ (O M : Nat → Prop) (w : World) (G : Env), AX P ⟨fn.ntmps, O, M, w, 1, G⟩ c ⟨argFr 0 args, [(0, q0)], 1⟩ (fun e st => (e = .ret ∨ e = .normal) ∧ DoneH P fn.results r q1 st)) : HCall P f args q0 q1 r := by
  refine ⟨hcf, fun O w blk xs hO hblk hrow hsz hr => ?_⟩
  refine calls_of_wp hf hb ?_
  have hl0 : ∀ m q, lkp [(0, q0)] m = some q → m = 0 ∧ q = q0 := by
    intro m q hq
    simp only [lkp] at hq
    split at hq
    · cases hq
      rename_i e
      exact ⟨e, rfl⟩
    · cases hq
  have hl1 : ∀ m, (lkp [(0, q0)] m).isSome = true → m = 0 := by
    intro m hm
    obtain ⟨q, hq⟩ := Option.isSome_iff_exists.1 hm
    exact (hl0 m q hq).1
  have hFd0 : ∀ b, Fd ⟨fn.ntmps, O, fun b => b = blk, w, 1, fun _ => some blk⟩ (fun _ => some blk) (lkp [(0, q0)]) b → O b ∨ b = blk := by
    rintro b (ho | ⟨m, hm, he⟩)
    · exact .inl ho
    · cases he
      exact .inr rfl
  have hs0 : SimS ⟨fn.ntmps, O, fun b => b = blk, w, 1, fun _ => some blk⟩ (fun _ => some blk) ⟨argFr 0 args, [(0, q0)], 1⟩ { tmps := xs ++ Array.replicate (fn.ntmps - xs.size) undef, defers := [] } w := {
    sz := by simp; omega
    df := rfl
    tm := by
      intro t v ht
      obtain ⟨h1, h2, h3⟩ := argFr_look args 0 t v ht
      refine ⟨by show t < fn.ntmps; omega, ?_⟩
      subst h3
      have e : (xs ++ Array.replicate (fn.ntmps - xs.size) undef).getD t undef = xs.getD t undef := by
        rw [Array.getD_eq_getD_getElem?, Array.getElem?_append_left (by omega), Array.getD_eq_getD_getElem?]
      rw [e]
      exact (hr t (by omega)).sub hFd0
    row := by
      intro m q hq
      obtain ⟨rfl, rfl⟩ := hl0 m q hq
      refine ⟨Nat.lt_succ_self 0, ?_⟩
      rcases hrow with ⟨b', c', h1, h2, h3, h4⟩ | ⟨h1, h2⟩
      · exact .inl ⟨b', c', h1, h2, h3, fun k hk => (h4 k hk).sub hFd0⟩
      · exact .inr ⟨h1, h2⟩
    old := by
      intro m b hm he
      cases he
      exact ⟨hblk, .inr rfl⟩
    inj := fun m m' b hm hm' _ _ => (hl1 m hm).trans (hl1 m' hm').symm
    st := Step.refl _ _
    ob := fun b hb => ⟨hO b hb, fun e => hblk (e ▸ hb)⟩
    gv := fun n hn => ⟨hn, rfl⟩ }
  refine wp_mono (h O (fun b => b = blk) w (fun _ => some blk) _ _ _ hs0) ?_
  rintro e a' w' ⟨st', env', ⟨he, vs, hvs, hpk, hlt, hren, hq1, hltq, hrenq⟩, hs'⟩
  obtain ⟨x, hx, hxr⟩ := results_sound hs' hvs
  have he0 : env' 0 = some blk := (hs'.gv 0 (Nat.lt_succ_self 0)).2
  have hF : ∀ b, O b ∨ b = blk → Fd ⟨fn.ntmps, O, fun b => b = blk, w, 1, fun _ => some blk⟩ env' (lkp st'.hp) b := by
    rintro b (ho | rfl)
    · exact .inl ho
    · exact .inr ⟨0, by rw [hq1]; rfl, he0⟩
  have hback : ∀ {x : Value} {v : V}, v.lt 1 = true → Rep (Fd ⟨fn.ntmps, O, fun b => b = blk, w, 1, fun _ => some blk⟩ env' (lkp st'.hp)) w' env' (· < st'.nx) x (v.ren fun _ => 0) → Rep (fun b => O b ∨ b = blk) w' (fun _ => some blk) (· < 1) x v := by
    intro x v hv hx
    have h1 := (hx.unren rfl hv).sub hF
    rw [he0] at h1
    exact h1
  have hfin : a'.defers = [] ∧ ∃ v, (results fn a'.tmps).run P w' = .ok v w' ∧ ∃ x, Ending.returned v = .returned x ∧ Step (fun b => b = blk) w w' ∧ RowAt (fun b => O b ∨ b = blk) w' (fun _ => some blk) (· < 1) 0 q1 ∧
      Rep (fun b => O b ∨ b = blk) w' (fun _ => some blk) (· < 1) x r := by
    refine ⟨hs'.df, x, hx, x, rfl, hs'.st, ?_, ?_⟩
    · rcases (hs'.row 0 q1 hq1).2 with ⟨b', c', h1, h2, h3, h4⟩ | ⟨h1, h2⟩
      · rw [he0] at h1
        cases h1
        refine .inl ⟨blk, c', rfl, h2, h3, fun k hk => hback (ltL_getD hltq k) ?_⟩
        rw [← renL_getD, hrenq]
        exact h4 k hk
      · rw [he0] at h1
        cases h1
    · refine hback hlt ?_
      rw [hren, ← hpk]
      exact hxr
  rcases he with rfl | rfl <;> exact hfin

/-- A row has been written elsewhere. -/
theorem Sim.given {C : Ctx} {env : Env} {fr : Nat → Option V} {hp : Nat → Option Row} {D : Nat → Prop} {a : Act} {w w' : World} (h : Sim C env fr hp D a w) {n blk : Nat} {r r' : Row} (hr : hp n = some r) (he : env n = some blk)
    (hs : Step (fun b => b = blk) w w') (hrow : RowAt (Fd C env (upd hp n (some r'))) w' env D n r') : Sim C env fr (upd hp n (some r')) D a w' := by
  have hsome : (hp n).isSome = true := by simp [hr]
  have hFblk : Fd C env hp blk := .inr ⟨n, hsome, he⟩
  have hiff : ∀ m, ((upd hp n (some r')) m).isSome = true ↔ (hp m).isSome = true := by
    intro m
    by_cases e : m = n
    · subst e; simp [hr]
    · rw [upd_ne _ _ e]
  have hFd : ∀ b, Fd C env (upd hp n (some r')) b ↔ Fd C env hp b := by
    intro b
    unfold Fd
    simp only [hiff]
  have keep : ∀ b, b < w.heap.size → ¬ Fd C env hp b → ¬ Fd C env (upd hp n (some r')) b ∧ w'.heap[b]? = w.heap[b]? := by
    intro b hb hF
    exact ⟨fun h => hF ((hFd b).1 h), hs.keep b hb (fun e => hF (e ▸ hFblk))⟩
  have lift : ∀ {x : Value} {v : V}, Rep (Fd C env hp) w env D x v → Rep (Fd C env (upd hp n (some r'))) w' env D x v :=
    fun hx => hx.mono keep hs.shape hs.size (fun _ hD => ⟨hD, rfl⟩)
  exact {
    sz := h.sz
    df := h.df
    tm := fun t v ht => ⟨(h.tm t v ht).1, lift (h.tm t v ht).2⟩
    row := by
      intro m r1 hr1
      by_cases e : m = n
      · subst e
        rw [upd_same] at hr1
        cases hr1
        exact ⟨(h.row m r hr).1, hrow⟩
      · rw [upd_ne _ _ e] at hr1
        refine ⟨(h.row m r1 hr1).1, ?_⟩
        rcases (h.row m r1 hr1).2 with ⟨blk1, c1, he1, hw1, hl1, hc1⟩ | hv
        · have hne : blk1 ≠ blk := by
            intro eb
            subst eb
            exact e (h.inj m n blk1 (by simp [hr1]) hsome he1 he)
          exact .inl ⟨blk1, c1, he1, (hs.keep blk1 (lt_of_heap hw1) hne).trans hw1, hl1, fun k hk => lift (hc1 k hk)⟩
        · exact .inr hv
    old := fun m b hm he' => h.old m b ((hiff m).1 hm) he'
    inj := fun m m' b hm hm' e1 e2 => h.inj m m' b ((hiff m).1 hm) ((hiff m').1 hm') e1 e2
    st := by
      refine h.st.trans hs ?_
      rintro b hb' rfl
      rcases (h.old n b hsome he).2 with hlt | hM
      · exact absurd hb' (Nat.not_lt.2 hlt)
      · exact hM
    ob := h.ob
    gv := h.gv }

/-- Such a call, seen from the caller. -/
theorem hcall_sound {P : Program} {C : Ctx} {env : Env} {st : St} {a : Act} {w : World} (hs : SimS C env st a w) {o : Oper} {c : Call} {g : Operand} (ho : o.op = .call c) (hcal : c.callee = .value g) {f : FuncId} {args0 : List V} {n : Nat} {q0 q1 : Row} {r : V}
    (hv : valsOf st.fr o.op.operands.toList = some (.fn f [] :: V.renL (fun _ => n) args0)) (hlt : V.ltL 1 args0 = true) (hq : lkp st.hp n = some (q0.ren fun _ => n)) (hltq : V.ltL 1 q0.cells = true) (hne : q0.cells ≠ []) (hc : HCall P f args0 q0 q1 r)
    {K : Act → World → Prop} {Q : Exit → Act → World → Prop}
    (hk : ∀ x w', Sim C env (lkp st.fr) (lkp (setL st.hp n (q1.ren fun _ => n))) (· < st.nx) a w' → Rep (Fd C env (lkp (setL st.hp n (q1.ren fun _ => n)))) w' env (· < st.nx) x (r.ren fun _ => n) → K (a.put o.dst x) w') : o.wp P a w K Q := by
  obtain ⟨hl, hr⟩ := valsOf_sound hs hv
  rw [ho] at hl hr
  have hops : (Op.call c).operands.toList = g :: c.args.toList := by simp [Op.operands, Call.operands, hcal]
  rw [hops] at hl hr
  have hg0 : Rep _ w env _ (a.eval g) (.fn f []) := hr 0 (by simp)
  obtain ⟨hcf, hcalls⟩ := hc
  generalize hgv : a.eval g = gv at hg0
  cases hg0 with
  | fn hsz hcr =>
    rename_i xcaps
    have hx0 : xcaps = #[] := Array.eq_empty_of_size_eq_zero hsz
    subst hx0
    have hrun : (execOp a.eval o).run P w = .ok (.enter f (c.args.map a.eval)) w := by
      unfold execOp
      rw [ho]
      simp only [Sem.run_bind]
      have h1 : (resolve a.eval c o.type).run P w = .ok { target := .fn (.func f) #[], args := c.args.map a.eval } w := by
        unfold resolve
        simp only [hcal, hgv, Deferred.ofValue, Array.empty_append]
        rfl
      rw [h1]
      simp only [Result.andThen_ok, invoke, Array.append_empty]
      exact hcf _ _
    unfold Oper.wp
    rw [hrun, Oper.upon_enter]
    have hlen : args0.length = c.args.size := by simpa [renL_length] using hl
    obtain ⟨hDn, hrow⟩ := hs.row n _ hq
    rcases hrow with ⟨blk, c0, he, hw, hcl, hcc⟩ | ⟨_, hv0⟩
    · have hsome : (lkp st.hp n).isSome = true := by rw [hq]; rfl
      have hnO : ¬ Fd C env (lkp (dlt st.hp n)) blk := by
        rw [lkp_dlt]
        rintro (ho' | ⟨m, hm, he'⟩)
        · exact (hs.old n blk hsome he).1 ho'
        · by_cases e : m = n
          · subst e; simp at hm
          · rw [upd_ne _ _ e] at hm
            exact e (hs.inj m n blk hm hsome he' he)
      have hF1 : ∀ b, (Fd C env (lkp (dlt st.hp n)) b ∨ b = blk) → Fd C env (lkp st.hp) b := by
        rintro b (h1 | rfl)
        · rw [lkp_dlt] at h1
          exact h1.drop
        · exact .inr ⟨n, hsome, he⟩
      have hin : ∀ {x : Value} {v : V}, v.lt 1 = true → Rep (Fd C env (lkp st.hp)) w env (· < st.nx) x (v.ren fun _ => n) → Rep (fun b => Fd C env (lkp (dlt st.hp n)) b ∨ b = blk) w (fun _ => some blk) (· < 1) x v := by
        intro x v hv hx
        have h1 := (hx.unren rfl hv).sub hF1
        rw [he] at h1
        exact h1
      refine (hcalls (Fd C env (lkp (dlt st.hp n))) w blk (c.args.map a.eval) (fun b hb => hs.fd_lt (hF1 b (.inl hb))) hnO ?_ (by simp [hlen]) ?_).mono ?_
      · simp only [Row.ren, renL_length] at hcl hcc
        refine .inl ⟨blk, c0, rfl, hw, hcl, fun k hk => hin (ltL_getD hltq k) ?_⟩
        rw [← renL_getD]
        exact hcc k hk
      · intro k hk
        refine hin (ltL_getD hlt k) ?_
        have h1 := hr (k + 1) (by simp [renL_length]; omega)
        simp only [List.getD_cons_succ, renL_getD] at h1
        have e1 : (c.args.map a.eval).getD k undef = a.eval (c.args.toList.getD k (.const undef)) := by
          rw [Array.getD_eq_getD_getElem?]
          simp [List.getD_eq_getElem?_getD, show k < c.args.size by omega]
        rw [e1]
        exact h1
      rintro e w' ⟨x, rfl, hstep, hrow1, hres⟩
      show K (a.put o.dst x) w'
      have hF2 : ∀ b, Fd C env (upd (lkp st.hp) n (some (q1.ren fun _ => n))) b → (Fd C env (lkp (dlt st.hp n)) b ∨ b = blk) := by
        rintro b (h1 | ⟨m, hm, he'⟩)
        · exact .inl (.inl h1)
        · by_cases e : m = n
          · subst e
            rw [he] at he'
            cases he'
            exact .inr rfl
          · rw [upd_ne _ _ e] at hm
            exact .inl (.inr ⟨m, by rw [lkp_dlt, upd_ne _ _ e]; exact hm, he'⟩)
      have hout : ∀ {x : Value} {v : V}, Rep (fun b => Fd C env (lkp (dlt st.hp n)) b ∨ b = blk) w' (fun _ => some blk) (· < 1) x v → Rep (Fd C env (upd (lkp st.hp) n (some (q1.ren fun _ => n)))) w' env (· < st.nx) x (v.ren fun _ => n) :=
        fun hx => (hx.sub hF2).ren (fun _ => n) (fun j hj => ⟨hDn, he⟩)
      refine hk x w' ?_ ?_
      · rw [lkp_set]
        refine hs.given hq he hstep ?_
        rcases hrow1 with ⟨b', c', h1, h2, h3, h4⟩ | ⟨h1, h2⟩
        · cases h1
          refine .inl ⟨blk, c', he, h2, by simp only [Row.ren, renL_length]; exact h3, fun k hk => ?_⟩
          simp only [Row.ren, renL_length] at hk
          show Rep _ _ _ _ _ ((V.renL (fun _ => n) q1.cells).getD k .junk)
          rw [renL_getD]
          exact hout (h4 k hk)
        · cases h1
      · rw [lkp_set]
        exact hout hres
    · exact absurd (List.eq_nil_of_length_eq_zero (by have := congrArg List.length hv0; simpa [Row.ren, renL_length] using this)) hne

end Go.Proofs.Ytlhobedecoeohaa.Lift
