/- Abstract states, regions in the order of their text, and code over them. -/
import Derived.Test.YtlhobedecoeohaaLift7
set_option linter.unusedVariables false
set_option linter.unusedSimpArgs false
namespace Go.Proofs.Ytlhobedecoeohaa.Lift
open Go

structure St where
  fr : List (Nat × V)
  hp : List (Nat × Row)
  nx : Nat

abbrev SimS (C : Ctx) (env : Env) (st : St) (a : Act) (w : World) : Prop := Sim C env (lkp st.fr) (lkp st.hp) (· < st.nx) a w
abbrev Specs := FuncId → List V → Option (V × List Row)

def valOf (fr : List (Nat × V)) : Operand → Option V
  | .tmp t => lkp fr t
  | .const v => some (ofConst v)
  | .func f => some (.fn f [])
  | .global _ => none
def valsOf (fr : List (Nat × V)) : List Operand → Option (List V)
  | [] => some []
  | x :: xs => match valOf fr x with
    | some v => match valsOf fr xs with
      | some vs => some (v :: vs)
      | none => none
    | none => none

theorem valOf_sound {C : Ctx} {env : Env} {st : St} {a : Act} {w : World} (hs : SimS C env st a w) {x : Operand} {v : V} (h : valOf st.fr x = some v) : Rep (Fd C env (lkp st.hp)) w env (· < st.nx) (a.eval x) v := by
  cases x with
  | tmp t => exact (hs.tm t v h).2
  | const c => simp only [valOf, Option.some.injEq] at h; subst h; exact rep_ofConst c
  | func f => simp only [valOf, Option.some.injEq] at h; subst h; exact .fn rfl (fun k hk => by simp at hk)
  | global g => simp [valOf] at h

theorem valsOf_sound {C : Ctx} {env : Env} {st : St} {a : Act} {w : World} (hs : SimS C env st a w) : ∀ {xs : List Operand} {vs : List V}, valsOf st.fr xs = some vs → vs.length = xs.length ∧ ∀ j, j < vs.length → Rep (Fd C env (lkp st.hp)) w env (· < st.nx) (a.eval (xs.getD j (.const undef))) (vs.getD j .junk) := by
  intro xs
  induction xs with
  | nil => intro vs h; simp [valsOf] at h; subst h; exact ⟨rfl, fun j hj => by simp at hj⟩
  | cons x xs ih =>
    intro vs h
    simp only [valsOf] at h
    split at h
    · rename_i v hv
      split at h
      · rename_i vs' hvs
        cases h
        obtain ⟨h1, h2⟩ := ih hvs
        refine ⟨by simp [h1], fun j hj => ?_⟩
        cases j with
        | zero => exact valOf_sound hs hv
        | succ j => exact h2 j (by simpa using hj)
      · cases h
    · cases h

def Eff.runL (n : Nat) (hp : List (Nat × Row)) : Eff → Option (V × List (Nat × Row) × Bool)
  | .val v => some (v, hp, false)
  | .rd h k => match lkp hp h with
    | some r => match k r with
      | some v => some (v, hp, false)
      | none => none
    | none => none
  | .new r mk => some (mk n, (n, r) :: hp, true)
  | .wr h k => match lkp hp h with
    | some r => match k r with
      | some (r', v) => some (v, setL hp h r', false)
      | none => none
    | none => none
  | .wr2 h h2 k => match lkp hp h, lkp hp h2 with
    | some r, some r2 => match k r r2 with
      | some (r', v) => some (v, setL hp h r', false)
      | none => none
    | _, _ => none
  | .grow h k mk => match lkp hp h with
    | some r => match k r with
      | some r' => some (mk n, (n, r') :: dlt hp h, true)
      | none => none
    | none => none
  | .grow2 h h2 k mk => match lkp hp h, lkp hp h2 with
    | some r, some r2 => match k r r2 with
      | some r' => some (mk n, (n, r') :: dlt hp h, true)
      | none => none
    | _, _ => none
  | .new2 h2 k mk => match lkp hp h2 with
    | some r2 => match k r2 with
      | some r' => some (mk n, (n, r') :: hp, true)
      | none => none
    | none => none

theorem runL_run {e : Eff} {n : Nat} {hp hp' : List (Nat × Row)} {v : V} {u : Bool} (h : e.runL n hp = some (v, hp', u)) : e.run n (lkp hp) = some (v, lkp hp', u) := by
  cases e <;> simp only [Eff.runL] at h <;> simp only [Eff.run]
  case val => cases h; rfl
  case rd => split at h <;> (try cases h; done) ; split at h <;> (try cases h; done) ; cases h; simp [*]
  case new => cases h; rw [lkp_cons]
  case wr => split at h <;> (try cases h; done) ; split at h <;> (try cases h; done) ; cases h; simp [*, lkp_set]
  case wr2 => split at h <;> (try cases h; done) ; split at h <;> (try cases h; done) ; cases h; simp [*, lkp_set]
  case grow => split at h <;> (try cases h; done) ; split at h <;> (try cases h; done) ; cases h; simp [*, lkp_cons, lkp_dlt]
  case grow2 => split at h <;> (try cases h; done) ; split at h <;> (try cases h; done) ; cases h; simp [*, lkp_cons, lkp_dlt]
  case new2 => split at h <;> (try cases h; done) ; split at h <;> (try cases h; done) ; cases h; simp [*, lkp_cons]

def plain1 : V → Bool
  | .b _ | .i _ _ | .s _ => true
  | _ => false
def plainV : V → Bool
  | .tup l => l.all plain1
  | v => plain1 v

theorem plain1_rep {F F' : Nat → Prop} {w w' : World} {env env' : Env} {D D' : Nat → Prop} {x : Value} {v : V} (h : Rep F w env D x v) (hp : plain1 v = true) : Rep F' w' env' D' x v := by
  cases h <;> first
    | (simp [plain1] at hp; done)
    | exact .b
    | (rename_i h; exact .i h)
    | (rename_i h; exact .s h)
theorem plain_rep {F F' : Nat → Prop} {w w' : World} {env env' : Env} {D D' : Nat → Prop} {x : Value} {v : V} (h : Rep F w env D x v) (hp : plainV v = true) : Rep F' w' env' D' x v := by
  cases v <;> simp only [plainV] at hp <;> first
    | exact plain1_rep h hp
    | (rename_i l
       obtain ⟨xs, rfl, hsz, hr⟩ := h.tup_inv
       refine .tup hsz fun k hk => plain1_rep (hr k hk) ?_
       rw [List.all_eq_true] at hp
       exact hp _ (getD_mem hk))

def namedRows (base : Nat) : Nat → List Row → List (Nat × Row)
  | _, [] => []
  | n, q :: qs => (n, q.ren (base + ·)) :: namedRows base (n + 1) qs

theorem look_named (base : Nat) (hp : List (Nat × Row)) : ∀ (rows : List Row) (n m : Nat), lkp (namedRows base n rows ++ hp) m = if n ≤ m ∧ m < n + rows.length then (rows[m - n]?).map (Row.ren (base + ·)) else lkp hp m := by
  intro rows
  induction rows with
  | nil => intro n m; rw [if_neg (by simp)]; rfl
  | cons q rows ih =>
    intro n m
    simp only [namedRows, List.cons_append, lkp]
    by_cases e : m = n
    · subst e
      rw [if_pos rfl, if_pos (by simp)]
      simp
    · rw [if_neg e, ih]
      by_cases h : n + 1 ≤ m ∧ m < n + 1 + rows.length
      · rw [if_pos h, if_pos (by simp; omega)]
        obtain ⟨j, rfl⟩ : ∃ j, m = n + 1 + j := ⟨m - (n + 1), by omega⟩
        rw [show n + 1 + j - (n + 1) = j by omega, show n + 1 + j - n = j + 1 by omega]
        rfl
      · rw [if_neg h, if_neg (by simp; omega)]

/-- A call of a function by its contract: what is the caller's own and is handed over is given away for good, but where the result is a plain value. -/
def callStep (G : Specs) (vs : List V) (hp : List (Nat × Row)) (nx : Nat) : Option (V × List (Nat × Row) × Nat) :=
  match vs with
  | .fn f caps :: args => match frzL [] (args ++ caps) hp with
    | some (args', hp1) => if V.hfL args' = true then match G f args' with
      | some (r, rows) => if plainV r = true ∧ rows = [] then some (r, hp, nx) else some (r.ren (nx + ·), namedRows nx nx rows ++ hp1, nx + rows.length)
      | none => none else none
    | none => none
  | _ => none

theorem execOp_eq (ρ : Operand → Value) (o : Oper) : execOp ρ o = execOp ρ ⟨none, o.op, o.type, "", #[], none⟩ := by
  obtain ⟨dst, op, ty, pos, after, guard⟩ := o
  cases op <;> rfl

theorem wp_of_value {P : Program} {o : Oper} {a : Act} {w w' : World} {x : Value} {K : Act → World → Prop} {Q : Exit → Act → World → Prop} {nx : Next} (h : (execOp a.eval ⟨none, o.op, o.type, "", #[], none⟩).run P w = .ok nx w') (hn : nx = .value x ∨ (nx = .skip ∧ x = undef)) (hk : K (a.put o.dst x) w') : o.wp P a w K Q := by
  unfold Oper.wp
  rw [execOp_eq, h]
  rcases hn with rfl | ⟨rfl, rfl⟩ <;> exact hk

theorem call_sound {P : Program} {G : Specs} (hG : ∀ f args r rows, G f args = some (r, rows) → PCall P f args r rows) {C : Ctx} {env : Env} {st : St} {a : Act} {w : World} (hs : SimS C env st a w) {o : Oper} {c : Call} {g : Operand} (ho : o.op = .call c) (hcal : c.callee = .value g)
    {vs : List V} (hv : valsOf st.fr o.op.operands.toList = some vs) {v : V} {hp' : List (Nat × Row)} {nx' : Nat} (hc : callStep G vs st.hp st.nx = some (v, hp', nx')) {K : Act → World → Prop} {Q : Exit → Act → World → Prop}
    (hk : ∀ env' x w', Sim C env' (lkp st.fr) (lkp hp') (· < nx') a w' → Rep (Fd C env' (lkp hp')) w' env' (· < nx') x v → K (a.put o.dst x) w') : o.wp P a w K Q := by
  obtain ⟨hl, hr⟩ := valsOf_sound hs hv
  rw [ho] at hl hr
  unfold callStep at hc
  split at hc
  · rename_i f caps args
    split at hc
    · rename_i args' hp1 hfr
      split at hc
      · rename_i hhf
        split at hc
        · rename_i r rows hg
          obtain ⟨hcf, hcalls⟩ := hG f args' r rows hg
          have hops : (Op.call c).operands.toList = g :: c.args.toList := by simp [Op.operands, Call.operands, hcal]
          rw [hops] at hl hr
          have hg0 : Rep _ w env _ (a.eval g) (.fn f caps) := hr 0 (by simp)
          generalize hgv : a.eval g = gv at hg0
          cases hg0 with
          | fn hsz hcr =>
            rename_i xcaps
            have hrun : (execOp a.eval o).run P w = .ok (.enter f (c.args.map a.eval ++ xcaps)) w := by
              unfold execOp
              rw [ho]
              simp only [Sem.run_bind]
              have h1 : (resolve a.eval c o.type).run P w = .ok { target := .fn (.func f) xcaps, args := c.args.map a.eval } w := by
                unfold resolve
                simp only [hcal, hgv, Deferred.ofValue, Array.empty_append]
                rfl
              rw [h1]
              simp only [Result.andThen_ok, invoke]
              exact hcf _ _
            unfold Oper.wp
            rw [hrun, Oper.upon_enter]
            have hlen : args.length = c.args.size := by simpa using hl
            have hsz2 : (c.args.map a.eval ++ xcaps).size = (args ++ caps).length := by simp [hlen, hsz]
            have hrep : ∀ k, k < (args ++ caps).length → Rep (Fd C env (lkp st.hp)) w env (· < st.nx) ((c.args.map a.eval ++ xcaps).getD k undef) ((args ++ caps).getD k .junk) := by
              intro k hk
              by_cases hka : k < args.length
              · have h1 := hr (k + 1) (by simp; omega)
                simp only [List.getD_cons_succ] at h1
                have e1 : (c.args.map a.eval ++ xcaps).getD k undef = a.eval (c.args.toList.getD k (.const undef)) := by
                  rw [Array.getD_eq_getD_getElem?, Array.getElem?_append_left (by simp; omega)]
                  simp [List.getD_eq_getElem?_getD, show k < c.args.size by omega]
                have e2 : (args ++ caps).getD k .junk = args.getD k .junk := by
                  rw [List.getD_eq_getElem?_getD, List.getElem?_append_left hka, ← List.getD_eq_getElem?_getD]
                rw [e1, e2]
                exact h1
              · have e1 : (c.args.map a.eval ++ xcaps).getD k undef = xcaps.getD (k - args.length) undef := by
                  rw [Array.getD_eq_getD_getElem?, Array.getElem?_append_right (by simp; omega), Array.getD_eq_getD_getElem?]
                  simp [hlen]
                have e2 : (args ++ caps).getD k .junk = caps.getD (k - args.length) .junk := by
                  rw [List.getD_eq_getElem?_getD, List.getElem?_append_right (by omega), ← List.getD_eq_getElem?_getD]
                rw [e1, e2]
                exact hcr _ (by simp at hk; omega)
            obtain ⟨s1, f1, l1, r1⟩ := frzL_sound [] (args ++ caps) st.hp hfr hs
            have r2 := r1 (c.args.map a.eval ++ xcaps) hsz2 hrep
            refine (hcalls (Fd C env (lkp hp1)) w (c.args.map a.eval ++ xcaps) (fun b hb => s1.fd_lt hb) (by rw [l1]; exact hsz2) (fun k hk => (r2 k hk).hf (hfL_getD hhf k))).mono ?_
            rintro e w' ⟨x, rfl, hcame⟩
            show K (a.put o.dst x) w'
            split at hc
            · rename_i hplain
              obtain ⟨hp1', hrows⟩ := hplain
              cases hc
              obtain ⟨hstep, e1, _, _, _, hrep1⟩ := hcame
              exact hk env x w' (hs.world hstep) (plain_rep hrep1 hp1')
            · cases hc
              obtain ⟨env', hs2, hr3⟩ := s1.join hcame (n := st.nx) (fun j hj => by simp)
              have e1 : (fun m => if st.nx ≤ m ∧ m < st.nx + rows.length then (rows[m - st.nx]?).map (Row.ren (st.nx + ·)) else lkp hp1 m) = lkp (namedRows st.nx st.nx rows ++ hp1) := by
                funext m
                rw [look_named]
              have e2 : (fun m => m < st.nx ∨ (st.nx ≤ m ∧ m < st.nx + rows.length)) = (· < st.nx + rows.length) := by
                funext m
                simp only [eq_iff_iff]
                omega
              rw [e1, e2] at hs2 hr3
              exact hk env' x w' hs2 hr3
        · cases hc
      · cases hc
    · cases hc
  · cases hc

/-! ### One operation of a region -/
def gslot (ops : Array Oper) (j : Nat) : Option Tmp := (ops[j]?).bind (·.dst)

/-- none: not told; some false: skipped. -/
def guardOf (ops : Array Oper) (N : Nat) (fr : List (Nat × V)) (o : Oper) : Option Bool :=
  match o.guard with
  | none => some true
  | some (j, want) => match gslot ops j with
    | some d => match lkp fr d with
      | some (.b x) => some (x == want)
      | some (.tup []) => some false
      | _ => none
    | none => none

def putSt (N : Nat) (dst : Option Tmp) (v : V) (fr : List (Nat × V)) (hp : List (Nat × Row)) (nx : Nat) : Option St :=
  match dst with
  | some d => if d < N then some ⟨(d, v) :: fr, hp, nx⟩ else none
  | none => some ⟨fr, hp, nx⟩

def isCall : Op → Bool
  | .call c => match c.callee with
    | .value _ => true
    | _ => false
  | _ => false

def stepOp (P : Program) (G : Specs) (N : Nat) (ops : Array Oper) (st : St) (o : Oper) : Option St :=
  match guardOf ops N st.fr o with
  | some true => match valsOf st.fr o.op.operands.toList with
    | some vs => if isCall o.op = true then
        match callStep G vs st.hp st.nx with
        | some (v, hp, nx) => putSt N o.dst v st.fr hp nx
        | none => none
      else match eff P o.op vs with
        | some e => match e.runL st.nx st.hp with
          | some (v, hp, u) => putSt N o.dst v st.fr hp (if u = true then st.nx + 1 else st.nx)
          | none => none
        | none => none
    | none => none
  | some false => putSt N o.dst (.tup []) st.fr st.hp st.nx
  | none => none

theorem putSt_sound {C : Ctx} {env : Env} {dst : Option Tmp} {v : V} {fr : List (Nat × V)} {hp : List (Nat × Row)} {nx : Nat} {st' : St} {a : Act} {w : World} {x : Value} (h : putSt C.N dst v fr hp nx = some st') (hs : Sim C env (lkp fr) (lkp hp) (· < nx) a w)
    (hr : Rep (Fd C env (lkp hp)) w env (· < nx) x v) : SimS C env st' (a.put dst x) w := by
  unfold putSt at h
  split at h
  · rename_i d
    split at h
    · rename_i hd
      cases h
      show Sim C env (lkp ((d, v) :: fr)) (lkp hp) (· < nx) (a.put (some d) x) w
      rw [lkp_cons]
      exact hs.put hd hr
    · cases h
  · cases h
    exact hs

theorem guard_sound {C : Ctx} {env : Env} {ops : Array Oper} {st : St} {a : Act} {w : World} (hs : SimS C env st a w) {o : Oper} {c : Bool} (h : guardOf ops C.N st.fr o = some c) : Region.wanted o (yielded ops a.tmps) = c := by
  unfold guardOf at h
  unfold Region.wanted
  split at h
  · rename_i hg
    cases h
    simp [hg]
  · rename_i j want hg
    split at h
    · rename_i d hd
      split at h
      · rename_i x hx
        cases h
        obtain ⟨hlt, hr⟩ := hs.tm d _ hx
        have hb := hr.b_inv
        have : a.tmps[d]? = some (.bool x) := by
          have h1 : d < a.tmps.size := by rw [hs.sz]; exact hlt
          rw [Array.getElem?_eq_getElem h1]
          rw [Array.getD_eq_getD_getElem?, Array.getElem?_eq_getElem h1] at hb
          exact congrArg some hb
        simp only [hg, yielded]
        unfold gslot at hd
        rw [hd]
        simp only [Option.bind_some, this]
        cases x <;> cases want <;> rfl
      · rename_i hx
        cases h
        obtain ⟨hlt, hr⟩ := hs.tm d _ hx
        have hb : a.tmps.getD d undef = .tuple #[] := by
          generalize a.tmps.getD d undef = X at hr
          cases hr with
          | tup hsz _ => rename_i xs; rw [Array.eq_empty_of_size_eq_zero hsz]
        have : a.tmps[d]? = some (.tuple #[]) := by
          have h1 : d < a.tmps.size := by rw [hs.sz]; exact hlt
          rw [Array.getElem?_eq_getElem h1]
          rw [Array.getD_eq_getD_getElem?, Array.getElem?_eq_getElem h1] at hb
          exact congrArg some hb
        simp only [hg, yielded]
        unfold gslot at hd
        rw [hd]
        simp only [Option.bind_some, this]
        cases want <;> rfl
      · cases h
    · cases h

theorem stepOp_sound {P : Program} {G : Specs} (hG : ∀ f args r rows, G f args = some (r, rows) → PCall P f args r rows) {C : Ctx} {env : Env} {ops : Array Oper} {st st' : St} {a : Act} {w : World} (hs : SimS C env st a w) {o : Oper} (h : stepOp P G C.N ops st o = some st') {i : Nat} (hi : ops[i]? = some o)
    {K : Act → World → Prop} {Q : Exit → Act → World → Prop} (hk : ∀ env' a' w', SimS C env' st' a' w' → K a' w') : wpOp P ops Q i K a w := by
  unfold wpOp
  simp only [hi]
  unfold stepOp at h
  split at h
  · rename_i hg
    have hw := guard_sound hs hg
    rw [if_pos hw]
    refine .inl ?_
    split at h
    · rename_i vs hvs
      split at h
      · rename_i hcall
        split at h
        · rename_i v hp nx hc
          cases hop : o.op with
          | call c =>
            rw [hop] at hcall
            simp only [isCall] at hcall
            split at hcall
            · rename_i g hcal
              exact call_sound hG hs hop hcal hvs hc fun env' x w' hs' hr => hk env' _ w' (putSt_sound h hs' hr)
            · cases hcall
          | _ => rw [hop] at hcall; simp [isCall] at hcall
        · cases h
      · split at h
        · rename_i e he
          split at h
          · rename_i v hp u hrun
            obtain ⟨hl, hr⟩ := valsOf_sound hs hvs
            obtain ⟨env', w', nx, x, h1, h2, h3, h4⟩ := good_eff (ty := o.type) he C env (lkp st.fr) (lkp st.hp) (· < st.nx) a w hs ⟨by simpa using hl, fun j hj => by
              have := hr j hj
              have e : o.op.operands.toList.getD j (.const undef) = o.op.operands.getD j (.const undef) := by
                simp [List.getD_eq_getElem?_getD, Array.getD_eq_getD_getElem?]
              rw [e] at this
              exact this⟩ st.nx (Nat.lt_irrefl _) v (lkp hp) u (runL_run hrun)
            have hD : DD (· < st.nx) st.nx u = (· < (if u = true then st.nx + 1 else st.nx)) := by
              funext m
              simp only [DD, eq_iff_iff]
              cases u
              · simp
              · simp; omega
            rw [hD] at h2 h3
            exact wp_of_value h1 h4 (hk env' _ w' (putSt_sound h h2 h3))
          · cases h
        · cases h
    · cases h
  · rename_i hg
    have hw := guard_sound hs hg
    rw [if_neg (by rw [hw]; simp)]
    exact hk env _ w (putSt_sound h hs (.tup (xs := #[]) rfl (fun k hk => absurd hk (Nat.not_lt_zero k))))
  · cases h

/-! ### Regions -/
def runL (P : Program) (G : Specs) (N : Nat) (ops : Array Oper) : List Oper → St → Option St
  | [], st => some st
  | o :: l, st => match stepOp P G N ops st o with
    | some st' => runL P G N ops l st'
    | none => none

theorem runL_sound {P : Program} {G : Specs} (hG : ∀ f args r rows, G f args = some (r, rows) → PCall P f args r rows) {C : Ctx} {ops : Array Oper} {Q : Exit → Act → World → Prop} : ∀ (l : List Oper) (i : Nat) (st st' : St), ops.toList.drop i = l → runL P G C.N ops l st = some st' → ∀ (env : Env) (a : Act) (w : World), SimS C env st a w →
    (∀ env' a' w', SimS C env' st' a' w' → Q .normal a' w') → wpOps P ops Q (List.range' i l.length) a w := by
  intro l
  induction l with
  | nil =>
    intro i st st' hd h env a w hs hk
    simp only [runL, Option.some.injEq] at h
    subst h
    exact hk env a w hs
  | cons o l ih =>
    intro i st st' hd h env a w hs hk
    simp only [runL] at h
    split at h
    · rename_i st1 h1
      have hi : ops[i]? = some o := by
        have : (ops.toList.drop i)[0]? = some o := by rw [hd]; rfl
        simpa using this
      have hd' : ops.toList.drop (i + 1) = l := by
        rw [← List.drop_drop, hd]
        rfl
      rw [List.length_cons, List.range'_succ, wpOps_cons]
      exact stepOp_sound hG hs h1 hi fun env' a' w' hs' => ih (i + 1) st1 st' hd' h env' a' w' hs' hk
    · cases h

/-! ### Code -/
def AX (P : Program) (C : Ctx) (c : Code) (st : St) (Q : Exit → St → Prop) : Prop :=
  ∀ (env : Env) (a : Act) (w : World), SimS C env st a w → c.wp P (fun e a' w' => ∃ st' env', Q e st' ∧ SimS C env' st' a' w') a w

section
variable {P : Program} {C : Ctx} {st : St} {Q : Exit → St → Prop}

theorem AX.mono {c : Code} {Q' : Exit → St → Prop} (h : AX P C c st Q') (hq : ∀ e st', Q' e st' → Q e st') : AX P C c st Q :=
  fun env a w hs => wp_mono (h env a w hs) fun _ _ _ ⟨st', env', h1, h2⟩ => ⟨st', env', hq _ _ h1, h2⟩

theorem AX.region {G : Specs} (hG : ∀ f args r rows, G f args = some (r, rows) → PCall P f args r rows) {id : Nat} {ops : Array Oper} {st' : St} (h : runL P G C.N ops ops.toList st = some st') (hq : Q .normal st') : AX P C (.region id ops false) st Q := by
  intro env a w hs
  refine wp_region ?_
  have := runL_sound hG (C := C) (Q := fun e a' w' => ∃ st' env', Q e st' ∧ SimS C env' st' a' w') ops.toList 0 st st' (by simp) h env a w hs (fun env' a' w' hs' => ⟨st', env', hq, hs'⟩)
  rwa [Array.length_toList, ← List.range_eq_range'] at this

def thenS (c : Code) (P : Program) (C : Ctx) (Q : Exit → St → Prop) : Exit → St → Prop
  | .normal, st => AX P C c st Q
  | e, st => Q e st

theorem AX.seq {x y : Code} (h : AX P C x st (thenS y P C Q)) : AX P C (.seq x y) st Q := by
  intro env a w hs
  refine wp_seq (wp_mono (h env a w hs) ?_)
  rintro e a' w' ⟨st', env', h1, h2⟩
  cases e with
  | normal => exact h1 env' a' w' h2
  | _ => exact ⟨st', env', h1, h2⟩

theorem AX.skip (h : Q .normal st) : AX P C .skip st Q := fun env a w hs => wp_skip ⟨st, env, h, hs⟩
theorem AX.exit {id : Nat} (h : Q (.exit id) st) : AX P C (.exit id) st Q := fun env a w hs => wp_exit ⟨st, env, h, hs⟩
theorem AX.ret (h : Q .ret st) : AX P C .ret st Q := fun env a w hs => wp_ret ⟨st, env, h, hs⟩

theorem AX.cond {c : Operand} {x y : Code} {b : Bool} (hc : valOf st.fr c = some (.b b)) (h : AX P C (if b = true then x else y) st Q) : AX P C (.cond c x y) st Q := by
  intro env a w hs
  have := (valOf_sound hs hc).b_inv
  exact wp_cond this (h env a w hs)

def blockS (id : Nat) (Q : Exit → St → Prop) : Exit → St → Prop
  | .exit id', st => if id' = id then Q .normal st else Q (.exit id') st
  | e, st => Q e st

theorem AX.block {id : Nat} {c : Code} (h : AX P C c st (blockS id Q)) : AX P C (.block id c) st Q := by
  intro env a w hs
  refine wp_block (wp_mono (h env a w hs) ?_)
  rintro e a' w' ⟨st', env', h1, h2⟩
  cases e with
  | exit id' =>
    simp only [blockS] at h1
    simp only [Exit.inBlock]
    split at h1
    · rename_i e
      rw [if_pos e]
      exact ⟨st', env', h1, h2⟩
    · rename_i e
      rw [if_neg e]
      exact ⟨st', env', h1, h2⟩
  | _ => exact ⟨st', env', h1, h2⟩

end

end Go.Proofs.Ytlhobedecoeohaa.Lift
