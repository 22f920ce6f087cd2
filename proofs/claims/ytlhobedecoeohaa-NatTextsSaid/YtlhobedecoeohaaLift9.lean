/- Less is known, loops, and contracts out of code. -/
import Derived.Test.YtlhobedecoeohaaLift8
import Derived.Deep.LoopGhost
set_option linter.unusedVariables false
set_option linter.unusedSimpArgs false
namespace Go.Proofs.Ytlhobedecoeohaa.Lift
open Go

mutual
/-- All its names are below n. -/
def V.lt (n : Nat) : V → Bool
  | .ptr h _ => h < n
  | .own h _ _ _ => h < n
  | .agg cs => V.ltL n cs
  | .tup cs => V.ltL n cs
  | .fn _ cs => V.ltL n cs
  | _ => true
def V.ltL (n : Nat) : List V → Bool
  | [] => true
  | v :: vs => V.lt n v && V.ltL n vs
end
theorem ltL_getD {n : Nat} {l : List V} (h : V.ltL n l = true) : ∀ k, (l.getD k .junk).lt n = true := by
  induction l with
  | nil => intro k; simp [V.lt]
  | cons v l ih =>
    rw [V.ltL, Bool.and_eq_true] at h
    intro k
    cases k with
    | zero => exact h.1
    | succ k => exact ih h.2 k

theorem Rep.unren {F : Nat → Prop} {w : World} {env : Env} {D : Nat → Prop} {x : Value} {u : V} (h : Rep F w env D x u) : ∀ {v : V} {f : Nat → Nat} {n : Nat}, u = v.ren f → v.lt n = true → Rep F w (fun m => env (f m)) (· < n) x v := by
  induction h with
  | junk => intro v f n hu hv; cases v <;> simp only [V.ren] at hu <;> first | (cases hu; done) | exact .junk
  | b => intro v f n hu hv; cases v <;> simp only [V.ren] at hu <;> first | (cases hu; done) | (cases hu; exact .b)
  | i hk => intro v f n hu hv; cases v <;> simp only [V.ren] at hu <;> first | (cases hu; done) | (cases hu; exact .i hk)
  | s hs => intro v f n hu hv; cases v <;> simp only [V.ren] at hu <;> first | (cases hu; done) | (cases hu; exact .s hs)
  | nl => intro v f n hu hv; cases v <;> simp only [V.ren] at hu <;> first | (cases hu; done) | (cases hu; exact .nl)
  | sl0 => intro v f n hu hv; cases v <;> simp only [V.ren] at hu <;> first | (cases hu; done) | (cases hu; exact .sl0)
  | sl y hne hc hl hF hb hE hy hr ih => intro v f n hu hv; cases v <;> simp only [V.ren] at hu <;> first | (cases hu; done) | (cases hu; exact .sl y hne hc hl hF hb hE hy hr)
  | agg hs hr ih =>
    intro v f n hu hv
    cases v <;> simp only [V.ren] at hu <;> try (cases hu; done)
    rename_i cs
    simp only [V.agg.injEq] at hu
    subst hu
    rw [V.lt] at hv
    rw [renL_length] at hs
    exact .agg hs fun k hk => ih k (by rw [renL_length]; exact hk) (renL_getD f cs k) (ltL_getD hv k)
  | tup hs hr ih =>
    intro v f n hu hv
    cases v <;> simp only [V.ren] at hu <;> try (cases hu; done)
    rename_i cs
    simp only [V.tup.injEq] at hu
    subst hu
    rw [V.lt] at hv
    rw [renL_length] at hs
    exact .tup hs fun k hk => ih k (by rw [renL_length]; exact hk) (renL_getD f cs k) (ltL_getD hv k)
  | ptr hD he =>
    intro v f n hu hv
    cases v <;> simp only [V.ren] at hu <;> try (cases hu; done)
    cases hu
    simp only [V.lt, decide_eq_true_eq] at hv
    exact .ptr hv he
  | rp y hF hb hy hr ih => intro v f n hu hv; cases v <;> simp only [V.ren] at hu <;> first | (cases hu; done) | (cases hu; exact .rp y hF hb hy hr)
  | own hD he hc hl hs =>
    intro v f n hu hv
    cases v <;> simp only [V.ren] at hu <;> try (cases hu; done)
    cases hu
    simp only [V.lt, decide_eq_true_eq] at hv
    exact .own hv he hc hl hs
  | own0 hD =>
    intro v f n hu hv
    cases v <;> simp only [V.ren] at hu <;> try (cases hu; done)
    cases hu
    simp only [V.lt, decide_eq_true_eq] at hv
    exact .own0 hv
  | fn hs hr ih =>
    intro v f n hu hv
    cases v <;> simp only [V.ren] at hu <;> try (cases hu; done)
    rename_i g cs
    simp only [V.fn.injEq] at hu
    obtain ⟨rfl, rfl⟩ := hu
    rw [V.lt] at hv
    rw [renL_length] at hs
    exact .fn hs fun k hk => ih k (by rw [renL_length]; exact hk) (renL_getD f cs k) (ltL_getD hv k)

def LeFr (f : Nat → Nat) (fr : List (Nat × V)) (n : Nat) : List (Nat × V) → Prop
  | [] => True
  | (t, v) :: r => lkp fr t = some (v.ren f) ∧ v.lt n = true ∧ LeFr f fr n r
def LeHp (f : Nat → Nat) (hp : List (Nat × Row)) (n : Nat) : List (Nat × Row) → Prop
  | [] => True
  | (h, q) :: r => h < n ∧ lkp hp (f h) = some (q.ren f) ∧ V.ltL n q.cells = true ∧ LeHp f hp n r
def Apart (f : Nat → Nat) (hp : List (Nat × Row)) : Prop := ∀ p ∈ hp, ∀ q ∈ hp, f p.1 = f q.1 → p.1 = q.1

/-- Less is known of a state: slots and rows are left out, names are given anew (f: what a new name was). -/
structure Le (g : Nat) (f : Nat → Nat) (st' st : St) : Prop where
  fr : LeFr f st.fr st'.nx st'.fr
  hp : LeHp f st.hp st'.nx st'.hp
  ap : Apart f st'.hp
  nx : g ≤ st'.nx
  id : ∀ n, n < g → f n = n

theorem LeFr.lkp {f : Nat → Nat} {fr : List (Nat × V)} {n : Nat} : ∀ {l : List (Nat × V)}, LeFr f fr n l → ∀ {t : Nat} {v : V}, lkp l t = some v → lkp fr t = some (v.ren f) ∧ v.lt n = true := by
  intro l
  induction l with
  | nil => intro _ t v h; simp [Lift.lkp] at h
  | cons p l ih =>
    obtain ⟨k, u⟩ := p
    intro hl t v h
    obtain ⟨h1, h2, h3⟩ := hl
    simp only [Lift.lkp] at h
    split at h
    · rename_i e
      cases h
      subst e
      exact ⟨h1, h2⟩
    · exact ih h3 h
theorem LeHp.lkp {f : Nat → Nat} {hp : List (Nat × Row)} {n : Nat} : ∀ {l : List (Nat × Row)}, LeHp f hp n l → ∀ {h : Nat} {q : Row}, lkp l h = some q → h < n ∧ lkp hp (f h) = some (q.ren f) ∧ V.ltL n q.cells = true := by
  intro l
  induction l with
  | nil => intro _ t v h; simp [Lift.lkp] at h
  | cons p l ih =>
    obtain ⟨k, u⟩ := p
    intro hl t v h
    obtain ⟨h1, h2, h3, h4⟩ := hl
    simp only [Lift.lkp] at h
    split at h
    · rename_i e
      cases h
      subst e
      exact ⟨h1, h2, h3⟩
    · exact ih h4 h
theorem look_mem {α : Type} : ∀ {l : List (Nat × α)} {n : Nat}, (lkp l n).isSome = true → ∃ p ∈ l, p.1 = n := by
  intro l
  induction l with
  | nil => intro n h; simp [lkp] at h
  | cons p l ih =>
    obtain ⟨k, u⟩ := p
    intro n h
    simp only [lkp] at h
    split at h
    · rename_i e
      exact ⟨(k, u), by simp, e.symm⟩
    · obtain ⟨p, hp, e⟩ := ih h
      exact ⟨p, by simp [hp], e⟩

theorem Le.sound {f : Nat → Nat} {st' st : St} {C : Ctx} (h : Le C.g f st' st) {env : Env} {a : Act} {w : World} (hs : SimS C env st a w) : SimS C (fun m => env (f m)) st' a w := by
  have hsome : ∀ m, (lkp st'.hp m).isSome = true → (lkp st.hp (f m)).isSome = true := by
    intro m hm
    obtain ⟨q, hq⟩ := Option.isSome_iff_exists.1 hm
    rw [(h.hp.lkp hq).2.1]
    rfl
  have hF : ∀ b, Fd C (fun m => env (f m)) (lkp st'.hp) b → Fd C env (lkp st.hp) b := by
    rintro b (ho | ⟨m, hm, he⟩)
    · exact .inl ho
    · exact .inr ⟨f m, hsome m hm, he⟩
  have lift : ∀ {x : Value} {v : V}, v.lt st'.nx = true → Rep (Fd C env (lkp st.hp)) w env (· < st.nx) x (v.ren f) → Rep (Fd C (fun m => env (f m)) (lkp st'.hp)) w (fun m => env (f m)) (· < st'.nx) x v :=
    fun hv hx => (hx.unren rfl hv).sub hF
  exact {
    sz := hs.sz
    df := hs.df
    tm := by
      intro t v ht
      obtain ⟨h1, h2⟩ := h.fr.lkp ht
      obtain ⟨h3, h4⟩ := hs.tm t _ h1
      exact ⟨h3, lift h2 h4⟩
    row := by
      intro m q hq
      obtain ⟨h1, h2, h3⟩ := h.hp.lkp hq
      refine ⟨h1, ?_⟩
      rcases (hs.row _ _ h2).2 with ⟨blk, c, he, hw, hl, hc⟩ | ⟨he, hv⟩
      · simp only [Row.ren, renL_length] at hl hc
        refine .inl ⟨blk, c, he, hw, hl, fun k hk => ?_⟩
        have := hc k hk
        rw [renL_getD] at this
        exact lift (ltL_getD h3 k) this
      · refine .inr ⟨he, ?_⟩
        have := congrArg List.length hv
        simp only [Row.ren, renL_length] at this
        exact List.eq_nil_of_length_eq_zero this
    old := fun m b hm he => hs.old (f m) b (hsome m hm) he
    inj := by
      intro m m' b hm hm' he he'
      have := hs.inj (f m) (f m') b (hsome m hm) (hsome m' hm') he he'
      obtain ⟨p, hp, rfl⟩ := look_mem hm
      obtain ⟨q, hq, rfl⟩ := look_mem hm'
      exact h.ap p hp q hq this
    st := hs.st
    ob := hs.ob
    gv := fun m hm => ⟨Nat.lt_of_lt_of_le hm h.nx, by show env (f m) = _; rw [h.id m hm]; exact (hs.gv m hm).2⟩ }

section
variable {P : Program} {C : Ctx} {st : St} {Q : Exit → St → Prop}

theorem AX.weaken (f : Nat → Nat) {c : Code} {st' : St} (hle : Le C.g f st' st) (h : AX P C c st' Q) : AX P C c st Q :=
  fun env a w hs => h _ a w (hle.sound hs)

def backS (g : Nat) (I : Nat → St → Prop) (n : Nat) (Q : Exit → St → Prop) : Exit → St → Prop
  | .normal, st => ∃ m st' f, m < n ∧ Le g f st' st ∧ I m st'
  | e, st => Q e st

theorem AX.loop {body : Code} (I : Nat → St → Prop) (n0 : Nat) (h0 : I n0 st) (step : ∀ n st, I n st → AX P C body st (backS C.g I n Q)) : AX P C (.loop body) st Q := by
  intro env a w hs
  refine wp_loop_ghost (fun n a w => ∃ st env, I n st ∧ SimS C env st a w) n0 ⟨st, env, h0, hs⟩ ?_
  rintro n a w ⟨st, env, hI, hs⟩
  refine wp_mono (step n st hI env a w hs) ?_
  rintro e a' w' ⟨st', env', h1, h2⟩
  cases e with
  | normal =>
    obtain ⟨m, st2, f, hm, hle, hI2⟩ := h1
    exact ⟨m, hm, st2, _, hI2, hle.sound h2⟩
  | _ => exact ⟨st', env', h1, h2⟩
end

/-! ### Contracts out of code -/
def argFr : Nat → List V → List (Nat × V)
  | _, [] => []
  | n, v :: vs => (n, v) :: argFr (n + 1) vs

theorem argFr_look : ∀ (vs : List V) (n t : Nat) (v : V), lkp (argFr n vs) t = some v → n ≤ t ∧ t < n + vs.length ∧ v = vs.getD (t - n) .junk := by
  intro vs
  induction vs with
  | nil => intro n t v h; simp [argFr, lkp] at h
  | cons u vs ih =>
    intro n t v h
    simp only [argFr, lkp] at h
    split at h
    · rename_i e
      subst e
      cases h
      exact ⟨Nat.le_refl _, by simp, by simp⟩
    · obtain ⟨h1, h2, h3⟩ := ih (n + 1) t v h
      refine ⟨by omega, by simp; omega, ?_⟩
      rw [h3, show t - n = (t - (n + 1)) + 1 by omega, List.getD_cons_succ]

/-- What the results' variables hold. -/
def resV (P : Program) (st : St) : ResultVar → Option V
  | .tmp t => lkp st.fr t
  | .cell a t => match lkp st.fr a with
    | some (.ptr h off) => match lkp st.hp h with
      | some r => match lay P t with
        | some L => readAt L r.cells off
        | none => none
      | none => none
    | _ => none
def resVs (P : Program) (st : St) : List ResultVar → Option (List V)
  | [] => some []
  | r :: rs => match resV P st r with
    | some v => match resVs P st rs with
      | some vs => some (v :: vs)
      | none => none
    | none => none
def packV : List V → V
  | [v] => v
  | vs => .tup vs

/-- The state at the end gives the result r, which may name the rows given (g: what their names are there). -/
def Done (P : Program) (rs : Array ResultVar) (r : V) (rows : List Row) (st : St) : Prop :=
  ∃ vs, resVs P st rs.toList = some vs ∧ ∃ (keep : List Nat) (g : Nat → Nat) (v : V) (hp : List (Nat × Row)), frz keep (packV vs) st.hp = some (v, hp) ∧ v = r.ren g ∧ r.lt rows.length = true ∧
    (∀ h q, rows[h]? = some q → lkp hp (g h) = some (q.ren g) ∧ V.ltL rows.length q.cells = true) ∧ (∀ h h', h < rows.length → h' < rows.length → g h = g h' → h = h')

def resSem (tmps : Array Value) : ResultVar → Sem Value
  | .tmp t => pure (tmps.getD t undef)
  | .cell a t => do loadVar t (← asAddr (tmps.getD a undef))
theorem results_eq (fn : Func) (tmps : Array Value) : results fn tmps = (fn.results.mapM (resSem tmps)) >>= fun vs => pure (if h : vs.size = 1 then vs[0] else .tuple vs) := by
  unfold results
  congr 1

theorem resV_sound {P : Program} {C : Ctx} {env : Env} {st : St} {a : Act} {w : World} (hs : SimS C env st a w) {rv : ResultVar} {v : V} (h : resV P st rv = some v) :
    ∃ x, (resSem a.tmps rv).run P w = .ok x w ∧ Rep (Fd C env (lkp st.hp)) w env (· < st.nx) x v := by
  cases rv with
  | tmp t => exact ⟨_, rfl, (hs.tm t v h).2⟩
  | cell a' t =>
    simp only [resV] at h
    split at h
    · rename_i n off hp
      split at h
      · rename_i r hr
        split at h
        · rename_i L hL
          obtain ⟨blk, e0, he, hD⟩ := (hs.tm a' _ hp).2.ptr_inv
          obtain ⟨c, hw, hl, hc⟩ := good_loadRow hs hr he
          obtain ⟨z, hz, hzr⟩ := good_readAt (P := P) hL (o := 0) (blk := blk) h (fun k hk => by rw [Nat.zero_add]; exact cell_row hw (by omega)) hc
          rw [Nat.zero_add] at hz
          refine ⟨z, ?_, hzr⟩
          simp only [resSem, e0]
          have h2 : (asAddr (.pointer (some ⟨blk, off, none⟩))).run P w = .ok ⟨blk, off, none⟩ w := rfl
          simp only [Sem.run_bind, h2, Result.andThen_ok]
          exact hz
        · cases h
      · cases h
    · cases h

theorem resVs_sound {P : Program} {C : Ctx} {env : Env} {st : St} {a : Act} {w : World} (hs : SimS C env st a w) : ∀ {rs : List ResultVar} {vs : List V}, resVs P st rs = some vs →
    ∃ xs : List Value, (rs.mapM (resSem a.tmps)).run P w = .ok xs w ∧ xs.length = vs.length ∧
      ∀ k, k < vs.length → Rep (Fd C env (lkp st.hp)) w env (· < st.nx) (xs.getD k undef) (vs.getD k .junk) := by
  intro rs
  induction rs with
  | nil => intro vs h; simp [resVs] at h; subst h; exact ⟨[], rfl, rfl, fun k hk => by simp at hk⟩
  | cons r rs ih =>
    intro vs h
    simp only [resVs] at h
    split at h
    · rename_i v hv
      split at h
      · rename_i vs' hvs
        cases h
        obtain ⟨x, hx, hxr⟩ := resV_sound hs hv
        obtain ⟨xs, h1, h2, h3⟩ := ih hvs
        refine ⟨x :: xs, ?_, by simp [h2], fun k hk => ?_⟩
        · simp only [List.mapM_cons, Sem.run_bind, hx, Result.andThen_ok, h1]
          rfl
        · cases k with
          | zero => exact hxr
          | succ k => exact h3 k (by simpa using hk)
      · cases h
    · cases h

theorem results_sound {P : Program} {C : Ctx} {env : Env} {st : St} {a : Act} {w : World} (hs : SimS C env st a w) {fn : Func} {vs : List V} (h : resVs P st fn.results.toList = some vs) :
    ∃ x, (results fn a.tmps).run P w = .ok x w ∧ Rep (Fd C env (lkp st.hp)) w env (· < st.nx) x (packV vs) := by
  obtain ⟨xs, h1, h2, h3⟩ := resVs_sound hs h
  have hrun : ∀ (X : Value), X = (if h : xs.toArray.size = 1 then xs.toArray[0] else .tuple xs.toArray) → (results fn a.tmps).run P w = .ok X w := by
    rintro X rfl
    rw [results_eq, Array.mapM_eq_mapM_toList, map_eq_pure_bind]
    simp only [Sem.run_bind, h1, Result.andThen_ok]
    rfl
  refine ⟨_, hrun _ rfl, ?_⟩
  match vs, h2, h3 with
  | [v], h2, h3 =>
    match xs, h2, h3 with
    | [x], h2, h3 => exact h3 0 (by simp)
  | [], h2, h3 =>
    match xs, h2, h3 with
    | [], h2, h3 => exact .tup rfl (fun k hk => by simp at hk)
  | v1 :: v2 :: vs, h2, h3 =>
    match xs, h2, h3 with
    | x1 :: x2 :: xs, h2, h3 =>
      have : (if h : (x1 :: x2 :: xs).toArray.size = 1 then (x1 :: x2 :: xs).toArray[0] else .tuple (x1 :: x2 :: xs).toArray) = Value.tuple (x1 :: x2 :: xs).toArray := by simp
      rw [this]
      refine .tup (by simpa using h2) fun k hk => ?_
      have e : (x1 :: x2 :: xs).toArray.getD k undef = (x1 :: x2 :: xs).getD k undef := by
        rw [Array.getD_eq_getD_getElem?, List.getElem?_toArray, List.getD_eq_getElem?_getD]
      rw [e]
      exact h3 k hk

/-- A contract out of the walk over the function's code. -/
theorem PCall.of_ax {P : Program} {f : FuncId} {fn : Func} {c : Code} {args : List V} {r : V} {rows : List Row} (hcf : ∀ xs w, (callFunc f xs).run P w = .ok (.enter f xs) w) (hf : P.funcs[f]? = some fn) (hb : fn.body = some c) (hN : args.length ≤ fn.ntmps)
    (h : ∀ (O : Nat → Prop) (w : World), AX P ⟨fn.ntmps, O, fun _ => False, w, 0, fun _ => none⟩ c ⟨argFr 0 args, [], 0⟩ (fun e st => (e = .ret ∨ e = .normal) ∧ Done P fn.results r rows st)) : PCall P f args r rows := by
  refine ⟨hcf, fun O w xs hO hsz hr => ?_⟩
  refine calls_of_wp hf hb ?_
  have hFd0 : ∀ b, Fd ⟨fn.ntmps, O, fun _ => False, w, 0, fun _ => none⟩ (fun _ => none) (lkp []) b → O b := by
    rintro b (ho | ⟨m, hm, _⟩)
    · exact ho
    · simp [lkp] at hm
  have hs0 : SimS ⟨fn.ntmps, O, fun _ => False, w, 0, fun _ => none⟩ (fun _ => none) ⟨argFr 0 args, [], 0⟩ { tmps := xs ++ Array.replicate (fn.ntmps - xs.size) undef, defers := [] } w := {
    sz := by simp; omega
    df := rfl
    tm := by
      intro t v ht
      obtain ⟨h1, h2, h3⟩ := argFr_look args 0 t v ht
      refine ⟨by show t < fn.ntmps; omega, ?_⟩
      subst h3
      have e : (xs ++ Array.replicate (fn.ntmps - xs.size) undef).getD t undef = xs.getD t undef := by
        rw [Array.getD_eq_getD_getElem?, Array.getElem?_append_left (by omega), Array.getD_eq_getD_getElem?]
      rw [e]
      exact ((hr t (by omega)).mono (fun b _ hF => ⟨fun h => hF (hFd0 b h), rfl⟩) (fun _ c _ _ h => ⟨c, rfl, h⟩) (Nat.le_refl _) (fun _ hD => hD.elim))
    row := fun m q hq => by simp [lkp] at hq
    old := fun m b hm => by simp [lkp] at hm
    inj := fun m m' b hm => by simp [lkp] at hm
    st := Step.refl _ _
    ob := fun b hb => ⟨hO b hb, fun f => f⟩
    gv := fun n hn => absurd hn (Nat.not_lt_zero n) }
  refine wp_mono (h O w _ _ _ hs0) ?_
  rintro e a' w' ⟨st', env', ⟨he, vs, hvs, keep, g, v, hp, hfz, rfl, hlt, hrows, hginj⟩, hs'⟩
  obtain ⟨x, hx, hxr⟩ := results_sound hs' hvs
  obtain ⟨s2, f2, r2⟩ := frz_sound keep (packV vs) st'.hp hfz hs'
  have hfin : a'.defers = [] ∧ ∃ v, (results fn a'.tmps).run P w' = .ok v w' ∧ ∃ x, Ending.returned v = .returned x ∧ Came O w w' x r rows := by
    refine ⟨hs'.df, x, hx, x, rfl, hs'.st, fun m => env' (g m), ?_⟩
    have hgl : ∀ m, m < rows.length → (lkp hp (g m)).isSome = true := by
      intro m hm
      obtain ⟨h1, _⟩ := hrows m _ (List.getElem?_eq_getElem hm)
      rw [h1]; rfl
    have hF : ∀ b, PFd O rows (fun m => env' (g m)) b → Fd ⟨fn.ntmps, O, fun _ => False, w, 0, fun _ => none⟩ env' (lkp hp) b := by
      rintro b (ho | ⟨m, hm, he⟩)
      · exact .inl ho
      · exact .inr ⟨g m, hgl m hm, he⟩
    refine ⟨?_, ?_, ?_, ?_⟩
    · intro m q hq
      obtain ⟨h1, h2⟩ := hrows m q hq
      rcases (s2.row _ _ h1).2 with ⟨blk, c, he, hw, hl, hc⟩ | ⟨he, hv⟩
      · simp only [Row.ren, renL_length] at hl hc
        refine .inl ⟨blk, c, he, hw, hl, fun k hk => ?_⟩
        have := hc k hk
        rw [renL_getD] at this
        exact (this.unren rfl (ltL_getD h2 k)).sub hF
      · refine .inr ⟨he, ?_⟩
        have := congrArg List.length hv
        simp only [Row.ren, renL_length] at this
        exact List.eq_nil_of_length_eq_zero this
    · intro m b hm he
      rcases (s2.old (g m) b (hgl m hm) he).2 with h3 | h3
      · exact h3
      · exact h3.elim
    · intro m m' b hm hm' he he'
      exact hginj m m' hm hm' (s2.inj (g m) (g m') b (hgl m hm) (hgl m' hm') he he')
    · exact ((r2 x hxr).unren rfl hlt).sub hF
  rcases he with rfl | rfl <;> exact hfin

end Go.Proofs.Ytlhobedecoeohaa.Lift
