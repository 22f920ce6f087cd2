/- The abstract values of the framework 'Lift', what a Go value has to do with one (Rep), and what a frame and a memory have to do with an abstract state (Sim). -/
import Derived.Calls
import Derived.Orders
set_option linter.unusedVariables false
set_option linter.unusedSimpArgs false
namespace Go.Proofs.Ytlhobedecoeohaa.Lift
open Go

/-- Abstract values. 'sl': a slice that nobody writes any more; 'own': a slice onto a row of the call's own; 'ptr': a pointer into such a row; 'rp': a pointer to cells that nobody writes. -/
inductive V where
  | junk
  | b (x : Bool)
  | i (k : IntKind) (n : Int)
  | s (x : ByteArray)
  | nl
  | sl (els : List V)
  | agg (cs : List V)
  | tup (vs : List V)
  | ptr (h off : Nat)
  | rp (cs : List V)
  | own (h off len E : Nat)
  | fn (f : Nat) (caps : List V)
instance : Inhabited V := ⟨.junk⟩

def V.cells : V → List V
  | .agg cs => cs
  | v => [v]

structure Row where
  T : TypeId
  cells : List V

abbrev Env := Nat → Option Nat

inductive Rep (F : Nat → Prop) (w : World) : Env → (Nat → Prop) → Value → V → Prop
  | junk {env D x} : Rep F w env D x .junk
  | b {env D x} : Rep F w env D (.bool x) (.b x)
  | i {env D k n} : k.min ≤ n ∧ n ≤ k.max → Rep F w env D (.int k n) (.i k n)
  | s {env D x} : x.size < 2 ^ 62 → Rep F w env D (.string x) (.s x)
  | nl {env D} : Rep F w env D (.slice none 0 0) .nl
  | sl0 {env D a cap} : Rep F w env D (.slice a 0 cap) (.sl [])
  | sl {env D blk off cap E els} (y : Nat → Value) : els ≠ [] → els.length ≤ cap → els.length < 2 ^ 62 → ¬ F blk → blk < w.heap.size →
      (∀ e ∈ els, e.cells.length = E) →
      (∀ k, k < els.length * E → w.cell? ⟨blk, off + k, none⟩ = some (y k)) →
      (∀ j k, j < els.length → k < E → Rep F w (fun _ => none) (fun _ => False) (y (j * E + k)) (((els.getD j .junk).cells).getD k .junk)) →
      Rep F w env D (.slice (some ⟨blk, off, none⟩) els.length cap) (.sl els)
  | agg {env D xs cs} : xs.size = cs.length → (∀ k, k < cs.length → Rep F w env D (xs.getD k undef) (cs.getD k .junk)) → Rep F w env D (.agg xs) (.agg cs)
  | tup {env D xs cs} : xs.size = cs.length → (∀ k, k < cs.length → Rep F w env D (xs.getD k undef) (cs.getD k .junk)) → Rep F w env D (.tuple xs) (.tup cs)
  | ptr {env D h off blk} : D h → env h = some blk → Rep F w env D (.pointer (some ⟨blk, off, none⟩)) (.ptr h off)
  | rp {env D blk off cs} (y : Nat → Value) : ¬ F blk → blk < w.heap.size →
      (∀ k, k < cs.length → w.cell? ⟨blk, off + k, none⟩ = some (y k)) →
      (∀ k, k < cs.length → Rep F w (fun _ => none) (fun _ => False) (y k) (cs.getD k .junk)) →
      Rep F w env D (.pointer (some ⟨blk, off, none⟩)) (.rp cs)
  | own {env D h off len cap E blk} : D h → env h = some blk → len ≤ cap → len < 2 ^ 62 →
      (∃ (c : Array Value) (T : TypeId) (z : Nat × Nat), w.heap[blk]? = some (.cells c T z) ∧ off + cap * E ≤ c.size) →
      Rep F w env D (.slice (some ⟨blk, off, none⟩) len cap) (.own h off len E)
  | own0 {env D h E} : D h → Rep F w env D (.slice none 0 0) (.own h 0 0 E)
  | fn {env D f caps cs} : caps.size = cs.length → (∀ k, k < cs.length → Rep F w env D (caps.getD k undef) (cs.getD k .junk)) → Rep F w env D (.func (.func f) #[] caps) (.fn f cs)

theorem cell_of_block {w w' : World} {blk off : Nat} (h : w'.heap[blk]? = w.heap[blk]?) : w'.cell? ⟨blk, off, none⟩ = w.cell? ⟨blk, off, none⟩ := by
  simp only [World.cell?, h]

theorem Rep.mono {F : Nat → Prop} {w : World} {env : Env} {D : Nat → Prop} {x : Value} {v : V} (h : Rep F w env D x v) :
    ∀ {F' : Nat → Prop} {w' : World} {env' : Env} {D' : Nat → Prop},
      (∀ b, b < w.heap.size → ¬ F b → ¬ F' b ∧ w'.heap[b]? = w.heap[b]?) →
      (∀ (b : Nat) (c : Array Value) (T : TypeId) (z : Nat × Nat), w.heap[b]? = some (.cells c T z) → ∃ c' : Array Value, c'.size = c.size ∧ w'.heap[b]? = some (.cells c' T z)) →
      w.heap.size ≤ w'.heap.size → (∀ h, D h → D' h ∧ env' h = env h) → Rep F' w' env' D' x v := by
  induction h with
  | junk => intros; exact .junk
  | b => intros; exact .b
  | i hk => intros; exact .i hk
  | s hs => intros; exact .s hs
  | nl => intros; exact .nl
  | sl0 => intros; exact .sl0
  | sl y hne hc hl hF hb hE hy hr ih =>
    intro F' w' env' D' keep shape size dom
    refine .sl y hne hc hl (keep _ hb hF).1 (Nat.lt_of_lt_of_le hb size) hE ?_ ?_
    · intro k hk
      rw [cell_of_block (keep _ hb hF).2]
      exact hy k hk
    · intro j k hj hk
      exact ih j k hj hk keep shape size (fun _ hf => hf.elim)
  | agg hs hr ih =>
    intro F' w' env' D' keep shape size dom
    exact .agg hs fun k hk => ih k hk keep shape size dom
  | tup hs hr ih =>
    intro F' w' env' D' keep shape size dom
    exact .tup hs fun k hk => ih k hk keep shape size dom
  | ptr hD he =>
    intro F' w' env' D' keep shape size dom
    exact .ptr (dom _ hD).1 ((dom _ hD).2.trans he)
  | rp y hF hb hy hr ih =>
    intro F' w' env' D' keep shape size dom
    refine .rp y (keep _ hb hF).1 (Nat.lt_of_lt_of_le hb size) ?_ ?_
    · intro k hk
      rw [cell_of_block (keep _ hb hF).2]
      exact hy k hk
    · intro k hk
      exact ih k hk keep shape size (fun _ hf => hf.elim)
  | own hD he hc hl hs =>
    intro F' w' env' D' keep shape size dom
    obtain ⟨c, T, z, h1, h2⟩ := hs
    obtain ⟨c', h3, h4⟩ := shape _ _ _ _ h1
    exact .own (dom _ hD).1 ((dom _ hD).2.trans he) hc hl ⟨c', T, z, h4, by rw [h3]; exact h2⟩
  | own0 hD =>
    intro F' w' env' D' keep shape size dom
    exact .own0 (dom _ hD).1
  | fn hs hr ih =>
    intro F' w' env' D' keep shape size dom
    exact .fn hs fun k hk => ih k hk keep shape size dom

/-- How a world may turn: blocks outside 'M' stay, every row keeps its size and type. -/
structure Step (M : Nat → Prop) (w w' : World) : Prop where
  size : w.heap.size ≤ w'.heap.size
  os : w'.os = w.os
  tape : w'.tape = w.tape
  output : w'.output = w.output
  keep : ∀ b, b < w.heap.size → ¬ M b → w'.heap[b]? = w.heap[b]?
  shape : ∀ (b : Nat) (c : Array Value) (T : TypeId) (z : Nat × Nat), w.heap[b]? = some (.cells c T z) → ∃ c' : Array Value, c'.size = c.size ∧ w'.heap[b]? = some (.cells c' T z)

theorem Step.refl (M : Nat → Prop) (w : World) : Step M w w := ⟨Nat.le_refl _, rfl, rfl, rfl, fun _ _ _ => rfl, fun _ c _ _ h => ⟨c, rfl, h⟩⟩

theorem lt_of_heap {w : World} {b : Nat} {o : Obj} (h : w.heap[b]? = some o) : b < w.heap.size := by
  obtain ⟨h, _⟩ := Array.getElem?_eq_some_iff.1 h
  exact h

/-- What is old and outside M1 stays, where the second step leaves alone what is outside M2. -/
theorem Step.trans {M1 M2 : Nat → Prop} {w w1 w2 : World} (h1 : Step M1 w w1) (h2 : Step M2 w1 w2) (hM : ∀ b, b < w.heap.size → M2 b → M1 b) : Step M1 w w2 where
  size := Nat.le_trans h1.size h2.size
  os := h2.os.trans h1.os
  tape := h2.tape.trans h1.tape
  output := h2.output.trans h1.output
  keep b hb hm := (h2.keep b (Nat.lt_of_lt_of_le hb h1.size) (fun h => hm (hM b hb h))).trans (h1.keep b hb hm)
  shape b c T z h := by
    obtain ⟨c1, e1, h1'⟩ := h1.shape b c T z h
    obtain ⟨c2, e2, h2'⟩ := h2.shape b c1 T z h1'
    exact ⟨c2, e2.trans e1, h2'⟩

structure Ctx where
  N : Nat
  O : Nat → Prop
  M : Nat → Prop
  w0 : World
  g : Nat
  G : Env

def Fd (C : Ctx) (env : Env) (hp : Nat → Option Row) (b : Nat) : Prop := C.O b ∨ ∃ h, (hp h).isSome = true ∧ env h = some b

/-- A row: its first cells are told. A row that holds nothing may have no block at all. -/
def RowAt (F : Nat → Prop) (w : World) (env : Env) (D : Nat → Prop) (h : Nat) (r : Row) : Prop :=
  (∃ (blk : Nat) (c : Array Value), env h = some blk ∧ w.heap[blk]? = some (.cells c r.T (0, 0)) ∧ r.cells.length ≤ c.size ∧ ∀ k, k < r.cells.length → Rep F w env D (c.getD k undef) (r.cells.getD k .junk)) ∨
  (env h = none ∧ r.cells = [])

structure Sim (C : Ctx) (env : Env) (fr : Nat → Option V) (hp : Nat → Option Row) (D : Nat → Prop) (a : Act) (w : World) : Prop where
  sz : a.tmps.size = C.N
  df : a.defers = []
  tm : ∀ t v, fr t = some v → t < C.N ∧ Rep (Fd C env hp) w env D (a.tmps.getD t undef) v
  row : ∀ h r, hp h = some r → D h ∧ RowAt (Fd C env hp) w env D h r
  old : ∀ h b, (hp h).isSome = true → env h = some b → ¬ C.O b ∧ (C.w0.heap.size ≤ b ∨ C.M b)
  inj : ∀ h h' b, (hp h).isSome = true → (hp h').isSome = true → env h = some b → env h' = some b → h = h'
  st : Step C.M C.w0 w
  ob : ∀ b, C.O b → b < C.w0.heap.size ∧ ¬ C.M b
  gv : ∀ n, n < C.g → D n ∧ env n = C.G n

def upd {α : Type} (f : Nat → Option α) (k : Nat) (x : Option α) : Nat → Option α := fun n => if n = k then x else f n
@[simp] theorem upd_same {α : Type} (f : Nat → Option α) (k : Nat) (x : Option α) : upd f k x k = x := by simp [upd]
theorem upd_ne {α : Type} (f : Nat → Option α) {k n : Nat} (x : Option α) (h : n ≠ k) : upd f k x n = f n := by simp [upd, h]

theorem Sim.fd_lt {C : Ctx} {env : Env} {fr : Nat → Option V} {hp : Nat → Option Row} {D : Nat → Prop} {a : Act} {w : World} (h : Sim C env fr hp D a w) {b : Nat} (hb : Fd C env hp b) : b < w.heap.size := by
  rcases hb with ho | ⟨n, hn, he⟩
  · exact Nat.lt_of_lt_of_le (h.ob b ho).1 h.st.size
  · obtain ⟨r, hr⟩ := Option.isSome_iff_exists.1 hn
    rcases (h.row n r hr).2 with ⟨blk, c, he', hw, _⟩ | ⟨he', _⟩
    · rw [he] at he'; cases he'; exact lt_of_heap hw
    · rw [he] at he'; cases he'

theorem getD_set_self {xs : Array Value} {d : Nat} {x : Value} (h : d < xs.size) : (xs.setIfInBounds d x).getD d undef = x := by
  simp [Array.getD, h]
theorem getD_set_ne' {xs : Array Value} {d t : Nat} {x : Value} (h : t ≠ d) : (xs.setIfInBounds d x).getD t undef = xs.getD t undef := by
  simp only [Array.getD_eq_getD_getElem?, Array.getElem?_setIfInBounds_ne (Ne.symm h)]

theorem Sim.put {C : Ctx} {env : Env} {fr : Nat → Option V} {hp : Nat → Option Row} {D : Nat → Prop} {a : Act} {w : World} (h : Sim C env fr hp D a w) {d : Nat} {x : Value} {v : V}
    (hd : d < C.N) (hr : Rep (Fd C env hp) w env D x v) : Sim C env (upd fr d (some v)) hp D (a.put (some d) x) w where
  sz := by simpa [Act.put] using h.sz
  df := h.df
  tm t u ht := by
    by_cases e : t = d
    · subst e
      rw [upd_same] at ht
      cases ht
      refine ⟨hd, ?_⟩
      rw [show (a.put (some t) x).tmps = a.tmps.setIfInBounds t x from rfl, getD_set_self (by rw [h.sz]; exact hd)]
      exact hr
    · rw [upd_ne _ _ e] at ht
      obtain ⟨h1, h2⟩ := h.tm t u ht
      refine ⟨h1, ?_⟩
      rw [show (a.put (some d) x).tmps = a.tmps.setIfInBounds d x from rfl, getD_set_ne' e]
      exact h2
  row := h.row
  old := h.old
  inj := h.inj
  st := h.st
  ob := h.ob
  gv := h.gv

/-- The world turns in a way that no abstract state sees. -/
theorem Sim.world {C : Ctx} {env : Env} {fr : Nat → Option V} {hp : Nat → Option Row} {D : Nat → Prop} {a : Act} {w w' : World} (h : Sim C env fr hp D a w)
    (hs : Step (fun _ => False) w w') : Sim C env fr hp D a w' where
  sz := h.sz
  df := h.df
  tm t v ht := ⟨(h.tm t v ht).1, (h.tm t v ht).2.mono (fun b hb hF => ⟨hF, hs.keep b hb (fun f => f)⟩) hs.shape hs.size (fun _ hD => ⟨hD, rfl⟩)⟩
  row n r hr := by
    refine ⟨(h.row n r hr).1, ?_⟩
    rcases (h.row n r hr).2 with ⟨blk, c, he, hw, hl, hc⟩ | hv
    · exact .inl ⟨blk, c, he, (hs.keep blk (lt_of_heap hw) (fun f => f)).trans hw, hl, fun k hk => (hc k hk).mono (fun b hb hF => ⟨hF, hs.keep b hb (fun f => f)⟩) hs.shape hs.size (fun _ hD => ⟨hD, rfl⟩)⟩
    · exact .inr hv
  old := h.old
  inj := h.inj
  st := h.st.trans hs (fun _ _ f => f.elim)
  ob := h.ob
  gv := h.gv

theorem Rep.world {F : Nat → Prop} {w w' : World} {env : Env} {D : Nat → Prop} {x : Value} {v : V} (h : Rep F w env D x v) (hs : Step (fun _ => False) w w') : Rep F w' env D x v :=
  h.mono (fun b hb hF => ⟨hF, hs.keep b hb (fun f => f)⟩) hs.shape hs.size (fun _ hD => ⟨hD, rfl⟩)

/-- More names may be in use than are. -/
theorem Sim.dom {C : Ctx} {env : Env} {fr : Nat → Option V} {hp : Nat → Option Row} {D D' : Nat → Prop} {a : Act} {w : World} (h : Sim C env fr hp D a w) (hD : ∀ n, D n → D' n) : Sim C env fr hp D' a w where
  sz := h.sz
  df := h.df
  tm t v ht := ⟨(h.tm t v ht).1, (h.tm t v ht).2.mono (fun b hb hF => ⟨hF, rfl⟩) (fun _ c _ _ h => ⟨c, rfl, h⟩) (Nat.le_refl _) (fun n hn => ⟨hD n hn, rfl⟩)⟩
  row n r hr := by
    refine ⟨hD _ (h.row n r hr).1, ?_⟩
    rcases (h.row n r hr).2 with ⟨blk, c, he, hw, hl, hc⟩ | hv
    · exact .inl ⟨blk, c, he, hw, hl, fun k hk => (hc k hk).mono (fun b hb hF => ⟨hF, rfl⟩) (fun _ c _ _ h => ⟨c, rfl, h⟩) (Nat.le_refl _) (fun n hn => ⟨hD n hn, rfl⟩)⟩
    · exact .inr hv
  old := h.old
  inj := h.inj
  st := h.st
  ob := h.ob
  gv := fun n hn => ⟨hD _ (h.gv n hn).1, (h.gv n hn).2⟩

/-- A new block. -/
theorem step_push (w : World) (o : Obj) : Step (fun _ => False) w { w with heap := w.heap.push o } where
  size := by simp
  os := rfl
  tape := rfl
  output := rfl
  keep b hb _ := by simp [Array.getElem?_push, Nat.ne_of_lt hb]
  shape b c T z h := ⟨c, rfl, by
    have := lt_of_heap h
    simpa [Array.getElem?_push, Nat.ne_of_lt this] using h⟩

theorem step_drawn (w : World) (n : Nat) : Step (fun _ => False) w { w with drawn := n } := ⟨Nat.le_refl _, rfl, rfl, rfl, fun _ _ _ => rfl, fun _ c _ _ h => ⟨c, rfl, h⟩⟩

/-- A new row gets a name. -/
theorem Sim.new {C : Ctx} {env : Env} {fr : Nat → Option V} {hp : Nat → Option Row} {D : Nat → Prop} {a : Act} {w : World} (h : Sim C env fr hp D a w) {n : Nat} (hn : ¬ D n) {r : Row} {c : Array Value}
    (hl : r.cells.length ≤ c.size) (hc : ∀ k, k < r.cells.length → Rep (Fd C env hp) w env D (c.getD k undef) (r.cells.getD k .junk)) :
    Sim C (upd env n (some w.heap.size)) fr (upd hp n (some r)) (fun m => D m ∨ m = n) a { w with heap := w.heap.push (.cells c r.T) } := by
  have hne : ∀ m, D m → m ≠ n := fun m hm e => hn (e ▸ hm)
  have hhp : ∀ m, (hp m).isSome = true → m ≠ n := fun m hm => by
    obtain ⟨r, hr⟩ := Option.isSome_iff_exists.1 hm
    exact hne m (h.row m r hr).1
  have hs := step_push w (.cells c r.T)
  have keep : ∀ b, b < w.heap.size → ¬ Fd C env hp b → ¬ Fd C (upd env n (some w.heap.size)) (upd hp n (some r)) b ∧ (w.heap.push (.cells c r.T))[b]? = w.heap[b]? := by
    intro b hb hF
    refine ⟨?_, hs.keep b hb (fun f => f)⟩
    rintro (ho | ⟨m, hm, he⟩)
    · exact hF (.inl ho)
    · by_cases e : m = n
      · subst e
        rw [upd_same] at he
        cases he
        exact Nat.lt_irrefl _ hb
      · rw [upd_ne _ _ e] at hm he
        exact hF (.inr ⟨m, hm, he⟩)
  have dom : ∀ m, D m → (D m ∨ m = n) ∧ upd env n (some w.heap.size) m = env m := fun m hm => ⟨.inl hm, upd_ne _ _ (hne m hm)⟩
  have lift : ∀ {x : Value} {v : V}, Rep (Fd C env hp) w env D x v → Rep (Fd C (upd env n (some w.heap.size)) (upd hp n (some r))) { w with heap := w.heap.push (.cells c r.T) } (upd env n (some w.heap.size)) (fun m => D m ∨ m = n) x v :=
    fun hx => hx.mono keep hs.shape hs.size dom
  exact {
    sz := h.sz
    df := h.df
    tm := fun t v ht => ⟨(h.tm t v ht).1, lift (h.tm t v ht).2⟩
    row := by
      intro m r' hr'
      by_cases e : m = n
      · subst e
        rw [upd_same] at hr'
        cases hr'
        exact ⟨.inr rfl, .inl ⟨w.heap.size, c, upd_same .., by simp, hl, fun k hk => lift (hc k hk)⟩⟩
      · rw [upd_ne _ _ e] at hr'
        refine ⟨.inl (h.row m r' hr').1, ?_⟩
        rcases (h.row m r' hr').2 with ⟨blk, c', he, hw, hl', hc'⟩ | ⟨he, hv⟩
        · exact .inl ⟨blk, c', by rw [upd_ne _ _ e]; exact he, (hs.keep blk (lt_of_heap hw) (fun f => f)).trans hw, hl', fun k hk => lift (hc' k hk)⟩
        · exact .inr ⟨by rw [upd_ne _ _ e]; exact he, hv⟩
    old := by
      intro m b hm he
      by_cases e : m = n
      · subst e
        rw [upd_same] at he
        cases he
        refine ⟨fun ho => Nat.lt_irrefl _ (Nat.lt_of_lt_of_le (h.ob _ ho).1 h.st.size), .inl h.st.size⟩
      · rw [upd_ne _ _ e] at hm he
        exact h.old m b hm he
    inj := by
      intro m m' b hm hm' he he'
      have key : ∀ m, m ≠ n → (hp m).isSome = true → env m = some w.heap.size → False := by
        intro m hmn hm he
        exact Nat.lt_irrefl _ (h.fd_lt (.inr ⟨m, hm, he⟩))
      by_cases e : m = n
      · by_cases e' : m' = n
        · rw [e, e']
        · subst e
          rw [upd_same] at he
          cases he
          rw [upd_ne _ _ e'] at hm' he'
          exact (key m' e' hm' he').elim
      · by_cases e' : m' = n
        · subst e'
          rw [upd_same] at he'
          cases he'
          rw [upd_ne _ _ e] at hm he
          exact (key m e hm he).elim
        · rw [upd_ne _ _ e] at hm he
          rw [upd_ne _ _ e'] at hm' he'
          exact h.inj m m' b hm hm' he he'
    st := h.st.trans hs (fun _ _ f => f.elim)
    ob := h.ob
    gv := fun m hm => ⟨.inl (h.gv m hm).1, (upd_ne _ _ (hne m (h.gv m hm).1)).trans (h.gv m hm).2⟩ }

/-- A row that holds nothing and has no block. -/
theorem Sim.newVirtual {C : Ctx} {env : Env} {fr : Nat → Option V} {hp : Nat → Option Row} {D : Nat → Prop} {a : Act} {w : World} (h : Sim C env fr hp D a w) {n : Nat} (hn : ¬ D n) (T : TypeId) :
    Sim C (upd env n none) fr (upd hp n (some ⟨T, []⟩)) (fun m => D m ∨ m = n) a w := by
  have hne : ∀ m, D m → m ≠ n := fun m hm e => hn (e ▸ hm)
  have keep : ∀ b, b < w.heap.size → ¬ Fd C env hp b → ¬ Fd C (upd env n none) (upd hp n (some ⟨T, []⟩)) b ∧ w.heap[b]? = w.heap[b]? := by
    intro b hb hF
    refine ⟨?_, rfl⟩
    rintro (ho | ⟨m, hm, he⟩)
    · exact hF (.inl ho)
    · by_cases e : m = n
      · subst e
        rw [upd_same] at he
        cases he
      · rw [upd_ne _ _ e] at hm he
        exact hF (.inr ⟨m, hm, he⟩)
  have dom : ∀ m, D m → (D m ∨ m = n) ∧ upd env n none m = env m := fun m hm => ⟨.inl hm, upd_ne _ _ (hne m hm)⟩
  have lift : ∀ {x : Value} {v : V}, Rep (Fd C env hp) w env D x v → Rep (Fd C (upd env n none) (upd hp n (some ⟨T, []⟩))) w (upd env n none) (fun m => D m ∨ m = n) x v :=
    fun hx => hx.mono keep (fun _ c _ _ h => ⟨c, rfl, h⟩) (Nat.le_refl _) dom
  exact {
    sz := h.sz
    df := h.df
    tm := fun t v ht => ⟨(h.tm t v ht).1, lift (h.tm t v ht).2⟩
    row := by
      intro m r' hr'
      by_cases e : m = n
      · subst e
        rw [upd_same] at hr'
        cases hr'
        exact ⟨.inr rfl, .inr ⟨upd_same .., rfl⟩⟩
      · rw [upd_ne _ _ e] at hr'
        refine ⟨.inl (h.row m r' hr').1, ?_⟩
        rcases (h.row m r' hr').2 with ⟨blk, c', he, hw, hl', hc'⟩ | ⟨he, hv⟩
        · exact .inl ⟨blk, c', by rw [upd_ne _ _ e]; exact he, hw, hl', fun k hk => lift (hc' k hk)⟩
        · exact .inr ⟨by rw [upd_ne _ _ e]; exact he, hv⟩
    old := by
      intro m b hm he
      by_cases e : m = n
      · subst e
        rw [upd_same] at he
        cases he
      · rw [upd_ne _ _ e] at hm he
        exact h.old m b hm he
    inj := by
      intro m m' b hm hm' he he'
      by_cases e : m = n
      · subst e
        rw [upd_same] at he
        cases he
      · by_cases e' : m' = n
        · subst e'
          rw [upd_same] at he'
          cases he'
        · rw [upd_ne _ _ e] at hm he
          rw [upd_ne _ _ e'] at hm' he'
          exact h.inj m m' b hm hm' he he'
    st := h.st
    ob := h.ob
    gv := fun m hm => ⟨.inl (h.gv m hm).1, (upd_ne _ _ (hne m (h.gv m hm).1)).trans (h.gv m hm).2⟩ }

/-- A row of the call's own is written: block 'blk' now holds c'. -/
theorem Sim.write {C : Ctx} {env : Env} {fr : Nat → Option V} {hp : Nat → Option Row} {D : Nat → Prop} {a : Act} {w w' : World} (h : Sim C env fr hp D a w) {n blk : Nat} {r r' : Row} (hr : hp n = some r) (he : env n = some blk)
    {c c' : Array Value} (hw : w.heap[blk]? = some (.cells c r.T (0, 0))) (hT : r'.T = r.T) (hsz : c'.size = c.size)
    (hw' : w' = { w with heap := w.heap.setIfInBounds blk (.cells c' r.T (0, 0)) })
    (hl : r'.cells.length ≤ c'.size) (hc : ∀ k, k < r'.cells.length → Rep (Fd C env hp) w env D (c'.getD k undef) (r'.cells.getD k .junk)) :
    Sim C env fr (upd hp n (some r')) D a w' := by
  subst hw'
  have hb : blk < w.heap.size := lt_of_heap hw
  have hsome : (hp n).isSome = true := by simp [hr]
  have hFblk : Fd C env hp blk := .inr ⟨n, hsome, he⟩
  have hiff : ∀ m, ((upd hp n (some r')) m).isSome = true ↔ (hp m).isSome = true := by
    intro m
    by_cases e : m = n
    · subst e; simp [hr]
    · rw [upd_ne _ _ e]
  have hFd : ∀ b, Fd C env (upd hp n (some r')) b ↔ Fd C env hp b := by
    intro b
    unfold Fd
    simp only [hiff]
  have hkeep : ∀ b, b ≠ blk → (w.heap.setIfInBounds blk (.cells c' r.T (0, 0)))[b]? = w.heap[b]? := by
    intro b hb'
    exact Array.getElem?_setIfInBounds_ne (Ne.symm hb')
  have hself : (w.heap.setIfInBounds blk (.cells c' r.T (0, 0)))[blk]? = some (.cells c' r.T (0, 0)) := by
    simp [hb]
  have hs : Step (fun b => b = blk) w { w with heap := w.heap.setIfInBounds blk (.cells c' r.T (0, 0)) } := {
    size := by simp
    os := rfl
    tape := rfl
    output := rfl
    keep := fun b _ hne => hkeep b hne
    shape := by
      intro b c1 T z hc1
      by_cases e : b = blk
      · subst e
        rw [hw] at hc1
        cases hc1
        exact ⟨c', hsz, hself⟩
      · exact ⟨c1, rfl, (hkeep b e).trans hc1⟩ }
  have keep : ∀ b, b < w.heap.size → ¬ Fd C env hp b → ¬ Fd C env (upd hp n (some r')) b ∧ (w.heap.setIfInBounds blk (.cells c' r.T (0, 0)))[b]? = w.heap[b]? := by
    intro b _ hF
    refine ⟨fun h => hF ((hFd b).1 h), hkeep b (fun e => hF (e ▸ hFblk))⟩
  have lift : ∀ {x : Value} {v : V}, Rep (Fd C env hp) w env D x v → Rep (Fd C env (upd hp n (some r'))) { w with heap := w.heap.setIfInBounds blk (.cells c' r.T (0, 0)) } env D x v :=
    fun hx => hx.mono keep hs.shape hs.size (fun _ hD => ⟨hD, rfl⟩)
  exact {
    sz := h.sz
    df := h.df
    tm := fun t v ht => ⟨(h.tm t v ht).1, lift (h.tm t v ht).2⟩
    row := by
      intro m r1 hr1
      by_cases e : m = n
      · subst e
        rw [upd_same] at hr1
        cases hr1
        exact ⟨(h.row m r hr).1, .inl ⟨blk, c', he, by rw [hT]; exact hself, hl, fun k hk => lift (hc k hk)⟩⟩
      · rw [upd_ne _ _ e] at hr1
        refine ⟨(h.row m r1 hr1).1, ?_⟩
        rcases (h.row m r1 hr1).2 with ⟨blk1, c1, he1, hw1, hl1, hc1⟩ | hv
        · have hne : blk1 ≠ blk := by
            intro eb
            subst eb
            exact e (h.inj m n blk1 (by simp [hr1]) hsome he1 he)
          exact .inl ⟨blk1, c1, he1, (hkeep blk1 hne).trans hw1, hl1, fun k hk => lift (hc1 k hk)⟩
        · exact .inr hv
    old := fun m b hm he' => h.old m b ((hiff m).1 hm) he'
    inj := fun m m' b hm hm' e1 e2 => h.inj m m' b ((hiff m).1 hm) ((hiff m').1 hm') e1 e2
    st := by
      refine h.st.trans hs ?_
      rintro b hb' rfl
      rcases (h.old n b hsome he).2 with hlt | hM
      · exact absurd hb' (Nat.not_lt.2 hlt)
      · exact hM
    ob := h.ob
    gv := h.gv }

/-- A row is forgotten. -/
theorem Sim.drop {C : Ctx} {env : Env} {fr : Nat → Option V} {hp : Nat → Option Row} {D : Nat → Prop} {a : Act} {w : World} (h : Sim C env fr hp D a w) (n : Nat) : Sim C env fr (upd hp n none) D a w := by
  have hsub : ∀ m, ((upd hp n none) m).isSome = true → (hp m).isSome = true ∧ m ≠ n := by
    intro m hm
    by_cases e : m = n
    · subst e; simp at hm
    · rw [upd_ne _ _ e] at hm; exact ⟨hm, e⟩
  have keep : ∀ b, b < w.heap.size → ¬ Fd C env hp b → ¬ Fd C env (upd hp n none) b ∧ w.heap[b]? = w.heap[b]? := by
    intro b _ hF
    refine ⟨?_, rfl⟩
    rintro (ho | ⟨m, hm, he⟩)
    · exact hF (.inl ho)
    · exact hF (.inr ⟨m, (hsub m hm).1, he⟩)
  have lift : ∀ {x : Value} {v : V}, Rep (Fd C env hp) w env D x v → Rep (Fd C env (upd hp n none)) w env D x v :=
    fun hx => hx.mono keep (fun _ c _ _ h => ⟨c, rfl, h⟩) (Nat.le_refl _) (fun _ hD => ⟨hD, rfl⟩)
  exact {
    sz := h.sz
    df := h.df
    tm := fun t v ht => ⟨(h.tm t v ht).1, lift (h.tm t v ht).2⟩
    row := by
      intro m r hr
      by_cases e : m = n
      · subst e; simp at hr
      · rw [upd_ne _ _ e] at hr
        refine ⟨(h.row m r hr).1, ?_⟩
        rcases (h.row m r hr).2 with ⟨blk, c, he, hw, hl, hc⟩ | hv
        · exact .inl ⟨blk, c, he, hw, hl, fun k hk => lift (hc k hk)⟩
        · exact .inr hv
    old := fun m b hm he => h.old m b (hsub m hm).1 he
    inj := fun m m' b hm hm' e1 e2 => h.inj m m' b (hsub m hm).1 (hsub m' hm').1 e1 e2
    st := h.st
    ob := h.ob
    gv := h.gv }

end Go.Proofs.Ytlhobedecoeohaa.Lift
