/- The abstract values of the framework 'Lift', what a Go value has to do with one (Rep), and what a frame and a memory have to do with an abstract state (Sim). -/
import Derived.Calls
import Derived.Orders
import Derived.Laws.Cells
import Derived.Laws.Entries
import Derived.ChangeKeysEq
import Derived.Laws.MakeOwn
import Derived.Laws.Tables
import Derived.Great.BuildSlice
import Derived.Laws.BytesString
set_option linter.unusedVariables false
set_option maxRecDepth 20000
set_option linter.unusedSimpArgs false
namespace Go.Proofs.Ytepkjfnffbdcoaa.Lift
open Go

/-- Abstract values. 'sl': a slice that nobody writes any more; 'own': a slice onto a row of the call's own; 'ptr': a pointer into such a row; 'rp': a pointer to cells that nobody writes. -/
inductive V where
  | junk
  | b (x : Bool)
  | i (k : IntKind) (n : Int)
  | s (x : ByteArray)
  | nl
  | sl (els : List V)
  | agg (cs : List V)
  | tup (vs : List V)
  | ptr (h off : Nat)
  | rp (cs : List V)
  | own (h off len E : Nat)
  | fn (f : Nat) (caps : List V)
instance : Inhabited V := ⟨.junk⟩

def V.cells : V → List V
  | .agg cs => cs
  | v => [v]

structure Row where
  T : TypeId
  cells : List V

abbrev Env := Nat → Option Nat

inductive Rep (F : Nat → Prop) (w : World) : Env → (Nat → Prop) → Value → V → Prop
  | junk {env D x} : Rep F w env D x .junk
  | b {env D x} : Rep F w env D (.bool x) (.b x)
  | i {env D k n} : k.min ≤ n ∧ n ≤ k.max → Rep F w env D (.int k n) (.i k n)
  | s {env D x} : x.size < 2 ^ 62 → Rep F w env D (.string x) (.s x)
  | nl {env D} : Rep F w env D (.slice none 0 0) .nl
  | sl0 {env D a cap} : Rep F w env D (.slice a 0 cap) (.sl [])
  | sl {env D blk off cap E els} (y : Nat → Value) : els ≠ [] → els.length ≤ cap → els.length < 2 ^ 62 → ¬ F blk → blk < w.heap.size →
      (∀ e ∈ els, e.cells.length = E) →
      (∀ k, k < els.length * E → w.cell? ⟨blk, off + k, none⟩ = some (y k)) →
      (∀ j k, j < els.length → k < E → Rep F w (fun _ => none) (fun _ => False) (y (j * E + k)) (((els.getD j .junk).cells).getD k .junk)) →
      Rep F w env D (.slice (some ⟨blk, off, none⟩) els.length cap) (.sl els)
  | agg {env D xs cs} : xs.size = cs.length → (∀ k, k < cs.length → Rep F w env D (xs.getD k undef) (cs.getD k .junk)) → Rep F w env D (.agg xs) (.agg cs)
  | tup {env D xs cs} : xs.size = cs.length → (∀ k, k < cs.length → Rep F w env D (xs.getD k undef) (cs.getD k .junk)) → Rep F w env D (.tuple xs) (.tup cs)
  | ptr {env D h off blk} : D h → env h = some blk → Rep F w env D (.pointer (some ⟨blk, off, none⟩)) (.ptr h off)
  | rp {env D blk off cs} (y : Nat → Value) : ¬ F blk → blk < w.heap.size →
      (∀ k, k < cs.length → w.cell? ⟨blk, off + k, none⟩ = some (y k)) →
      (∀ k, k < cs.length → Rep F w (fun _ => none) (fun _ => False) (y k) (cs.getD k .junk)) →
      Rep F w env D (.pointer (some ⟨blk, off, none⟩)) (.rp cs)
  | own {env D h off len cap E blk} : D h → env h = some blk → len ≤ cap → len < 2 ^ 62 →
      (∃ (c : Array Value) (T : TypeId) (z : Nat × Nat), w.heap[blk]? = some (.cells c T z) ∧ off + cap * E ≤ c.size) →
      Rep F w env D (.slice (some ⟨blk, off, none⟩) len cap) (.own h off len E)
  | own0 {env D h E} : D h → Rep F w env D (.slice none 0 0) (.own h 0 0 E)
  | fn {env D f caps cs} : caps.size = cs.length → (∀ k, k < cs.length → Rep F w env D (caps.getD k undef) (cs.getD k .junk)) → Rep F w env D (.func (.func f) #[] caps) (.fn f cs)

theorem cell_of_block {w w' : World} {blk off : Nat} (h : w'.heap[blk]? = w.heap[blk]?) : w'.cell? ⟨blk, off, none⟩ = w.cell? ⟨blk, off, none⟩ := by
  simp only [World.cell?, h]

theorem Rep.mono {F : Nat → Prop} {w : World} {env : Env} {D : Nat → Prop} {x : Value} {v : V} (h : Rep F w env D x v) :
    ∀ {F' : Nat → Prop} {w' : World} {env' : Env} {D' : Nat → Prop},
      (∀ b, b < w.heap.size → ¬ F b → ¬ F' b ∧ w'.heap[b]? = w.heap[b]?) →
      (∀ (b : Nat) (c : Array Value) (T : TypeId) (z : Nat × Nat), w.heap[b]? = some (.cells c T z) → ∃ c' : Array Value, c'.size = c.size ∧ w'.heap[b]? = some (.cells c' T z)) →
      w.heap.size ≤ w'.heap.size → (∀ h, D h → D' h ∧ env' h = env h) → Rep F' w' env' D' x v := by
  induction h with
  | junk => intros; exact .junk
  | b => intros; exact .b
  | i hk => intros; exact .i hk
  | s hs => intros; exact .s hs
  | nl => intros; exact .nl
  | sl0 => intros; exact .sl0
  | sl y hne hc hl hF hb hE hy hr ih =>
    intro F' w' env' D' keep shape size dom
    refine .sl y hne hc hl (keep _ hb hF).1 (Nat.lt_of_lt_of_le hb size) hE ?_ ?_
    · intro k hk
      rw [cell_of_block (keep _ hb hF).2]
      exact hy k hk
    · intro j k hj hk
      exact ih j k hj hk keep shape size (fun _ hf => hf.elim)
  | agg hs hr ih =>
    intro F' w' env' D' keep shape size dom
    exact .agg hs fun k hk => ih k hk keep shape size dom
  | tup hs hr ih =>
    intro F' w' env' D' keep shape size dom
    exact .tup hs fun k hk => ih k hk keep shape size dom
  | ptr hD he =>
    intro F' w' env' D' keep shape size dom
    exact .ptr (dom _ hD).1 ((dom _ hD).2.trans he)
  | rp y hF hb hy hr ih =>
    intro F' w' env' D' keep shape size dom
    refine .rp y (keep _ hb hF).1 (Nat.lt_of_lt_of_le hb size) ?_ ?_
    · intro k hk
      rw [cell_of_block (keep _ hb hF).2]
      exact hy k hk
    · intro k hk
      exact ih k hk keep shape size (fun _ hf => hf.elim)
  | own hD he hc hl hs =>
    intro F' w' env' D' keep shape size dom
    obtain ⟨c, T, z, h1, h2⟩ := hs
    obtain ⟨c', h3, h4⟩ := shape _ _ _ _ h1
    exact .own (dom _ hD).1 ((dom _ hD).2.trans he) hc hl ⟨c', T, z, h4, by rw [h3]; exact h2⟩
  | own0 hD =>
    intro F' w' env' D' keep shape size dom
    exact .own0 (dom _ hD).1
  | fn hs hr ih =>
    intro F' w' env' D' keep shape size dom
    exact .fn hs fun k hk => ih k hk keep shape size dom

/-- How a world may turn: blocks outside 'M' stay, every row keeps its size and type. -/
structure Step (M : Nat → Prop) (w w' : World) : Prop where
  size : w.heap.size ≤ w'.heap.size
  os : w'.os = w.os
  tape : w'.tape = w.tape
  output : w'.output = w.output
  keep : ∀ b, b < w.heap.size → ¬ M b → w'.heap[b]? = w.heap[b]?
  shape : ∀ (b : Nat) (c : Array Value) (T : TypeId) (z : Nat × Nat), w.heap[b]? = some (.cells c T z) → ∃ c' : Array Value, c'.size = c.size ∧ w'.heap[b]? = some (.cells c' T z)

theorem Step.refl (M : Nat → Prop) (w : World) : Step M w w := ⟨Nat.le_refl _, rfl, rfl, rfl, fun _ _ _ => rfl, fun _ c _ _ h => ⟨c, rfl, h⟩⟩

theorem lt_of_heap {w : World} {b : Nat} {o : Obj} (h : w.heap[b]? = some o) : b < w.heap.size := by
  obtain ⟨h, _⟩ := Array.getElem?_eq_some_iff.1 h
  exact h

/-- What is old and outside M1 stays, where the second step leaves alone what is outside M2. -/
theorem Step.trans {M1 M2 : Nat → Prop} {w w1 w2 : World} (h1 : Step M1 w w1) (h2 : Step M2 w1 w2) (hM : ∀ b, b < w.heap.size → M2 b → M1 b) : Step M1 w w2 where
  size := Nat.le_trans h1.size h2.size
  os := h2.os.trans h1.os
  tape := h2.tape.trans h1.tape
  output := h2.output.trans h1.output
  keep b hb hm := (h2.keep b (Nat.lt_of_lt_of_le hb h1.size) (fun h => hm (hM b hb h))).trans (h1.keep b hb hm)
  shape b c T z h := by
    obtain ⟨c1, e1, h1'⟩ := h1.shape b c T z h
    obtain ⟨c2, e2, h2'⟩ := h2.shape b c1 T z h1'
    exact ⟨c2, e2.trans e1, h2'⟩

structure Ctx where
  N : Nat
  O : Nat → Prop
  M : Nat → Prop
  w0 : World
  g : Nat
  G : Env

def Fd (C : Ctx) (env : Env) (hp : Nat → Option Row) (b : Nat) : Prop := C.O b ∨ ∃ h, (hp h).isSome = true ∧ env h = some b

/-- A row: its first cells are told. A row that holds nothing may have no block at all. -/
def RowAt (F : Nat → Prop) (w : World) (env : Env) (D : Nat → Prop) (h : Nat) (r : Row) : Prop :=
  (∃ (blk : Nat) (c : Array Value), env h = some blk ∧ w.heap[blk]? = some (.cells c r.T (0, 0)) ∧ r.cells.length ≤ c.size ∧ ∀ k, k < r.cells.length → Rep F w env D (c.getD k undef) (r.cells.getD k .junk)) ∨
  (env h = none ∧ r.cells = [])

structure Sim (C : Ctx) (env : Env) (fr : Nat → Option V) (hp : Nat → Option Row) (D : Nat → Prop) (a : Act) (w : World) : Prop where
  sz : a.tmps.size = C.N
  df : a.defers = []
  tm : ∀ t v, fr t = some v → t < C.N ∧ Rep (Fd C env hp) w env D (a.tmps.getD t undef) v
  row : ∀ h r, hp h = some r → D h ∧ RowAt (Fd C env hp) w env D h r
  old : ∀ h b, (hp h).isSome = true → env h = some b → ¬ C.O b ∧ (C.w0.heap.size ≤ b ∨ C.M b)
  inj : ∀ h h' b, (hp h).isSome = true → (hp h').isSome = true → env h = some b → env h' = some b → h = h'
  st : Step C.M C.w0 w
  ob : ∀ b, C.O b → b < C.w0.heap.size ∧ ¬ C.M b
  gv : ∀ n, n < C.g → D n ∧ env n = C.G n

def upd {α : Type} (f : Nat → Option α) (k : Nat) (x : Option α) : Nat → Option α := fun n => if n = k then x else f n
@[simp] theorem upd_same {α : Type} (f : Nat → Option α) (k : Nat) (x : Option α) : upd f k x k = x := by simp [upd]
theorem upd_ne {α : Type} (f : Nat → Option α) {k n : Nat} (x : Option α) (h : n ≠ k) : upd f k x n = f n := by simp [upd, h]

theorem Sim.fd_lt {C : Ctx} {env : Env} {fr : Nat → Option V} {hp : Nat → Option Row} {D : Nat → Prop} {a : Act} {w : World} (h : Sim C env fr hp D a w) {b : Nat} (hb : Fd C env hp b) : b < w.heap.size := by
  rcases hb with ho | ⟨n, hn, he⟩
  · exact Nat.lt_of_lt_of_le (h.ob b ho).1 h.st.size
  · obtain ⟨r, hr⟩ := Option.isSome_iff_exists.1 hn
    rcases (h.row n r hr).2 with ⟨blk, c, he', hw, _⟩ | ⟨he', _⟩
    · rw [he] at he'; cases he'; exact lt_of_heap hw
    · rw [he] at he'; cases he'

theorem getD_set_self {xs : Array Value} {d : Nat} {x : Value} (h : d < xs.size) : (xs.setIfInBounds d x).getD d undef = x := by
  simp [Array.getD, h]
theorem getD_set_ne' {xs : Array Value} {d t : Nat} {x : Value} (h : t ≠ d) : (xs.setIfInBounds d x).getD t undef = xs.getD t undef := by
  simp only [Array.getD_eq_getD_getElem?, Array.getElem?_setIfInBounds_ne (Ne.symm h)]

theorem Sim.put {C : Ctx} {env : Env} {fr : Nat → Option V} {hp : Nat → Option Row} {D : Nat → Prop} {a : Act} {w : World} (h : Sim C env fr hp D a w) {d : Nat} {x : Value} {v : V}
    (hd : d < C.N) (hr : Rep (Fd C env hp) w env D x v) : Sim C env (upd fr d (some v)) hp D (a.put (some d) x) w where
  sz := by simpa [Act.put] using h.sz
  df := h.df
  tm t u ht := by
    by_cases e : t = d
    · subst e
      rw [upd_same] at ht
      cases ht
      refine ⟨hd, ?_⟩
      rw [show (a.put (some t) x).tmps = a.tmps.setIfInBounds t x from rfl, getD_set_self (by rw [h.sz]; exact hd)]
      exact hr
    · rw [upd_ne _ _ e] at ht
      obtain ⟨h1, h2⟩ := h.tm t u ht
      refine ⟨h1, ?_⟩
      rw [show (a.put (some d) x).tmps = a.tmps.setIfInBounds d x from rfl, getD_set_ne' e]
      exact h2
  row := h.row
  old := h.old
  inj := h.inj
  st := h.st
  ob := h.ob
  gv := h.gv

/-- The world turns in a way that no abstract state sees. -/
theorem Sim.world {C : Ctx} {env : Env} {fr : Nat → Option V} {hp : Nat → Option Row} {D : Nat → Prop} {a : Act} {w w' : World} (h : Sim C env fr hp D a w)
    (hs : Step (fun _ => False) w w') : Sim C env fr hp D a w' where
  sz := h.sz
  df := h.df
  tm t v ht := ⟨(h.tm t v ht).1, (h.tm t v ht).2.mono (fun b hb hF => ⟨hF, hs.keep b hb (fun f => f)⟩) hs.shape hs.size (fun _ hD => ⟨hD, rfl⟩)⟩
  row n r hr := by
    refine ⟨(h.row n r hr).1, ?_⟩
    rcases (h.row n r hr).2 with ⟨blk, c, he, hw, hl, hc⟩ | hv
    · exact .inl ⟨blk, c, he, (hs.keep blk (lt_of_heap hw) (fun f => f)).trans hw, hl, fun k hk => (hc k hk).mono (fun b hb hF => ⟨hF, hs.keep b hb (fun f => f)⟩) hs.shape hs.size (fun _ hD => ⟨hD, rfl⟩)⟩
    · exact .inr hv
  old := h.old
  inj := h.inj
  st := h.st.trans hs (fun _ _ f => f.elim)
  ob := h.ob
  gv := h.gv

theorem Rep.world {F : Nat → Prop} {w w' : World} {env : Env} {D : Nat → Prop} {x : Value} {v : V} (h : Rep F w env D x v) (hs : Step (fun _ => False) w w') : Rep F w' env D x v :=
  h.mono (fun b hb hF => ⟨hF, hs.keep b hb (fun f => f)⟩) hs.shape hs.size (fun _ hD => ⟨hD, rfl⟩)

/-- More names may be in use than are. -/
theorem Sim.dom {C : Ctx} {env : Env} {fr : Nat → Option V} {hp : Nat → Option Row} {D D' : Nat → Prop} {a : Act} {w : World} (h : Sim C env fr hp D a w) (hD : ∀ n, D n → D' n) : Sim C env fr hp D' a w where
  sz := h.sz
  df := h.df
  tm t v ht := ⟨(h.tm t v ht).1, (h.tm t v ht).2.mono (fun b hb hF => ⟨hF, rfl⟩) (fun _ c _ _ h => ⟨c, rfl, h⟩) (Nat.le_refl _) (fun n hn => ⟨hD n hn, rfl⟩)⟩
  row n r hr := by
    refine ⟨hD _ (h.row n r hr).1, ?_⟩
    rcases (h.row n r hr).2 with ⟨blk, c, he, hw, hl, hc⟩ | hv
    · exact .inl ⟨blk, c, he, hw, hl, fun k hk => (hc k hk).mono (fun b hb hF => ⟨hF, rfl⟩) (fun _ c _ _ h => ⟨c, rfl, h⟩) (Nat.le_refl _) (fun n hn => ⟨hD n hn, rfl⟩)⟩
    · exact .inr hv
  old := h.old
  inj := h.inj
  st := h.st
  ob := h.ob
  gv := fun n hn => ⟨hD _ (h.gv n hn).1, (h.gv n hn).2⟩

/-- A new block. -/
theorem step_push (w : World) (o : Obj) : Step (fun _ => False) w { w with heap := w.heap.push o } where
  size := by simp
  os := rfl
  tape := rfl
  output := rfl
  keep b hb _ := by simp [Array.getElem?_push, Nat.ne_of_lt hb]
  shape b c T z h := ⟨c, rfl, by
    have := lt_of_heap h
    simpa [Array.getElem?_push, Nat.ne_of_lt this] using h⟩

theorem step_drawn (w : World) (n : Nat) : Step (fun _ => False) w { w with drawn := n } := ⟨Nat.le_refl _, rfl, rfl, rfl, fun _ _ _ => rfl, fun _ c _ _ h => ⟨c, rfl, h⟩⟩

/-- A new row gets a name. -/
theorem Sim.new {C : Ctx} {env : Env} {fr : Nat → Option V} {hp : Nat → Option Row} {D : Nat → Prop} {a : Act} {w : World} (h : Sim C env fr hp D a w) {n : Nat} (hn : ¬ D n) {r : Row} {c : Array Value}
    (hl : r.cells.length ≤ c.size) (hc : ∀ k, k < r.cells.length → Rep (Fd C env hp) w env D (c.getD k undef) (r.cells.getD k .junk)) :
    Sim C (upd env n (some w.heap.size)) fr (upd hp n (some r)) (fun m => D m ∨ m = n) a { w with heap := w.heap.push (.cells c r.T) } := by
  have hne : ∀ m, D m → m ≠ n := fun m hm e => hn (e ▸ hm)
  have hhp : ∀ m, (hp m).isSome = true → m ≠ n := fun m hm => by
    obtain ⟨r, hr⟩ := Option.isSome_iff_exists.1 hm
    exact hne m (h.row m r hr).1
  have hs := step_push w (.cells c r.T)
  have keep : ∀ b, b < w.heap.size → ¬ Fd C env hp b → ¬ Fd C (upd env n (some w.heap.size)) (upd hp n (some r)) b ∧ (w.heap.push (.cells c r.T))[b]? = w.heap[b]? := by
    intro b hb hF
    refine ⟨?_, hs.keep b hb (fun f => f)⟩
    rintro (ho | ⟨m, hm, he⟩)
    · exact hF (.inl ho)
    · by_cases e : m = n
      · subst e
        rw [upd_same] at he
        cases he
        exact Nat.lt_irrefl _ hb
      · rw [upd_ne _ _ e] at hm he
        exact hF (.inr ⟨m, hm, he⟩)
  have dom : ∀ m, D m → (D m ∨ m = n) ∧ upd env n (some w.heap.size) m = env m := fun m hm => ⟨.inl hm, upd_ne _ _ (hne m hm)⟩
  have lift : ∀ {x : Value} {v : V}, Rep (Fd C env hp) w env D x v → Rep (Fd C (upd env n (some w.heap.size)) (upd hp n (some r))) { w with heap := w.heap.push (.cells c r.T) } (upd env n (some w.heap.size)) (fun m => D m ∨ m = n) x v :=
    fun hx => hx.mono keep hs.shape hs.size dom
  exact {
    sz := h.sz
    df := h.df
    tm := fun t v ht => ⟨(h.tm t v ht).1, lift (h.tm t v ht).2⟩
    row := by
      intro m r' hr'
      by_cases e : m = n
      · subst e
        rw [upd_same] at hr'
        cases hr'
        exact ⟨.inr rfl, .inl ⟨w.heap.size, c, upd_same .., by simp, hl, fun k hk => lift (hc k hk)⟩⟩
      · rw [upd_ne _ _ e] at hr'
        refine ⟨.inl (h.row m r' hr').1, ?_⟩
        rcases (h.row m r' hr').2 with ⟨blk, c', he, hw, hl', hc'⟩ | ⟨he, hv⟩
        · exact .inl ⟨blk, c', by rw [upd_ne _ _ e]; exact he, (hs.keep blk (lt_of_heap hw) (fun f => f)).trans hw, hl', fun k hk => lift (hc' k hk)⟩
        · exact .inr ⟨by rw [upd_ne _ _ e]; exact he, hv⟩
    old := by
      intro m b hm he
      by_cases e : m = n
      · subst e
        rw [upd_same] at he
        cases he
        refine ⟨fun ho => Nat.lt_irrefl _ (Nat.lt_of_lt_of_le (h.ob _ ho).1 h.st.size), .inl h.st.size⟩
      · rw [upd_ne _ _ e] at hm he
        exact h.old m b hm he
    inj := by
      intro m m' b hm hm' he he'
      have key : ∀ m, m ≠ n → (hp m).isSome = true → env m = some w.heap.size → False := by
        intro m hmn hm he
        exact Nat.lt_irrefl _ (h.fd_lt (.inr ⟨m, hm, he⟩))
      by_cases e : m = n
      · by_cases e' : m' = n
        · rw [e, e']
        · subst e
          rw [upd_same] at he
          cases he
          rw [upd_ne _ _ e'] at hm' he'
          exact (key m' e' hm' he').elim
      · by_cases e' : m' = n
        · subst e'
          rw [upd_same] at he'
          cases he'
          rw [upd_ne _ _ e] at hm he
          exact (key m e hm he).elim
        · rw [upd_ne _ _ e] at hm he
          rw [upd_ne _ _ e'] at hm' he'
          exact h.inj m m' b hm hm' he he'
    st := h.st.trans hs (fun _ _ f => f.elim)
    ob := h.ob
    gv := fun m hm => ⟨.inl (h.gv m hm).1, (upd_ne _ _ (hne m (h.gv m hm).1)).trans (h.gv m hm).2⟩ }

/-- A row that holds nothing and has no block. -/
theorem Sim.newVirtual {C : Ctx} {env : Env} {fr : Nat → Option V} {hp : Nat → Option Row} {D : Nat → Prop} {a : Act} {w : World} (h : Sim C env fr hp D a w) {n : Nat} (hn : ¬ D n) (T : TypeId) :
    Sim C (upd env n none) fr (upd hp n (some ⟨T, []⟩)) (fun m => D m ∨ m = n) a w := by
  have hne : ∀ m, D m → m ≠ n := fun m hm e => hn (e ▸ hm)
  have keep : ∀ b, b < w.heap.size → ¬ Fd C env hp b → ¬ Fd C (upd env n none) (upd hp n (some ⟨T, []⟩)) b ∧ w.heap[b]? = w.heap[b]? := by
    intro b hb hF
    refine ⟨?_, rfl⟩
    rintro (ho | ⟨m, hm, he⟩)
    · exact hF (.inl ho)
    · by_cases e : m = n
      · subst e
        rw [upd_same] at he
        cases he
      · rw [upd_ne _ _ e] at hm he
        exact hF (.inr ⟨m, hm, he⟩)
  have dom : ∀ m, D m → (D m ∨ m = n) ∧ upd env n none m = env m := fun m hm => ⟨.inl hm, upd_ne _ _ (hne m hm)⟩
  have lift : ∀ {x : Value} {v : V}, Rep (Fd C env hp) w env D x v → Rep (Fd C (upd env n none) (upd hp n (some ⟨T, []⟩))) w (upd env n none) (fun m => D m ∨ m = n) x v :=
    fun hx => hx.mono keep (fun _ c _ _ h => ⟨c, rfl, h⟩) (Nat.le_refl _) dom
  exact {
    sz := h.sz
    df := h.df
    tm := fun t v ht => ⟨(h.tm t v ht).1, lift (h.tm t v ht).2⟩
    row := by
      intro m r' hr'
      by_cases e : m = n
      · subst e
        rw [upd_same] at hr'
        cases hr'
        exact ⟨.inr rfl, .inr ⟨upd_same .., rfl⟩⟩
      · rw [upd_ne _ _ e] at hr'
        refine ⟨.inl (h.row m r' hr').1, ?_⟩
        rcases (h.row m r' hr').2 with ⟨blk, c', he, hw, hl', hc'⟩ | ⟨he, hv⟩
        · exact .inl ⟨blk, c', by rw [upd_ne _ _ e]; exact he, hw, hl', fun k hk => lift (hc' k hk)⟩
        · exact .inr ⟨by rw [upd_ne _ _ e]; exact he, hv⟩
    old := by
      intro m b hm he
      by_cases e : m = n
      · subst e
        rw [upd_same] at he
        cases he
      · rw [upd_ne _ _ e] at hm he
        exact h.old m b hm he
    inj := by
      intro m m' b hm hm' he he'
      by_cases e : m = n
      · subst e
        rw [upd_same] at he
        cases he
      · by_cases e' : m' = n
        · subst e'
          rw [upd_same] at he'
          cases he'
        · rw [upd_ne _ _ e] at hm he
          rw [upd_ne _ _ e'] at hm' he'
          exact h.inj m m' b hm hm' he he'
    st := h.st
    ob := h.ob
    gv := fun m hm => ⟨.inl (h.gv m hm).1, (upd_ne _ _ (hne m (h.gv m hm).1)).trans (h.gv m hm).2⟩ }

/-- A row of the call's own is written: block 'blk' now holds c'. -/
theorem Sim.write {C : Ctx} {env : Env} {fr : Nat → Option V} {hp : Nat → Option Row} {D : Nat → Prop} {a : Act} {w w' : World} (h : Sim C env fr hp D a w) {n blk : Nat} {r r' : Row} (hr : hp n = some r) (he : env n = some blk)
    {c c' : Array Value} (hw : w.heap[blk]? = some (.cells c r.T (0, 0))) (hT : r'.T = r.T) (hsz : c'.size = c.size)
    (hw' : w' = { w with heap := w.heap.setIfInBounds blk (.cells c' r.T (0, 0)) })
    (hl : r'.cells.length ≤ c'.size) (hc : ∀ k, k < r'.cells.length → Rep (Fd C env hp) w env D (c'.getD k undef) (r'.cells.getD k .junk)) :
    Sim C env fr (upd hp n (some r')) D a w' := by
  subst hw'
  have hb : blk < w.heap.size := lt_of_heap hw
  have hsome : (hp n).isSome = true := by simp [hr]
  have hFblk : Fd C env hp blk := .inr ⟨n, hsome, he⟩
  have hiff : ∀ m, ((upd hp n (some r')) m).isSome = true ↔ (hp m).isSome = true := by
    intro m
    by_cases e : m = n
    · subst e; simp [hr]
    · rw [upd_ne _ _ e]
  have hFd : ∀ b, Fd C env (upd hp n (some r')) b ↔ Fd C env hp b := by
    intro b
    unfold Fd
    simp only [hiff]
  have hkeep : ∀ b, b ≠ blk → (w.heap.setIfInBounds blk (.cells c' r.T (0, 0)))[b]? = w.heap[b]? := by
    intro b hb'
    exact Array.getElem?_setIfInBounds_ne (Ne.symm hb')
  have hself : (w.heap.setIfInBounds blk (.cells c' r.T (0, 0)))[blk]? = some (.cells c' r.T (0, 0)) := by
    simp [hb]
  have hs : Step (fun b => b = blk) w { w with heap := w.heap.setIfInBounds blk (.cells c' r.T (0, 0)) } := {
    size := by simp
    os := rfl
    tape := rfl
    output := rfl
    keep := fun b _ hne => hkeep b hne
    shape := by
      intro b c1 T z hc1
      by_cases e : b = blk
      · subst e
        rw [hw] at hc1
        cases hc1
        exact ⟨c', hsz, hself⟩
      · exact ⟨c1, rfl, (hkeep b e).trans hc1⟩ }
  have keep : ∀ b, b < w.heap.size → ¬ Fd C env hp b → ¬ Fd C env (upd hp n (some r')) b ∧ (w.heap.setIfInBounds blk (.cells c' r.T (0, 0)))[b]? = w.heap[b]? := by
    intro b _ hF
    refine ⟨fun h => hF ((hFd b).1 h), hkeep b (fun e => hF (e ▸ hFblk))⟩
  have lift : ∀ {x : Value} {v : V}, Rep (Fd C env hp) w env D x v → Rep (Fd C env (upd hp n (some r'))) { w with heap := w.heap.setIfInBounds blk (.cells c' r.T (0, 0)) } env D x v :=
    fun hx => hx.mono keep hs.shape hs.size (fun _ hD => ⟨hD, rfl⟩)
  exact {
    sz := h.sz
    df := h.df
    tm := fun t v ht => ⟨(h.tm t v ht).1, lift (h.tm t v ht).2⟩
    row := by
      intro m r1 hr1
      by_cases e : m = n
      · subst e
        rw [upd_same] at hr1
        cases hr1
        exact ⟨(h.row m r hr).1, .inl ⟨blk, c', he, by rw [hT]; exact hself, hl, fun k hk => lift (hc k hk)⟩⟩
      · rw [upd_ne _ _ e] at hr1
        refine ⟨(h.row m r1 hr1).1, ?_⟩
        rcases (h.row m r1 hr1).2 with ⟨blk1, c1, he1, hw1, hl1, hc1⟩ | hv
        · have hne : blk1 ≠ blk := by
            intro eb
            subst eb
            exact e (h.inj m n blk1 (by simp [hr1]) hsome he1 he)
          exact .inl ⟨blk1, c1, he1, (hkeep blk1 hne).trans hw1, hl1, fun k hk => lift (hc1 k hk)⟩
        · exact .inr hv
    old := fun m b hm he' => h.old m b ((hiff m).1 hm) he'
    inj := fun m m' b hm hm' e1 e2 => h.inj m m' b ((hiff m).1 hm) ((hiff m').1 hm') e1 e2
    st := by
      refine h.st.trans hs ?_
      rintro b hb' rfl
      rcases (h.old n b hsome he).2 with hlt | hM
      · exact absurd hb' (Nat.not_lt.2 hlt)
      · exact hM
    ob := h.ob
    gv := h.gv }

/-- A row is forgotten. -/
theorem Sim.drop {C : Ctx} {env : Env} {fr : Nat → Option V} {hp : Nat → Option Row} {D : Nat → Prop} {a : Act} {w : World} (h : Sim C env fr hp D a w) (n : Nat) : Sim C env fr (upd hp n none) D a w := by
  have hsub : ∀ m, ((upd hp n none) m).isSome = true → (hp m).isSome = true ∧ m ≠ n := by
    intro m hm
    by_cases e : m = n
    · subst e; simp at hm
    · rw [upd_ne _ _ e] at hm; exact ⟨hm, e⟩
  have keep : ∀ b, b < w.heap.size → ¬ Fd C env hp b → ¬ Fd C env (upd hp n none) b ∧ w.heap[b]? = w.heap[b]? := by
    intro b _ hF
    refine ⟨?_, rfl⟩
    rintro (ho | ⟨m, hm, he⟩)
    · exact hF (.inl ho)
    · exact hF (.inr ⟨m, (hsub m hm).1, he⟩)
  have lift : ∀ {x : Value} {v : V}, Rep (Fd C env hp) w env D x v → Rep (Fd C env (upd hp n none)) w env D x v :=
    fun hx => hx.mono keep (fun _ c _ _ h => ⟨c, rfl, h⟩) (Nat.le_refl _) (fun _ hD => ⟨hD, rfl⟩)
  exact {
    sz := h.sz
    df := h.df
    tm := fun t v ht => ⟨(h.tm t v ht).1, lift (h.tm t v ht).2⟩
    row := by
      intro m r hr
      by_cases e : m = n
      · subst e; simp at hr
      · rw [upd_ne _ _ e] at hr
        refine ⟨(h.row m r hr).1, ?_⟩
        rcases (h.row m r hr).2 with ⟨blk, c, he, hw, hl, hc⟩ | hv
        · exact .inl ⟨blk, c, he, hw, hl, fun k hk => lift (hc k hk)⟩
        · exact .inr hv
    old := fun m b hm he => h.old m b (hsub m hm).1 he
    inj := fun m m' b hm hm' e1 e2 => h.inj m m' b (hsub m hm).1 (hsub m' hm').1 e1 e2
    st := h.st
    ob := h.ob
    gv := h.gv }

end Go.Proofs.Ytepkjfnffbdcoaa.Lift

/- What an operation does to an abstract state (Eff), and the runs of the model's own words that the soundness of each operation leans on. -/
set_option linter.unusedVariables false
set_option linter.unusedSimpArgs false
namespace Go.Proofs.Ytepkjfnffbdcoaa.Lift
open Go

/-! ### 1. Types -/
structure Lay where
  size : Nat
  agg : Bool
  bytes : Nat
  zero : List V

def ofCell : Value → V
  | .bool b => .b b
  | .int k n => if k.min ≤ n ∧ n ≤ k.max then .i k n else .junk
  | .string s => if s.size < 2 ^ 62 then .s s else .junk
  | .slice none 0 0 => .nl
  | _ => .junk
def ofConst : Value → V
  | .agg cs => .agg (cs.toList.map ofCell)
  | v => ofCell v

def aggD : TypeDesc → Bool
  | .struct _ | .array _ _ => true
  | _ => false

def lay (P : Program) (t : TypeId) : Option Lay :=
  match P.info? t, P.underlying t with
  | some i, some d => match i.zero with
    | some z => some ⟨i.size, aggD d, i.bytes, z.cells.toList.map ofCell⟩
    | none => none
  | _, _ => none

theorem lay_inv {P : Program} {t : TypeId} {L : Lay} (h : lay P t = some L) : ∃ (i : TypeInfo) (d : TypeDesc) (z : Value), P.info? t = some i ∧ P.underlying t = some d ∧ i.zero = some z ∧ L = ⟨i.size, aggD d, i.bytes, z.cells.toList.map ofCell⟩ := by
  unfold lay at h
  split at h
  · rename_i i d hi hd
    split at h
    · rename_i z hz
      cases h
      exact ⟨i, d, z, hi, hd, hz, rfl⟩
    · cases h
  · cases h

theorem rep_ofCell {F : Nat → Prop} {w : World} {env : Env} {D : Nat → Prop} (x : Value) : Rep F w env D x (ofCell x) := by
  unfold ofCell
  split
  · exact .b
  · split
    · rename_i h; exact .i h
    · exact .junk
  · split
    · rename_i h; exact .s h
    · exact .junk
  · exact .nl
  · exact .junk

theorem getD_toList (xs : Array Value) (k : Nat) : xs.toList.getD k undef = xs.getD k undef := by
  simp [List.getD_eq_getElem?_getD, Array.getD_eq_getD_getElem?]

theorem getD_map_ofCell (l : List Value) {k : Nat} (hk : k < l.length) : (l.map ofCell).getD k .junk = ofCell (l.getD k undef) := by
  simp [List.getD_eq_getElem?_getD, hk]

theorem rep_ofCells {F : Nat → Prop} {w : World} {env : Env} {D : Nat → Prop} (xs : Array Value) (k : Nat) (hk : k < (xs.toList.map ofCell).length) : Rep F w env D (xs.getD k undef) ((xs.toList.map ofCell).getD k .junk) := by
  rw [getD_map_ofCell _ (by simpa using hk), getD_toList]
  exact rep_ofCell _

theorem rep_ofConst {F : Nat → Prop} {w : World} {env : Env} {D : Nat → Prop} (x : Value) : Rep F w env D x (ofConst x) := by
  unfold ofConst
  split
  · rename_i cs
    refine .agg (by simp) fun k hk => rep_ofCells cs k hk
  · exact rep_ofCell _

/-! ### 2. Runs -/
section
variable {P : Program} {w : World}

theorem r_under {t : TypeId} {d : TypeDesc} (h : P.underlying t = some d) : (underlying t).run P w = .ok d w := run_underlying h w
theorem r_info {t : TypeId} {i : TypeInfo} (h : P.info? t = some i) : (typeInfo t).run P w = .ok i w := run_typeInfo w h
theorem r_size {t : TypeId} {i : TypeInfo} (h : P.info? t = some i) : (sizeOf t).run P w = .ok i.size w := by
  unfold sizeOf
  simp only [Sem.run_bind, r_info h, Result.andThen_ok]
  rfl
theorem r_zero {t : TypeId} {i : TypeInfo} {z : Value} (h : P.info? t = some i) (hz : i.zero = some z) : (zeroValue t).run P w = .ok z w := by
  unfold zeroValue
  simp only [Sem.run_bind, r_info h, Result.andThen_ok, hz]
  rfl
theorem r_agg {t : TypeId} {d : TypeDesc} (h : P.underlying t = some d) : (isAgg t).run P w = .ok (aggD d) w := by
  unfold isAgg
  simp only [Sem.run_bind, r_under h, Result.andThen_ok]
  cases d <;> rfl

theorem add_eq (b o k : Nat) : (⟨b, o, none⟩ : Addr).add k = ⟨b, o + k, none⟩ := by
  unfold Addr.add
  split
  · rename_i h; subst h; rfl
  · rfl

theorem r_load {a : Addr} {x : Value} (h : w.cell? a = some x) : (load a).run P w = .ok x w := by
  simp [load, Sem.run, h]

theorem r_loadCells {b o n : Nat} {y : Nat → Value} (h : ∀ k, k < n → w.cell? ⟨b, o + k, none⟩ = some (y k)) :
    (loadCells ⟨b, o, none⟩ n).run P w = .ok ((Array.range n).map y) w := by
  have := run_loadCells (P := P) (w := w) ⟨b, o, none⟩ n y (fun j hj => by rw [add_eq]; exact h j hj)
  rw [this]
  congr 1
  apply Array.ext'
  simp [List.range_eq_range']

theorem r_loadVar_agg {t : TypeId} {i : TypeInfo} {d : TypeDesc} (hi : P.info? t = some i) (hd : P.underlying t = some d) (ha : aggD d = true) {b o : Nat} {y : Nat → Value}
    (h : ∀ k, k < i.size → w.cell? ⟨b, o + k, none⟩ = some (y k)) : (loadVar t ⟨b, o, none⟩).run P w = .ok (.agg ((Array.range i.size).map y)) w := by
  unfold loadVar
  simp only [Sem.run_bind, r_agg hd, Result.andThen_ok, ha, if_true, r_size hi, r_loadCells h]
  rfl
theorem r_loadVar_one {t : TypeId} {d : TypeDesc} (hd : P.underlying t = some d) (ha : aggD d = false) {a : Addr} {x : Value}
    (h : w.cell? a = some x) : (loadVar t a).run P w = .ok x w := by
  unfold loadVar
  simp only [Sem.run_bind, r_agg hd, Result.andThen_ok, ha, if_false, Bool.false_eq_true, r_load h]
end

/-! ### 3. Writing a row -/
def putRow (w : World) (blk : Nat) (c : Array Value) (T : TypeId) : World := { w with heap := w.heap.setIfInBounds blk (.cells c T (0, 0)) }

def setRange (c : Array Value) (off : Nat) : List Value → Array Value
  | [] => c
  | v :: vs => setRange (c.setIfInBounds off v) (off + 1) vs
def setR (l : List V) (off : Nat) : List V → List V
  | [] => l
  | v :: vs => setR (l.set off v) (off + 1) vs

@[simp] theorem setRange_size (vs : List Value) : ∀ (c : Array Value) (off : Nat), (setRange c off vs).size = c.size := by
  induction vs with
  | nil => intro c off; rfl
  | cons v vs ih => intro c off; rw [setRange, ih]; simp
@[simp] theorem setR_length (vs : List V) : ∀ (l : List V) (off : Nat), (setR l off vs).length = l.length := by
  induction vs with
  | nil => intro c off; rfl
  | cons v vs ih => intro c off; rw [setR, ih]; simp

theorem setRange_get (vs : List Value) : ∀ (c : Array Value) (off k : Nat), off + vs.length ≤ c.size →
    (setRange c off vs).getD k undef = if off ≤ k ∧ k < off + vs.length then vs.getD (k - off) undef else c.getD k undef := by
  induction vs with
  | nil => intro c off k h; rw [setRange, if_neg (by simp)]
  | cons v vs ih =>
    intro c off k h
    simp only [List.length_cons] at h ⊢
    rw [setRange, ih _ _ _ (by simp; omega)]
    by_cases e : k = off
    · subst e
      rw [if_neg (by omega), if_pos (by omega), getD_set_self (by omega), Nat.sub_self]
      rfl
    · rw [getD_set_ne' e]
      by_cases e2 : off + 1 ≤ k ∧ k < off + 1 + vs.length
      · rw [if_pos e2, if_pos (by omega)]
        obtain ⟨j, rfl⟩ : ∃ j, k = off + 1 + j := ⟨k - (off + 1), by omega⟩
        rw [show off + 1 + j - (off + 1) = j by omega, show off + 1 + j - off = j + 1 by omega]
        rfl
      · rw [if_neg e2, if_neg (by omega)]

theorem setR_get (vs : List V) : ∀ (c : List V) (off k : Nat), off + vs.length ≤ c.length →
    (setR c off vs).getD k .junk = if off ≤ k ∧ k < off + vs.length then vs.getD (k - off) .junk else c.getD k .junk := by
  induction vs with
  | nil => intro c off k h; rw [setR, if_neg (by simp)]
  | cons v vs ih =>
    intro c off k h
    simp only [List.length_cons] at h ⊢
    rw [setR, ih _ _ _ (by simp; omega)]
    by_cases e : k = off
    · subst e
      rw [if_neg (by omega), if_pos (by omega)]
      simp [List.getD_eq_getElem?_getD, show k < c.length by omega]
    · by_cases e2 : off + 1 ≤ k ∧ k < off + 1 + vs.length
      · rw [if_pos e2, if_pos (by omega)]
        obtain ⟨j, rfl⟩ : ∃ j, k = off + 1 + j := ⟨k - (off + 1), by omega⟩
        rw [show off + 1 + j - (off + 1) = j by omega, show off + 1 + j - off = j + 1 by omega]
        rfl
      · rw [if_neg e2, if_neg (by omega)]
        simp [List.getD_eq_getElem?_getD, List.getElem?_set, Ne.symm e]

theorem putRow_self {w : World} {blk : Nat} {c : Array Value} {T : TypeId} (h : w.heap[blk]? = some (.cells c T (0, 0))) : putRow w blk c T = w := by
  unfold putRow
  have : w.heap.setIfInBounds blk (.cells c T (0, 0)) = w.heap := by
    apply Array.ext_getElem?
    intro i
    by_cases e : i = blk
    · subst e
      rw [h]
      simp [lt_of_heap h]
    · rw [Array.getElem?_setIfInBounds_ne (Ne.symm e)]
  rw [this]

theorem putRow_putRow (w : World) (blk : Nat) (c c' : Array Value) (T : TypeId) : putRow (putRow w blk c T) blk c' T = putRow w blk c' T := by
  simp [putRow]

theorem putRow_heap {w : World} {blk : Nat} (c : Array Value) (T : TypeId) (h : blk < w.heap.size) : (putRow w blk c T).heap[blk]? = some (.cells c T (0, 0)) := by
  simp [putRow, h]

theorem setCell_row {w : World} {blk : Nat} {c : Array Value} {T : TypeId} (h : w.heap[blk]? = some (.cells c T (0, 0))) (o : Nat) (v : Value) :
    w.setCell ⟨blk, o, none⟩ v = putRow w blk (c.setIfInBounds o v) T := by
  unfold World.setCell putRow
  congr 1
  apply Array.ext_getElem?
  intro i
  by_cases e : i = blk
  · subst e
    have hb := lt_of_heap h
    have hc : w.heap[i] = .cells c T (0, 0) := by
      have := Array.getElem?_eq_getElem hb
      rw [this] at h
      exact Option.some.inj h
    rw [Array.getElem?_modify, if_pos rfl, h]
    simp [hb]
  · rw [Array.getElem?_setIfInBounds_ne (Ne.symm e), Array.getElem?_modify, if_neg (Ne.symm e)]

def oneV : Value → Bool
  | .agg _ | .tuple _ => false
  | _ => true

theorem r_store {P : Program} {w : World} {blk o : Nat} {c : Array Value} {T : TypeId} {v : Value} (h : w.heap[blk]? = some (.cells c T (0, 0))) (ho : o < c.size) (hv : oneV v = true) :
    (store ⟨blk, o, none⟩ v).run P w = .ok () (putRow w blk (c.setIfInBounds o v) T) := by
  have hc : w.cell? ⟨blk, o, none⟩ = some c[o] := by simp [World.cell?, h, ho]
  have hf : w.frozen? ⟨blk, o, none⟩ = false := by simp [World.frozen?, h]
  rw [← setCell_row h]
  cases v <;> first
    | (simp [oneV] at hv; done)
    | simp [store, Sem.run, hc, hf]

theorem r_storeCells {P : Program} {blk : Nat} {T : TypeId} (vs : List Value) : ∀ (w : World) (c : Array Value) (off i : Nat), w.heap[blk]? = some (.cells c T (0, 0)) → off + i + vs.length ≤ c.size →
    (∀ v ∈ vs, oneV v = true) → (storeCells ⟨blk, off, none⟩ vs i).run P w = .ok () (putRow w blk (setRange c (off + i) vs) T) := by
  induction vs with
  | nil =>
    intro w c off i h hl hv
    rw [setRange, putRow_self h]
    rfl
  | cons v vs ih =>
    intro w c off i h hl hv
    simp only [List.length_cons] at hl
    have h1 := r_store (P := P) (o := off + i) h (by omega) (hv v (by simp))
    unfold storeCells
    simp only [Sem.run_bind, add_eq, h1, Result.andThen_ok]
    rw [ih _ (c.setIfInBounds (off + i) v) off (i + 1) (putRow_heap _ _ (lt_of_heap h)) (by simp; omega) (fun u hu => hv u (by simp [hu])), putRow_putRow]
    rfl

/-! ### 4. What Rep says of a value of a given form -/
section
variable {F : Nat → Prop} {w : World} {env : Env} {D : Nat → Prop} {x : Value}
theorem Rep.int_inv {k : IntKind} {n : Int} (h : Rep F w env D x (.i k n)) : x = .int k n ∧ k.min ≤ n ∧ n ≤ k.max := by
  cases h with
  | i h => exact ⟨rfl, h⟩
theorem Rep.b_inv {c : Bool} (h : Rep F w env D x (.b c)) : x = .bool c := by cases h; rfl
theorem Rep.s_inv {s : ByteArray} (h : Rep F w env D x (.s s)) : x = .string s ∧ s.size < 2 ^ 62 := by
  cases h with
  | s h => exact ⟨rfl, h⟩
theorem Rep.agg_inv {cs : List V} (h : Rep F w env D x (.agg cs)) : ∃ xs, x = .agg xs ∧ xs.size = cs.length ∧ ∀ k, k < cs.length → Rep F w env D (xs.getD k undef) (cs.getD k .junk) := by
  cases h with
  | agg h1 h2 => exact ⟨_, rfl, h1, h2⟩
theorem Rep.tup_inv {cs : List V} (h : Rep F w env D x (.tup cs)) : ∃ xs, x = .tuple xs ∧ xs.size = cs.length ∧ ∀ k, k < cs.length → Rep F w env D (xs.getD k undef) (cs.getD k .junk) := by
  cases h with
  | tup h1 h2 => exact ⟨_, rfl, h1, h2⟩
theorem Rep.ptr_inv {h off : Nat} (hh : Rep F w env D x (.ptr h off)) : ∃ blk, x = .pointer (some ⟨blk, off, none⟩) ∧ env h = some blk ∧ D h := by
  cases hh with
  | ptr h1 h2 => exact ⟨_, rfl, h2, h1⟩
end

def V.isJunk : V → Bool
  | .junk => true
  | _ => false
/-- One cell bears it. -/
def V.flat : V → Bool
  | .junk | .agg _ | .tup _ => false
  | _ => true

theorem Rep.flat_one {F : Nat → Prop} {w : World} {env : Env} {D : Nat → Prop} {x : Value} {v : V} (h : Rep F w env D x v) (hf : v.flat = true) : oneV x = true := by
  cases h <;> first | rfl | (simp [V.flat] at hf)

theorem Rep.cells {F : Nat → Prop} {w : World} {env : Env} {D : Nat → Prop} {x : Value} {v : V} (h : Rep F w env D x v) (hj : v.isJunk = false) :
    x.cells.size = v.cells.length ∧ ∀ k, k < v.cells.length → Rep F w env D (x.cells.getD k undef) (v.cells.getD k .junk) := by
  cases h with
  | junk => simp [V.isJunk] at hj
  | agg h1 h2 => exact ⟨h1, h2⟩
  | b => exact ⟨rfl, fun k hk => by simp [V.cells] at hk; subst hk; exact .b⟩
  | i h => exact ⟨rfl, fun k hk => by simp [V.cells] at hk; subst hk; exact .i h⟩
  | s h => exact ⟨rfl, fun k hk => by simp [V.cells] at hk; subst hk; exact .s h⟩
  | nl => exact ⟨rfl, fun k hk => by simp [V.cells] at hk; subst hk; exact .nl⟩
  | sl0 => exact ⟨rfl, fun k hk => by simp [V.cells] at hk; subst hk; exact .sl0⟩
  | sl y a1 a2 a3 a4 a5 a6 a7 a8 => exact ⟨rfl, fun k hk => by simp [V.cells] at hk; subst hk; exact .sl y a1 a2 a3 a4 a5 a6 a7 a8⟩
  | tup h1 h2 => exact ⟨rfl, fun k hk => by simp [V.cells] at hk; subst hk; exact .tup h1 h2⟩
  | ptr h1 h2 => exact ⟨rfl, fun k hk => by simp [V.cells] at hk; subst hk; exact .ptr h1 h2⟩
  | rp y a1 a2 a3 a4 => exact ⟨rfl, fun k hk => by simp [V.cells] at hk; subst hk; exact .rp y a1 a2 a3 a4⟩
  | own a1 a2 a3 a4 a5 => exact ⟨rfl, fun k hk => by simp [V.cells] at hk; subst hk; exact .own a1 a2 a3 a4 a5⟩
  | own0 a1 => exact ⟨rfl, fun k hk => by simp [V.cells] at hk; subst hk; exact .own0 a1⟩
  | fn h1 h2 => exact ⟨rfl, fun k hk => by simp [V.cells] at hk; subst hk; exact .fn h1 h2⟩

/-! ### 5. Effects -/
inductive Eff where
  | val (v : V)
  | rd (h : Nat) (k : Row → Option V)
  | new (r : Row) (mk : Nat → V)
  | wr (h : Nat) (k : Row → Option (Row × V))
  | wr2 (h h2 : Nat) (k : Row → Row → Option (Row × V))
  | grow (h : Nat) (k : Row → Option Row) (mk : Nat → V)
  | grow2 (h h2 : Nat) (k : Row → Row → Option Row) (mk : Nat → V)
  | new2 (h2 : Nat) (k : Row → Option Row) (mk : Nat → V)

def Eff.run (n : Nat) (hp : Nat → Option Row) : Eff → Option (V × (Nat → Option Row) × Bool)
  | .val v => some (v, hp, false)
  | .rd h k => match hp h with
    | some r => match k r with
      | some v => some (v, hp, false)
      | none => none
    | none => none
  | .new r mk => some (mk n, upd hp n (some r), true)
  | .wr h k => match hp h with
    | some r => match k r with
      | some (r', v) => some (v, upd hp h (some r'), false)
      | none => none
    | none => none
  | .wr2 h h2 k => match hp h, hp h2 with
    | some r, some r2 => match k r r2 with
      | some (r', v) => some (v, upd hp h (some r'), false)
      | none => none
    | _, _ => none
  | .grow h k mk => match hp h with
    | some r => match k r with
      | some r' => some (mk n, upd (upd hp h none) n (some r'), true)
      | none => none
    | none => none
  | .grow2 h h2 k mk => match hp h, hp h2 with
    | some r, some r2 => match k r r2 with
      | some r' => some (mk n, upd (upd hp h none) n (some r'), true)
      | none => none
    | _, _ => none
  | .new2 h2 k mk => match hp h2 with
    | some r2 => match k r2 with
      | some r' => some (mk n, upd hp n (some r'), true)
      | none => none
    | none => none

def DD (D : Nat → Prop) (n : Nat) (used : Bool) : Nat → Prop := fun m => D m ∨ (used = true ∧ m = n)

/-- The operands' values. -/
def Vals (C : Ctx) (env : Env) (hp : Nat → Option Row) (D : Nat → Prop) (a : Act) (w : World) (op : Op) (vs : List V) : Prop :=
  vs.length = op.operands.size ∧ ∀ j, j < vs.length → Rep (Fd C env hp) w env D (a.eval (op.operands.getD j (.const undef))) (vs.getD j .junk)

/-- The effect is what the model's run comes to. -/
def Good (P : Program) (op : Op) (ty : TypeId) (vs : List V) (e : Eff) : Prop :=
  ∀ (C : Ctx) (env : Env) (fr : Nat → Option V) (hp : Nat → Option Row) (D : Nat → Prop) (a : Act) (w : World), Sim C env fr hp D a w → Vals C env hp D a w op vs →
  ∀ n, ¬ D n → ∀ v hp' used, e.run n hp = some (v, hp', used) →
  ∃ (env' : Env) (w' : World) (nx : Next) (x : Value), (execOp a.eval ⟨none, op, ty, "", #[], none⟩).run P w = .ok nx w' ∧ Sim C env' fr hp' (DD D n used) a w' ∧
    Rep (Fd C env' hp') w' env' (DD D n used) x v ∧ (nx = .value x ∨ (nx = .skip ∧ x = undef))

theorem dd_false (D : Nat → Prop) (n : Nat) : DD D n false = D := by funext m; simp [DD]
theorem dd_true (D : Nat → Prop) (n : Nat) : DD D n true = fun m => D m ∨ m = n := by funext m; simp [DD]

/-- An operation that only computes. -/
theorem Good.pure {P : Program} {op : Op} {ty : TypeId} {vs : List V} {v : V}
    (h : ∀ (F : Nat → Prop) (env : Env) (D : Nat → Prop) (a : Act) (w : World), vs.length = op.operands.size → (∀ j, j < vs.length → Rep F w env D (a.eval (op.operands.getD j (.const undef))) (vs.getD j .junk)) →
      ∃ x, (execOp a.eval ⟨none, op, ty, "", #[], none⟩).run P w = .ok (.value x) w ∧ Rep F w env D x v) : Good P op ty vs (.val v) := by
  intro C env fr hp D a w hs hv n hn v' hp' used he
  simp only [Eff.run, Option.some.injEq, Prod.mk.injEq] at he
  obtain ⟨rfl, rfl, rfl⟩ := he
  obtain ⟨x, hx, hr⟩ := h (Fd C env hp) env D a w hv.1 hv.2
  rw [dd_false]
  exact ⟨env, w, _, x, hx, hs, hr, .inl rfl⟩

end Go.Proofs.Ytepkjfnffbdcoaa.Lift

/- The operations that only compute: their effects, and that the model's runs come to them. -/
set_option linter.unusedVariables false
set_option linter.unusedSimpArgs false
namespace Go.Proofs.Ytepkjfnffbdcoaa.Lift
open Go

theorem wrap_range (k : IntKind) (n : Int) : k.min ≤ k.wrap n ∧ k.wrap n ≤ k.max := by
  cases k <;> simp [IntKind.wrap, IntKind.min, IntKind.max, IntKind.bits, IntKind.signed] <;> (try split) <;> omega

theorem tmod_range {k : IntKind} {x y : Int} (h : k.min ≤ x ∧ x ≤ k.max) : k.min ≤ x.tmod y ∧ x.tmod y ≤ k.max := by
  have h0 : k.min ≤ 0 ∧ 0 ≤ k.max := by cases k <;> simp [IntKind.min, IntKind.max, IntKind.bits, IntKind.signed]
  have ha : (x.tmod y).natAbs ≤ x.natAbs := by rw [Int.natAbs_tmod]; exact Nat.mod_le _ _
  by_cases hx : x < 0
  · have : x.tmod y ≤ 0 := by
      have h1 : (-x).tmod y = -(x.tmod y) := Int.neg_tmod ..
      have h2 : 0 ≤ (-x).tmod y := Int.tmod_nonneg _ (by omega)
      omega
    omega
  · have : 0 ≤ x.tmod y := Int.tmod_nonneg _ (by omega)
    omega

theorem fdiv_range {k : IntKind} {x : Int} (n : Nat) (h : k.min ≤ x ∧ x ≤ k.max) : k.min ≤ x.fdiv (2 ^ n) ∧ x.fdiv (2 ^ n) ≤ k.max := by
  have h0 : k.min ≤ 0 ∧ 0 ≤ k.max := by cases k <;> simp [IntKind.min, IntKind.max, IntKind.bits, IntKind.signed]
  have hp : (1 : Int) ≤ 2 ^ n := by have := Nat.two_pow_pos n; exact_mod_cast this
  rw [Int.fdiv_eq_ediv_of_nonneg _ (by omega)]
  by_cases hx : x < 0
  · have h1 : x / 2 ^ n < 0 := Int.ediv_neg_of_neg_of_pos hx (by omega)
    have h2 : x ≤ x / 2 ^ n := by
      rw [Int.le_ediv_iff_mul_le (by omega)]
      have : x * 2 ^ n ≤ x * 1 := Int.mul_le_mul_of_nonpos_left (by omega) hp
      omega
    omega
  · have h1 : 0 ≤ x / 2 ^ n := Int.ediv_nonneg (by omega) (by omega)
    have h2 : x / 2 ^ n ≤ x := Int.ediv_le_self _ (by omega)
    omega

section
variable {P : Program} {w w' : World}
theorem run_value {s : Sem Value} {x : Value} (h : s.run P w = .ok x w') : (do pure (Next.value (← s)) : Sem Next).run P w = .ok (.value x) w' := by
  simp only [Sem.run_bind, h, Result.andThen_ok]
  rfl
theorem run_skip {s : Sem Unit} (h : s.run P w = .ok () w') : (do s; pure Next.skip : Sem Next).run P w = .ok .skip w' := by
  simp only [Sem.run_bind, h, Result.andThen_ok]
  rfl
end

/-! ### move, assign, pick -/
def effMove : List V → Option Eff
  | [v] => some (.val v)
  | _ => none

theorem good_move {P : Program} {x : Operand} {ty : TypeId} {vs : List V} {e : Eff} (h : effMove vs = some e) : Good P (.move x) ty vs e := by
  unfold effMove at h
  split at h
  · cases h
    exact Good.pure fun F env D a w hl hr => ⟨_, rfl, hr 0 (by simp)⟩
  · cases h
theorem good_assign {P : Program} {x : Operand} {ty : TypeId} {vs : List V} {e : Eff} (h : effMove vs = some e) : Good P (.assign x) ty vs e := by
  unfold effMove at h
  split at h
  · cases h
    exact Good.pure fun F env D a w hl hr => ⟨_, rfl, hr 0 (by simp)⟩
  · cases h

def effPick : List V → Option Eff
  | [.b c, u, v] => some (.val (if c = true then u else v))
  | _ => none
theorem good_pick {P : Program} {x y z : Operand} {ty : TypeId} {vs : List V} {e : Eff} (h : effPick vs = some e) : Good P (.pick x y z) ty vs e := by
  unfold effPick at h
  split at h
  · rename_i c u v
    cases h
    refine Good.pure fun F env D a w hl hr => ?_
    have h0 := (hr 0 (by simp)).b_inv
    simp only [Op.operands] at h0
    have h0' : a.eval x = .bool c := h0
    refine ⟨if c = true then a.eval y else a.eval z, ?_, ?_⟩
    · simp only [execOp, Sem.run_bind, h0', asBool]
      rfl
    · cases c
      · exact hr 2 (by simp)
      · exact hr 1 (by simp)
  · cases h

/-! ### Binary operators -/
def orI (k : IntKind) (a b : Int) : Int := ((BitVec.ofInt k.bits a ||| BitVec.ofInt k.bits b).toNat)
def andI (k : IntKind) (a b : Int) : Int := ((BitVec.ofInt k.bits a &&& BitVec.ofInt k.bits b).toNat)
def xorI (k : IntKind) (a b : Int) : Int := ((BitVec.ofInt k.bits a ^^^ BitVec.ofInt k.bits b).toNat)
def binInt (op : BinOp) (k : IntKind) (a b : Int) : Option V :=
  match op with
  | .add => some (.i k (k.wrap (a + b)))
  | .sub => some (.i k (k.wrap (a - b)))
  | .mul => some (.i k (k.wrap (a * b)))
  | .quo => if b = 0 then none else some (.i k (k.wrap (a.tdiv b)))
  | .rem => if b = 0 then none else some (.i k (a.tmod b))
  | .and => some (.i k (k.wrap (andI k a b)))
  | .or => some (.i k (k.wrap (orI k a b)))
  | .xor => some (.i k (k.wrap (xorI k a b)))
  | .eql => some (.b (decide (a = b)))
  | .neq => some (.b (!decide (a = b)))
  | .lss => some (.b (decide (a < b)))
  | .leq => some (.b (decide (a ≤ b)))
  | .gtr => some (.b (decide (b < a)))
  | .geq => some (.b (decide (b ≤ a)))
  | _ => none

def binStr (op : BinOp) (x y : ByteArray) : Option V :=
  match op with
  | .add => if x.size + y.size < 2 ^ 62 then some (.s (x ++ y)) else none
  | .eql => some (.b (x.toList == y.toList))
  | .neq => some (.b (!(x.toList == y.toList)))
  | _ => none

def binBool (op : BinOp) (x y : Bool) : Option V :=
  match op with
  | .eql => some (.b (x == y))
  | .neq => some (.b (!(x == y)))
  | _ => none

def binNil (op : BinOp) (c : Bool) : Option V :=
  match op with
  | .eql => some (.b c)
  | .neq => some (.b (!c))
  | _ => none

def binV (P : Program) (op : BinOp) (xt : TypeId) (u v : V) : Option V :=
  match u, v with
  | .i k a, .i k' b =>
    match op with
    | .shl => if b < 0 then none else some (.i k (k.wrap (a * 2 ^ (min b.toNat k.bits))))
    | .shr => if b < 0 then none else some (.i k (a.fdiv (2 ^ (min b.toNat k.bits))))
    | op => if k = k' then binInt op k a b else none
  | .s x, .s y => binStr op x y
  | .b x, .b y => match P.underlying xt with
    | some .bool => binBool op x y
    | _ => none
  | .nl, .nl => match P.underlying xt with
    | some (.slice _) => binNil op true
    | _ => none
  | .sl (_ :: _), .nl => match P.underlying xt with
    | some (.slice _) => binNil op false
    | _ => none
  | .own _ _ (_ + 1) _, .nl => match P.underlying xt with
    | some (.slice _) => binNil op false
    | _ => none
  | _, _ => none

def effBin (P : Program) (op : BinOp) (xt : TypeId) : List V → Option Eff
  | [u, v] => match binV P op xt u v with
    | some r => some (.val r)
    | none => none
  | _ => none

theorem run_guard {P : Program} {w : World} {op : BinOp} {t : TypeId} {x y : Operand} {a b : Value} (h : (match a with | .agg _ | .nilIface => False | _ => True)) : (eqGuard op t x y a b).run P w = .ok () w := by
  unfold eqGuard
  cases op <;> cases a <;> first | rfl | (exact h.elim)

theorem run_bin {P : Program} {w : World} {a : Act} {op : BinOp} {xt yt ty : TypeId} {x y : Operand} {r : Value}
    (hg : (match a.eval x with | .agg _ | .nilIface => False | _ => True)) (h : (binOp op xt (a.eval x) (a.eval y)).run P w = .ok r w) :
    (execOp a.eval ⟨none, .binOp op xt x y yt, ty, "", #[], none⟩).run P w = .ok (.value r) w := by
  have := run_value (P := P) (w := w) (w' := w) (s := (do eqGuard op xt x y (a.eval x) (a.eval y); binOp op xt (a.eval x) (a.eval y))) (x := r) (by
    simp only [Sem.run_bind, run_guard hg, Result.andThen_ok, h])
  exact this

theorem good_binInt {P : Program} {w : World} {op : BinOp} {xt : TypeId} {k : IntKind} {m n : Int} {r : V} (hm : k.min ≤ m ∧ m ≤ k.max) (h : binInt op k m n = some r) {F : Nat → Prop} {env : Env} {D : Nat → Prop} :
    ∃ x, (binOp op xt (.int k m) (.int k n)).run P w = .ok x w ∧ Rep F w env D x r := by
  cases op <;> simp only [binInt] at h
  case quo =>
    split at h
    · cases h
    · rename_i hn
      cases h
      exact ⟨_, by simp [binOp, Op.intDiv, hn] <;> rfl, .i (wrap_range ..)⟩
  case rem =>
    split at h
    · cases h
    · rename_i hn
      cases h
      exact ⟨_, by simp [binOp, Op.intDiv, hn] <;> rfl, .i (tmod_range hm)⟩
  all_goals first
    | (cases h; done)
    | (cases h; exact ⟨_, by simp [binOp, Op.intArith] <;> rfl, .i (wrap_range ..)⟩)
    | (cases h; exact ⟨_, by simp [binOp, Op.intBits] <;> rfl, .i (wrap_range ..)⟩)
    | (cases h; exact ⟨_, by simp [binOp, Op.intCmp] <;> rfl, .b⟩)

theorem equal_unfold (t : TypeId) (x y : Value) : Op.equal t x y = Op.equalIn (9999 + 1) t x y := rfl
theorem run_equalB {P : Program} {w : World} {t : TypeId} (hu : P.underlying t = some .bool) (a b : Bool) : (Op.equal t (.bool a) (.bool b)).run P w = .ok (a == b) w := by
  rw [equal_unfold, Op.equalIn]
  simp only [Sem.run_bind, r_under hu, Result.andThen_ok]
  rfl
theorem run_eqB {P : Program} {w : World} {t : TypeId} (hu : P.underlying t = some .bool) (a b : Bool) : (binOp .eql t (.bool a) (.bool b)).run P w = .ok (.bool (a == b)) w := by
  show (do pure (Value.bool (← Op.equal t (.bool a) (.bool b))) : Sem Value).run P w = _
  simp only [Sem.run_bind, run_equalB hu, Result.andThen_ok]
  rfl
theorem run_neB {P : Program} {w : World} {t : TypeId} (hu : P.underlying t = some .bool) (a b : Bool) : (binOp .neq t (.bool a) (.bool b)).run P w = .ok (.bool (!(a == b))) w := by
  show (do pure (Value.bool (!(← Op.equal t (.bool a) (.bool b)))) : Sem Value).run P w = _
  simp only [Sem.run_bind, run_equalB hu, Result.andThen_ok]
  rfl
theorem run_equalNN {P : Program} {w : World} {t el : TypeId} (hu : P.underlying t = some (.slice el)) : (Op.equal t (.slice none 0 0) (.slice none 0 0)).run P w = .ok true w := by
  rw [equal_unfold, Op.equalIn]
  simp only [Sem.run_bind, r_under hu, Result.andThen_ok]
  rfl
theorem run_eqNN {P : Program} {w : World} {t el : TypeId} (hu : P.underlying t = some (.slice el)) : (binOp .eql t (.slice none 0 0) (.slice none 0 0)).run P w = .ok (.bool true) w := by
  show (do pure (Value.bool (← Op.equal t (.slice none 0 0) (.slice none 0 0))) : Sem Value).run P w = _
  simp only [Sem.run_bind, run_equalNN hu, Result.andThen_ok]
  rfl
theorem run_neNN {P : Program} {w : World} {t el : TypeId} (hu : P.underlying t = some (.slice el)) : (binOp .neq t (.slice none 0 0) (.slice none 0 0)).run P w = .ok (.bool (!true)) w := by
  show (do pure (Value.bool (!(← Op.equal t (.slice none 0 0) (.slice none 0 0)))) : Sem Value).run P w = _
  simp only [Sem.run_bind, run_equalNN hu, Result.andThen_ok]
  rfl
theorem run_equalSN {P : Program} {w : World} {t el : TypeId} (hu : P.underlying t = some (.slice el)) (a : Addr) (m c : Nat) : (Op.equal t (.slice (some a) m c) (.slice none 0 0)).run P w = .ok false w := by
  rw [equal_unfold, Op.equalIn]
  simp only [Sem.run_bind, r_under hu, Result.andThen_ok]
  rfl
theorem run_eqSN {P : Program} {w : World} {t el : TypeId} (hu : P.underlying t = some (.slice el)) (a : Addr) (m c : Nat) : (binOp .eql t (.slice (some a) m c) (.slice none 0 0)).run P w = .ok (.bool false) w := by
  show (do pure (Value.bool (← Op.equal t (.slice (some a) m c) (.slice none 0 0))) : Sem Value).run P w = _
  simp only [Sem.run_bind, run_equalSN hu, Result.andThen_ok]
  rfl
theorem run_neSN {P : Program} {w : World} {t el : TypeId} (hu : P.underlying t = some (.slice el)) (a : Addr) (m c : Nat) : (binOp .neq t (.slice (some a) m c) (.slice none 0 0)).run P w = .ok (.bool (!false)) w := by
  show (do pure (Value.bool (!(← Op.equal t (.slice (some a) m c) (.slice none 0 0)))) : Sem Value).run P w = _
  simp only [Sem.run_bind, run_equalSN hu, Result.andThen_ok]
  rfl

theorem good_bin {P : Program} {op : BinOp} {xt yt ty : TypeId} {x y : Operand} {vs : List V} {e : Eff} (h : effBin P op xt vs = some e) : Good P (.binOp op xt x y yt) ty vs e := by
  unfold effBin at h
  split at h
  · rename_i u v
    split at h
    · rename_i r hr
      cases h
      refine Good.pure fun F env D a w hl hv => ?_
      have h0 : Rep F w env D (a.eval x) u := hv 0 (by simp)
      have h1 : Rep F w env D (a.eval y) v := hv 1 (by simp)
      clear hv hl
      suffices hs : (match a.eval x with | .agg _ | .nilIface => False | _ => True) ∧ ∃ z, (binOp op xt (a.eval x) (a.eval y)).run P w = .ok z w ∧ Rep F w env D z r by
        obtain ⟨hg, z, hz, hr⟩ := hs
        exact ⟨z, run_bin hg hz, hr⟩
      unfold binV at hr
      split at hr
      · obtain ⟨e0, r0⟩ := h0.int_inv
        obtain ⟨e1, r1⟩ := h1.int_inv
        rw [e0, e1]
        refine ⟨trivial, ?_⟩
        split at hr
        · split at hr
          · cases hr
          · rename_i hb
            cases hr
            exact ⟨_, by simp [binOp, Op.shift, hb] <;> rfl, .i (wrap_range ..)⟩
        · split at hr
          · cases hr
          · rename_i hb
            cases hr
            exact ⟨_, by simp [binOp, Op.shift, hb] <;> rfl, .i (fdiv_range _ r0)⟩
        · split at hr
          · rename_i hk
            subst hk
            exact good_binInt r0 hr
          · cases hr
      · obtain ⟨e0, r0⟩ := h0.s_inv
        obtain ⟨e1, r1⟩ := h1.s_inv
        rw [e0, e1]
        refine ⟨trivial, ?_⟩
        cases op <;> simp only [binStr] at hr
        case add =>
          split at hr
          · rename_i hb
            cases hr
            refine ⟨_, ?_, .s (by simpa using hb)⟩
            simp only [binOp, Op.stringOp]
            rw [if_neg (by simp [IntKind.max, IntKind.bits, IntKind.signed]; omega)]
            rfl
          · cases hr
        all_goals first
          | (cases hr; done)
          | (cases hr; exact ⟨_, by simp [binOp, Op.stringOp] <;> rfl, .b⟩)
      · have e0 := h0.b_inv
        have e1 := h1.b_inv
        rw [e0, e1]
        refine ⟨trivial, ?_⟩
        split at hr
        · rename_i hu
          cases op <;> simp only [binBool] at hr <;> first
            | (cases hr; done)
            | (cases hr; exact ⟨_, by first | exact run_eqB hu _ _ | exact run_neB hu _ _ | exact run_eqNN hu | exact run_neNN hu | exact run_eqSN hu _ _ _ | exact run_neSN hu _ _ _, .b⟩)
        · cases hr
      · generalize a.eval x = X at h0 ⊢
        generalize a.eval y = Y at h1 ⊢
        cases h0 with
        | nl =>
          cases h1 with
          | nl =>
            refine ⟨trivial, ?_⟩
            split at hr
            · rename_i hu
              cases op <;> simp only [binNil] at hr <;> first
                | (cases hr; done)
                | (cases hr; exact ⟨_, by first | exact run_eqB hu _ _ | exact run_neB hu _ _ | exact run_eqNN hu | exact run_neNN hu | exact run_eqSN hu _ _ _ | exact run_neSN hu _ _ _, .b⟩)
            · cases hr
      · rename_i e es
        generalize a.eval x = X at h0 ⊢
        generalize a.eval y = Y at h1 ⊢
        cases h1 with
        | nl =>
          cases h0 with
          | sl y hne hc hl hF hb hE hy hrr =>
            refine ⟨trivial, ?_⟩
            split at hr
            · rename_i hu
              cases op <;> simp only [binNil] at hr <;> first
                | (cases hr; done)
                | (cases hr; exact ⟨_, by first | exact run_eqB hu _ _ | exact run_neB hu _ _ | exact run_eqNN hu | exact run_neNN hu | exact run_eqSN hu _ _ _ | exact run_neSN hu _ _ _, .b⟩)
            · cases hr
      · generalize a.eval x = X at h0 ⊢
        generalize a.eval y = Y at h1 ⊢
        cases h1 with
        | nl =>
          cases h0 with
          | own a1 a2 a3 a4 a5 =>
            refine ⟨trivial, ?_⟩
            split at hr
            · rename_i hu
              cases op <;> simp only [binNil] at hr <;> first
                | (cases hr; done)
                | (cases hr; exact ⟨_, by first | exact run_eqB hu _ _ | exact run_neB hu _ _ | exact run_eqNN hu | exact run_neNN hu | exact run_eqSN hu _ _ _ | exact run_neSN hu _ _ _, .b⟩)
            · cases hr
      · cases hr
    · cases h
  · cases h

/-! ### Unary operators, conversions between whole numbers -/
def effUn (op : UnOp) : List V → Option Eff
  | [.b x] => match op with
    | .not => some (.val (.b (!x)))
    | _ => none
  | [.i k n] => match op with
    | .neg => some (.val (.i k (k.wrap (0 - n))))
    | _ => none
  | _ => none
theorem good_un {P : Program} {op : UnOp} {t ty : TypeId} {x : Operand} {vs : List V} {e : Eff} (h : effUn op vs = some e) : Good P (.unOp op t x) ty vs e := by
  unfold effUn at h
  split at h
  · rename_i c
    split at h
    · cases h
      refine Good.pure fun F env D a w hl hv => ?_
      have h0 : a.eval x = .bool c := (hv 0 (by simp)).b_inv
      exact ⟨.bool (!c), by simp only [execOp, h0, Op.unary]; rfl, .b⟩
    · cases h
  · rename_i k n
    split at h
    · cases h
      refine Good.pure fun F env D a w hl hv => ?_
      have h0 : a.eval x = .int k n := (hv 0 (by simp)).int_inv.1
      exact ⟨_, by simp only [execOp, h0, Op.unary, Op.intArith]; rfl, .i (wrap_range ..)⟩
    · cases h
  · cases h

def effConv (P : Program) (s d : TypeId) : List V → Option Eff
  | [.i k n] => match P.underlying s, P.underlying d with
    | some (.int _), some (.int k') => some (.val (.i k' (k'.wrap n)))
    | _, _ => none
  | _ => none
theorem good_conv {P : Program} {s d ty : TypeId} {x : Operand} {vs : List V} {e : Eff} (h : effConv P s d vs = some e) : Good P (.convert s d x) ty vs e := by
  unfold effConv at h
  split at h
  · rename_i k n
    split at h
    · rename_i j k' hs hd
      cases h
      refine Good.pure fun F env D a w hl hv => ?_
      have h0 : a.eval x = .int k n := (hv 0 (by simp)).int_inv.1
      refine ⟨.int k' (k'.wrap n), ?_, .i (wrap_range ..)⟩
      have : (convert s d (.int k n)).run P w = .ok (.int k' (k'.wrap n)) w := by
        unfold convert
        simp only [Sem.run_bind, r_under hs, r_under hd, Result.andThen_ok]
        rfl
      simp only [execOp, h0]
      exact run_value this
    · cases h
  · cases h

/-! ### extract, makeFunc, len, min, max -/
def effExtract (ix : Nat) : List V → Option Eff
  | [.tup vs] => if ix < vs.length then some (.val (vs.getD ix .junk)) else none
  | _ => none
theorem good_extract {P : Program} {ix : Nat} {ty : TypeId} {x : Operand} {vs : List V} {e : Eff} (h : effExtract ix vs = some e) : Good P (.extract x ix) ty vs e := by
  unfold effExtract at h
  split at h
  · rename_i us
    split at h
    · rename_i hlt
      cases h
      refine Good.pure fun F env D a w hl hv => ?_
      have h0 : Rep F w env D (a.eval x) (.tup us) := hv 0 (by simp)
      obtain ⟨xs, e0, hsz, hr⟩ := h0.tup_inv
      refine ⟨xs.getD ix undef, ?_, hr ix hlt⟩
      have : xs[ix]? = some (xs.getD ix undef) := by simp [Array.getD_eq_getD_getElem?, hsz, hlt]
      simp only [execOp, e0]
      exact run_value (by simp only [Instr.extract, this]; rfl)
    · cases h
  · cases h

def effMakeFunc (fn : Fn) (nf : Nat) (vs : List V) : Option Eff :=
  match fn, nf with
  | .func f, 0 => some (.val (.fn f vs))
  | _, _ => none
theorem good_makeFunc {P : Program} {fn : Fn} {first captured : Array Operand} {ty : TypeId} {vs : List V} {e : Eff} (h : effMakeFunc fn first.size vs = some e) : Good P (.makeFunc fn first captured) ty vs e := by
  unfold effMakeFunc at h
  split at h
  · rename_i f hf
    cases h
    have hemp : first = #[] := by simpa using hf
    subst hemp
    refine Good.pure fun F env D a w hl hv => ?_
    simp only [Op.operands, Array.empty_append] at hl hv
    refine ⟨.func (.func f) #[] (captured.map a.eval), ?_, ?_⟩
    · have e0 : (Array.map a.eval #[] : Array Value) = #[] := by simp
      simp only [execOp, Instr.makeFunc, e0]
      rfl
    · refine .fn (by simp [hl]) fun k hk => ?_
      have := hv k hk
      have e1 : (captured.map a.eval).getD k undef = a.eval (captured.getD k (.const undef)) := by
        simp [Array.getD_eq_getD_getElem?, show k < captured.size by omega]
      rw [e1]
      exact this
  · cases h

def lenV : V → Option Int
  | .nl => some 0
  | .sl els => some els.length
  | .own _ _ n _ => some n
  | .s x => some x.size
  | _ => none
def effLen (P : Program) (t : TypeId) : List V → Option Eff
  | [v] => match P.underlying t, v with
    | some .string, .s x => some (.val (.i .i64 x.size))
    | some (.slice _), .s _ => none
    | some (.slice _), v => match lenV v with
      | some n => some (.val (.i .i64 n))
      | none => none
    | _, _ => none
  | _ => none
theorem i64_small {n : Nat} (h : n < 2 ^ 62) : IntKind.i64.min ≤ (n : Int) ∧ (n : Int) ≤ IntKind.i64.max := by
  simp [IntKind.min, IntKind.max, IntKind.bits, IntKind.signed]
  omega
theorem good_len {P : Program} {t ty : TypeId} {ats : Array TypeId} {x : Operand} {vs : List V} {e : Eff} (ht : ats[0]? = some t) (h : effLen P t vs = some e) : Good P (.call ⟨.builtin .len, #[x], ats⟩) ty vs e := by
  unfold effLen at h
  split at h
  · rename_i v
    suffices hs : ∃ n, e = .val (.i .i64 n) ∧ ∀ (F : Nat → Prop) (env : Env) (D : Nat → Prop) (a : Act) (w : World), Rep F w env D (a.eval x) v → (IntKind.i64.min ≤ n ∧ n ≤ IntKind.i64.max) ∧ (Builtin.len_ ats ty #[a.eval x]).run P w = .ok (.int .i64 n) w by
      obtain ⟨n, rfl, hs⟩ := hs
      refine Good.pure fun F env D a w hl hv => ?_
      obtain ⟨h1, h2⟩ := hs F env D a w (hv 0 (by simp))
      refine ⟨.int .i64 n, ?_, .i h1⟩
      have : (execOp a.eval ⟨none, .call ⟨.builtin .len, #[x], ats⟩, ty, "", #[], none⟩) = (do pure (Next.value (← Builtin.len_ ats ty #[a.eval x])) : Sem Next) := by
        simp only [execOp, resolve, invoke, builtin, List.map_toArray, List.map_cons, List.map_nil]
        rfl
      rw [this]
      exact run_value h2
    split at h
    · rename_i s hu
      cases h
      refine ⟨s.size, rfl, fun F env D a w hr => ?_⟩
      obtain ⟨e0, hs⟩ := hr.s_inv
      refine ⟨i64_small hs, ?_⟩
      simp only [Builtin.len_, ht, e0, Sem.run_bind, r_under hu, Result.andThen_ok, List.getElem?_toArray, List.getElem?_cons_zero]
      rfl
    · cases h
    · rename_i el hu hns
      split at h
      · rename_i n hn
        cases h
        refine ⟨n, rfl, fun F env D a w hr => ?_⟩
        generalize a.eval x = X at hr ⊢
        have key : ∀ (A : Option Addr) (m c : Nat), m < 2 ^ 62 → n = (m : Int) → X = .slice A m c → (IntKind.i64.min ≤ n ∧ n ≤ IntKind.i64.max) ∧ (Builtin.len_ ats ty #[X]).run P w = .ok (.int .i64 n) w := by
          rintro A m c hm rfl rfl
          refine ⟨i64_small hm, ?_⟩
          simp only [Builtin.len_, ht, Sem.run_bind, r_under hu, Result.andThen_ok, List.getElem?_toArray, List.getElem?_cons_zero]
          rfl
        unfold lenV at hn
        split at hn
        · cases hn; cases hr with
          | nl => exact key none 0 0 (by omega) rfl rfl
        · cases hn; cases hr with
          | sl0 => exact key _ 0 _ (by omega) rfl rfl
          | sl y hne hc hl hF hb hE hy hrr => exact key _ _ _ hl rfl rfl
        · cases hn; cases hr with
          | own a1 a2 a3 a4 a5 => exact key _ _ _ a4 rfl rfl
          | own0 a1 => exact key none 0 0 (by omega) rfl rfl
        · exact absurd rfl (hns _)
        · cases hn
      · cases h
    · cases h
  · cases h

end Go.Proofs.Ytepkjfnffbdcoaa.Lift

/- The operations on memory but append and copy: their effects, and that the model's runs come to them. -/
set_option linter.unusedVariables false
set_option linter.unusedSimpArgs false
namespace Go.Proofs.Ytepkjfnffbdcoaa.Lift
open Go

/-! ### Reading rows -/
theorem cell_row {w : World} {blk o : Nat} {c : Array Value} {T : TypeId} {z : Nat × Nat} (h : w.heap[blk]? = some (.cells c T z)) (ho : o < c.size) : w.cell? ⟨blk, o, none⟩ = some (c.getD o undef) := by
  simp [World.cell?, h, Array.getD_eq_getD_getElem?, ho]

theorem range_map_getD (y : Nat → Value) {n k : Nat} (h : k < n) : ((Array.range n).map y).getD k undef = y k := by
  simp [Array.getD_eq_getD_getElem?, h]

def readAt (L : Lay) (cs : List V) (off : Nat) : Option V :=
  if L.agg = true then (if off + L.size ≤ cs.length then some (.agg ((cs.drop off).take L.size)) else none)
  else (if off < cs.length then some (cs.getD off .junk) else none)

theorem good_readAt {P : Program} {t : TypeId} {L : Lay} (hL : lay P t = some L) {F : Nat → Prop} {w : World} {env : Env} {D : Nat → Prop} {cs : List V} {off o blk : Nat} {v : V} (h : readAt L cs off = some v)
    {y : Nat → Value} (hy : ∀ k, k < cs.length → w.cell? ⟨blk, o + k, none⟩ = some (y k)) (hr : ∀ k, k < cs.length → Rep F w env D (y k) (cs.getD k .junk)) :
    ∃ x, (loadVar t ⟨blk, o + off, none⟩).run P w = .ok x w ∧ Rep F w env D x v := by
  obtain ⟨i, d, z, hi, hd, hz, rfl⟩ := lay_inv hL
  unfold readAt at h
  simp only at h
  split at h
  · rename_i ha
    split at h
    · rename_i hle
      cases h
      refine ⟨_, r_loadVar_agg hi hd ha (y := fun k => y (off + k)) (fun k hk => by rw [Nat.add_assoc]; exact hy _ (by omega)), ?_⟩
      refine .agg (by simp; omega) fun k hk => ?_
      have hk' : k < i.size := by simp at hk; omega
      rw [range_map_getD _ hk']
      have : ((cs.drop off).take i.size).getD k .junk = cs.getD (off + k) .junk := by
        simp [List.getD_eq_getElem?_getD, List.getElem?_take, hk']
      rw [this]
      exact hr _ (by omega)
    · cases h
  · rename_i ha
    split at h
    · rename_i hlt
      cases h
      exact ⟨_, r_loadVar_one hd (by simpa using ha) (hy _ hlt), hr _ hlt⟩
    · cases h

theorem good_loadRow {C : Ctx} {env : Env} {fr : Nat → Option V} {hp : Nat → Option Row} {D : Nat → Prop} {a : Act} {w : World} (hs : Sim C env fr hp D a w) {h blk : Nat} {r : Row} (hr : hp h = some r) (he : env h = some blk) :
    ∃ c, w.heap[blk]? = some (.cells c r.T (0, 0)) ∧ r.cells.length ≤ c.size ∧ ∀ k, k < r.cells.length → Rep (Fd C env hp) w env D (c.getD k undef) (r.cells.getD k .junk) := by
  rcases (hs.row h r hr).2 with ⟨blk', c, he', hw, hl, hc⟩ | ⟨he', _⟩
  · rw [he] at he'; cases he'; exact ⟨c, hw, hl, hc⟩
  · rw [he] at he'; cases he'

/-! ### load -/
def effLoad (P : Program) (t : TypeId) : List V → Option Eff
  | [.ptr h off] => match lay P t with
    | some L => some (.rd h fun r => readAt L r.cells off)
    | none => none
  | [.rp cs] => match lay P t with
    | some L => match readAt L cs 0 with
      | some v => some (.val v)
      | none => none
    | none => none
  | _ => none

theorem good_load {P : Program} {t ty : TypeId} {x : Operand} {vs : List V} {e : Eff} (h : effLoad P t vs = some e) : Good P (.load t x) ty vs e := by
  unfold effLoad at h
  split at h
  · rename_i n off
    split at h
    · rename_i L hL
      cases h
      intro C env fr hp D a w hs hv m hm v hp' used he
      simp only [Eff.run] at he
      split at he
      · rename_i r hr
        split at he
        · rename_i u hu
          cases he
          obtain ⟨blk, e0, he', hD⟩ := (show Rep _ w env D (a.eval x) (.ptr n off) from hv.2 0 (by simp)).ptr_inv
          obtain ⟨c, hw, hl, hc⟩ := good_loadRow hs hr he'
          obtain ⟨z, hz, hzr⟩ := good_readAt (P := P) hL (o := 0) (blk := blk) hu (fun k hk => by rw [Nat.zero_add]; exact cell_row hw (by omega)) hc
          rw [Nat.zero_add] at hz
          rw [dd_false]
          refine ⟨env, w, _, z, ?_, hs, hzr, .inl rfl⟩
          simp only [execOp, e0]
          exact run_value hz
        · cases he
      · cases he
    · cases h
  · rename_i cs
    split at h
    · rename_i L hL
      split at h
      · rename_i v hv
        cases h
        refine Good.pure fun F env D a w hl hr => ?_
        have h0 : Rep F w env D (a.eval x) (.rp cs) := hr 0 (by simp)
        generalize hX : a.eval x = X at h0
        cases h0 with
        | rp y hF hb hy hrr =>
          rename_i blk off
          obtain ⟨z, hz, hzr⟩ := good_readAt (P := P) hL (o := off) (blk := blk) hv hy (fun k hk => (hrr k hk).mono (fun b _ hF => ⟨hF, rfl⟩) (fun _ c _ _ h => ⟨c, rfl, h⟩) (Nat.le_refl _) (fun _ f => f.elim))
          refine ⟨z, ?_, hzr⟩
          simp only [execOp, hX]
          exact run_value hz
      · cases h
    · cases h
  · cases h

/-! ### store -/
def effStore (P : Program) (t : TypeId) : List V → Option Eff
  | [.ptr h off, v] => match lay P t with
    | some L => if v.isJunk = false ∧ v.cells.length = L.size ∧ v.cells.all V.flat = true then
        some (.wr h fun r => if off + L.size ≤ r.cells.length then some (⟨r.T, setR r.cells off v.cells⟩, .junk) else none) else none
    | none => none
  | _ => none

theorem good_store {P : Program} {t ty : TypeId} {x y : Operand} {vs : List V} {e : Eff} (h : effStore P t vs = some e) : Good P (.store t x y) ty vs e := by
  unfold effStore at h
  split at h
  · rename_i n off v
    split at h
    · rename_i L hL
      split at h
      · rename_i hcond
        obtain ⟨hj, hlen, hflat⟩ := hcond
        cases h
        intro C env fr hp D a w hs hv m hm v' hp' used he
        simp only [Eff.run] at he
        split at he
        · rename_i r hr
          split at he
          · rename_i r' v'' hk
            cases he
            split at hk
            · rename_i hle
              cases hk
              obtain ⟨blk, e0, he', hD⟩ := (show Rep _ w env D (a.eval x) (.ptr n off) from hv.2 0 (by simp)).ptr_inv
              have h1 : Rep (Fd C env hp) w env D (a.eval y) v := hv.2 1 (by simp)
              obtain ⟨hcs, hcr⟩ := h1.cells hj
              obtain ⟨c, hw, hl, hc⟩ := good_loadRow hs hr he'
              obtain ⟨i, d, z, hi, hd, hz, rfl⟩ := lay_inv hL
              simp only at hlen hle
              have hlist : (a.eval y).cells.toList.length = v.cells.length := by simpa using hcs
              have hone : ∀ u ∈ (a.eval y).cells.toList, oneV u = true := by
                intro u hu
                obtain ⟨k, hk, rfl⟩ := List.getElem_of_mem hu
                have := hcr k (by omega)
                have hf : (v.cells.getD k .junk).flat = true := by
                  rw [List.all_eq_true] at hflat
                  refine hflat _ ?_
                  rw [List.getD_eq_getElem?_getD, List.getElem?_eq_getElem (show k < v.cells.length by omega)]
                  exact List.getElem_mem _
                have h2 := this.flat_one hf
                have h3 : (a.eval y).cells.getD k undef = (a.eval y).cells.toList[k] := by
                  rw [← getD_toList, List.getD_eq_getElem?_getD, List.getElem?_eq_getElem hk]
                  rfl
                rw [h3] at h2
                exact h2
              have hrun := r_storeCells (P := P) (a.eval y).cells.toList w c off 0 hw (by omega) hone
              rw [Nat.add_zero] at hrun
              have hst : (storeVar t ⟨blk, off, none⟩ (a.eval y)).run P w = .ok () (putRow w blk (setRange c off (a.eval y).cells.toList) r.T) := by
                unfold storeVar
                simp only [Sem.run_bind, r_size hi, Result.andThen_ok]
                rw [if_neg (by simp; omega)]
                exact hrun
              rw [dd_false]
              have hsz := setRange_size (a.eval y).cells.toList c off
              refine ⟨env, _, .skip, undef, ?_, hs.write hr he' hw rfl hsz rfl (by simp only [setR_length]; rw [hsz]; exact hl) ?_, .junk, .inr ⟨rfl, rfl⟩⟩
              · simp only [execOp, e0]
                exact run_skip hst
              · intro k hk
                simp only [setR_length] at hk
                show Rep _ _ _ _ _ ((setR r.cells off v.cells).getD k .junk)
                rw [setRange_get _ _ _ _ (by omega), setR_get _ _ _ _ (by omega), hlist]
                by_cases hin : off ≤ k ∧ k < off + v.cells.length
                · rw [if_pos hin, if_pos hin, getD_toList]
                  exact hcr _ (by omega)
                · rw [if_neg hin, if_neg hin]
                  exact hc _ hk
            · cases hk
          · cases he
        · cases he
      · cases h
    · cases h
  · cases h

/-! ### alloc, box -/
theorem good_new {P : Program} {op : Op} {ty : TypeId} {vs : List V} {r : Row} {mk : Nat → V}
    (H : ∀ (C : Ctx) (env : Env) (fr : Nat → Option V) (hp : Nat → Option Row) (D : Nat → Prop) (a : Act) (w : World), Sim C env fr hp D a w → Vals C env hp D a w op vs →
      ∃ (c : Array Value) (x : Value) (w1 : World), Step (fun _ => False) w w1 ∧ w1.heap = w.heap ∧ (execOp a.eval ⟨none, op, ty, "", #[], none⟩).run P w = .ok (.value x) { w1 with heap := w1.heap.push (.cells c r.T) } ∧
        r.cells.length ≤ c.size ∧ (∀ k, k < r.cells.length → Rep (Fd C env hp) w env D (c.getD k undef) (r.cells.getD k .junk)) ∧
        ∀ n (F : Nat → Prop) (env' : Env) (D' : Nat → Prop), D' n → env' n = some w.heap.size → Rep F { w1 with heap := w1.heap.push (.cells c r.T) } env' D' x (mk n)) : Good P op ty vs (.new r mk) := by
  intro C env fr hp D a w hs hv n hn v hp' used he
  simp only [Eff.run, Option.some.injEq, Prod.mk.injEq] at he
  obtain ⟨rfl, rfl, rfl⟩ := he
  obtain ⟨c, x, w1, hst, hheap, hrun, hl, hc, hx⟩ := H C env fr hp D a w hs hv
  have hs1 := hs.world hst
  have hn1 := hs1.new hn hl (fun k hk => (hc k hk).world hst)
  rw [dd_true]
  rw [hheap] at hn1
  refine ⟨_, _, _, x, hrun, by rw [hheap]; exact hn1, ?_, .inl rfl⟩
  exact hx n _ _ _ (.inr rfl) (by rw [upd_same])

def effAlloc (P : Program) (t : TypeId) : List V → Option Eff
  | [] => match lay P t with
    | some L => some (.new ⟨t, L.zero⟩ (fun n => .ptr n 0))
    | none => none
  | _ => none
theorem good_alloc {P : Program} {t ty : TypeId} {vs : List V} {e : Eff} (h : effAlloc P t vs = some e) : Good P (.alloc t) ty vs e := by
  unfold effAlloc at h
  split at h
  · split at h
    · rename_i L hL
      cases h
      obtain ⟨i, d, z, hi, hd, hz, rfl⟩ := lay_inv hL
      refine good_new fun C env fr hp D a w hs hv => ?_
      refine ⟨z.cells, .pointer (some ⟨w.heap.size, 0, none⟩), w, Step.refl _ _, rfl, ?_, by simp, fun k hk => rep_ofCells _ k hk, fun n F env' D' hD he => .ptr hD he⟩
      have : (Instr.alloc t true (.tuple #[])).run P w = .ok (.pointer (some ⟨w.heap.size, 0, none⟩)) { w with heap := w.heap.push (.cells z.cells t) } := by
        unfold Instr.alloc
        simp only [Sem.run_bind, r_zero hi hz, Result.andThen_ok]
        rfl
      exact run_value this
    · cases h
  · cases h

def effBox (t : TypeId) : List V → Option Eff
  | [v] => if v.isJunk = false then some (.new ⟨t, v.cells⟩ (fun n => .ptr n 0)) else none
  | _ => none
theorem good_box {P : Program} {t ty : TypeId} {x : Operand} {vs : List V} {e : Eff} (h : effBox t vs = some e) : Good P (.box t x) ty vs e := by
  unfold effBox at h
  split at h
  · rename_i v
    split at h
    · rename_i hj
      cases h
      refine good_new fun C env fr hp D a w hs hv => ?_
      have h0 : Rep (Fd C env hp) w env D (a.eval x) v := hv.2 0 (by simp)
      obtain ⟨hcs, hcr⟩ := h0.cells hj
      exact ⟨(a.eval x).cells, .pointer (some ⟨w.heap.size, 0, none⟩), w, Step.refl _ _, rfl, rfl, by simp [hcs], hcr, fun n F env' D' hD he => .ptr hD he⟩
    · cases h
  · cases h

/-! ### build: structs and arrays by value -/
def fillV (place : Nat → Option (Nat × Nat)) : List V → List (Nat × V) → Option (List V)
  | cells, [] => some cells
  | cells, (i, v) :: rest => match place i with
    | none => none
    | some (off, size) => if v.isJunk = false ∧ v.cells.length = size ∧ off + v.cells.length ≤ cells.length then fillV place (setR cells off v.cells) rest else none

theorem fold_setRange (vs : List Value) : ∀ (c : Array Value) (off j : Nat), ((vs.zipIdx j).foldl (fun cs (p : Value × Nat) => cs.setIfInBounds (off + p.2) p.1) c) = setRange c (off + j) vs := by
  induction vs with
  | nil => intro c off j; rfl
  | cons v vs ih =>
    intro c off j
    simp only [List.zipIdx_cons, List.foldl_cons, setRange]
    rw [ih]
    rfl

theorem good_fill {F : Nat → Prop} {w : World} {env : Env} {D : Nat → Prop} (place : Nat → Option (Nat × Nat)) : ∀ (ps : List (Nat × V)) (qs : List (Nat × Value)) (cells : List V) (c : Array Value) (r : List V),
    fillV place cells ps = some r → ps.length = qs.length → (∀ k, k < ps.length → (ps.getD k (0, .junk)).1 = (qs.getD k (0, undef)).1 ∧ Rep F w env D (qs.getD k (0, undef)).2 (ps.getD k (0, .junk)).2) →
    c.size = cells.length → (∀ k, k < cells.length → Rep F w env D (c.getD k undef) (cells.getD k .junk)) →
    ∃ c', Instr.fill place c qs = some c' ∧ c'.size = r.length ∧ ∀ k, k < r.length → Rep F w env D (c'.getD k undef) (r.getD k .junk) := by
  intro ps
  induction ps with
  | nil =>
    intro qs cells c r h hl hp hc hr
    have : qs = [] := List.eq_nil_of_length_eq_zero hl.symm
    subst this
    simp only [fillV, Option.some.injEq] at h
    subst h
    exact ⟨c, rfl, hc, hr⟩
  | cons p ps ih =>
    intro qs cells c r h hl hp hc hr
    cases qs with
    | nil => simp at hl
    | cons q qs =>
      obtain ⟨i, v⟩ := p
      obtain ⟨j, x⟩ := q
      have h0 := hp 0 (by simp)
      simp only [List.getD_cons_zero] at h0
      obtain ⟨rfl, hx⟩ := h0
      simp only [fillV] at h
      split at h
      · cases h
      · rename_i off size hpl
        split at h
        · rename_i hcond
          obtain ⟨hj, hsz, hle⟩ := hcond
          obtain ⟨hcs, hcr⟩ := hx.cells hj
          have hlist : x.cells.toList.length = v.cells.length := by simpa using hcs
          obtain ⟨c', h1, h2, h3⟩ := ih qs (setR cells off v.cells) (setRange c off x.cells.toList) r h (by simpa using hl)
            (fun k hk => by have := hp (k + 1) (by simpa using hk); simpa only [List.getD_cons_succ] using this) (by simp [hc]) (by
              intro k hk
              simp only [setR_length] at hk
              rw [setRange_get _ _ _ _ (by omega), setR_get _ _ _ _ (by omega), hlist]
              by_cases hin : off ≤ k ∧ k < off + v.cells.length
              · rw [if_pos hin, if_pos hin, getD_toList]
                exact hcr _ (by omega)
              · rw [if_neg hin, if_neg hin]
                exact hr _ hk)
          refine ⟨c', ?_, h2, h3⟩
          unfold Instr.fill
          simp only [hpl]
          rw [if_neg (by simp; omega)]
          have : x.cells.zipIdx.foldl (fun cs (c, j) => cs.setIfInBounds (off + j) c) c = setRange c off x.cells.toList := by
            rw [← Array.foldl_toList, Array.toList_zipIdx]
            exact fold_setRange _ _ _ _
          rw [this]
          exact h1
        · cases h

def placesOf (P : Program) (t : TypeId) : Option (Nat → Option (Nat × Nat)) :=
  match P.underlying t with
  | some (.array _ e) => match P.info? e with
    | some ie => some fun i => some (i * ie.size, ie.size)
    | none => none
  | some (.struct fields) => match fields.toList.mapM (fun f => (P.info? f.type).map fun i => (f.offset, i.size)) with
    | some places => some (places.toArray[·]?)
    | none => none
  | _ => none

def effBuild (P : Program) (t : TypeId) (ixs : List Nat) (vs : List V) : Option Eff :=
  match lay P t, placesOf P t with
  | some L, some pl => match fillV pl L.zero (ixs.zip vs) with
    | some r => some (.val (.agg r))
    | none => none
  | _, _ => none

theorem parts_rep {F : Nat → Prop} {w : World} {env : Env} {D : Nat → Prop} {a : Act} {parts : Array (Nat × Operand)} {vs : List V} (hl : vs.length = (parts.toList.map (·.2)).toArray.size)
    (hr : ∀ j, j < vs.length → Rep F w env D (a.eval ((parts.toList.map (·.2)).toArray.getD j (.const undef))) (vs.getD j .junk)) :
    ((parts.toList.map (·.1)).zip vs).length = (parts.map fun (i, x) => (i, a.eval x)).toList.length ∧
    ∀ k, k < ((parts.toList.map (·.1)).zip vs).length → (((parts.toList.map (·.1)).zip vs).getD k (0, .junk)).1 = ((parts.map fun (i, x) => (i, a.eval x)).toList.getD k (0, undef)).1 ∧
      Rep F w env D ((parts.map fun (i, x) => (i, a.eval x)).toList.getD k (0, undef)).2 (((parts.toList.map (·.1)).zip vs).getD k (0, .junk)).2 := by
  have hl' : vs.length = parts.size := by simpa using hl
  refine ⟨by simp [hl'], fun k hk => ?_⟩
  have hk' : k < parts.size := by simp at hk; omega
  have hkv : k < vs.length := by omega
  have h1 := hr k hkv
  have e1 : (parts.toList.map (·.2)).toArray.getD k (.const undef) = parts[k].2 := by
    simp [Array.getD_eq_getD_getElem?, hk']
  have e2 : ((parts.map fun (i, x) => (i, a.eval x)).toList.getD k (0, undef)) = (parts[k].1, a.eval parts[k].2) := by
    simp [List.getD_eq_getElem?_getD, hk']
  have e3 : (((parts.toList.map (·.1)).zip vs).getD k (0, .junk)) = (parts[k].1, vs.getD k .junk) := by
    simp [List.getD_eq_getElem?_getD, List.getElem?_zip_eq_some, hk', hkv, List.zip, List.getElem?_zipWith]
  rw [e1] at h1
  rw [e2, e3]
  exact ⟨rfl, h1⟩

theorem good_build {P : Program} {t ty : TypeId} {parts : Array (Nat × Operand)} {vs : List V} {e : Eff} (h : effBuild P t (parts.toList.map (·.1)) vs = some e) : Good P (.build t parts) ty vs e := by
  unfold effBuild at h
  split at h
  · rename_i L pl hL hpl
    split at h
    · rename_i r hf
      cases h
      obtain ⟨i, d, z, hi, hd, hz, rfl⟩ := lay_inv hL
      refine Good.pure fun F env D a w hl hr => ?_
      obtain ⟨p1, p2⟩ := parts_rep (a := a) hl hr
      obtain ⟨c', hc1, hc2, hc3⟩ := good_fill pl _ _ _ z.cells _ hf p1 p2 (by simp) (fun k hk => rep_ofCells _ k hk)
      have hb : P.built t (parts.map fun (i, x) => (i, a.eval x)).toList = some c' := by
        unfold Program.built
        unfold placesOf at hpl
        split at hpl
        · rename_i n e he
          split at hpl
          · rename_i ie hie
            cases hpl
            simp only [hi, he, hz, hie]
            exact hc1
          · cases hpl
        · rename_i fields he
          split at hpl
          · rename_i places hp
            cases hpl
            simp only [hi, he, hz, hp]
            exact hc1
          · cases hpl
        · cases hpl
      exact ⟨.agg c', run_value (run_build w t _ _ hb), .agg hc2 hc3⟩
    · cases h
  · cases h

/-! ### buildSlice, makeSlice -/
def zerosV (n : Nat) (z : List V) : List V := (List.replicate n z).flatten
theorem zerosV_one (n : Nat) (z : V) : zerosV n [z] = List.replicate n z := by
  unfold zerosV
  induction n with
  | zero => rfl
  | succ n ih => rw [List.replicate_succ, List.flatten_cons, ih]; rfl
theorem zerosV_length (n : Nat) (z : List V) : (zerosV n z).length = n * z.length := by
  simp [zerosV]
theorem zerosV_get (z : List V) : ∀ (n k : Nat), k < n * z.length → (zerosV n z).getD k .junk = z.getD (k % z.length) .junk := by
  intro n
  induction n with
  | zero => intro k hk; simp at hk
  | succ n ih =>
    intro k hk
    have e : zerosV (n + 1) z = z ++ zerosV n z := by simp [zerosV, List.replicate_succ]
    rw [e]
    rw [Nat.succ_mul] at hk
    by_cases hlt : k < z.length
    · rw [Nat.mod_eq_of_lt hlt]
      simp [List.getD_eq_getElem?_getD, List.getElem?_append_left hlt]
    · have := ih (k - z.length) (by omega)
      rw [List.getD_eq_getElem?_getD, List.getElem?_append_right (by omega), ← List.getD_eq_getElem?_getD, this]
      congr 1
      rw [Nat.mod_eq_sub_mod (a := k) (by omega)]

theorem zeros_rep {F : Nat → Prop} {w : World} {env : Env} {D : Nat → Prop} (z : Array Value) (n s : Nat) (hs : s = z.size) : ∀ k, k < (zerosV n (z.toList.map ofCell)).length → Rep F w env D (((Array.range (n * s)).map (z[· % z.size]!)).getD k undef) ((zerosV n (z.toList.map ofCell)).getD k .junk) := by
  subst hs
  intro k hk
  rw [zerosV_length] at hk
  rw [zerosV_get _ _ _ hk]
  simp only [List.length_map, Array.length_toList] at hk ⊢
  rw [range_map_getD _ hk]
  have hz : 0 < z.size := by
    rcases Nat.eq_zero_or_pos z.size with h | h
    · rw [h, Nat.mul_zero] at hk; omega
    · exact h
  have hlt : k % z.size < z.size := Nat.mod_lt _ hz
  rw [getD_map_ofCell _ (by simpa using hlt), getD_toList]
  have : z[k % z.size]! = z.getD (k % z.size) undef := by
    simp [Array.getD_eq_getD_getElem?, hlt]
  rw [this]
  exact rep_ofCell _

def effBuildSlice (P : Program) (t : TypeId) (len : Nat) (ixs : List Nat) (vs : List V) : Option Eff :=
  match P.underlying t with
  | some (.slice e) => match lay P e with
    | some L => if L.zero.length = L.size ∧ 0 < len * L.size ∧ len * L.size ≤ 2 ^ 24 then
        match fillV (fun i => some (i * L.size, L.size)) (zerosV len L.zero) (ixs.zip vs) with
        | some r => if r.length = len * L.size then some (.new ⟨e, r⟩ (fun n => .own n 0 len L.size)) else none
        | none => none
      else (if len = 0 ∧ ixs = [] ∧ 0 < L.size then some (.new ⟨e, []⟩ (fun n => .own n 0 0 L.size)) else none)
    | none => none
  | _ => none

theorem run_buildSlice0 {P : Program} (w : World) {t e : TypeId} {ie : TypeInfo} (hu : P.underlying t = some (.slice e)) (hie : P.info? e = some ie) {ps : Array (Nat × Value)} (hps : ps = #[]) :
    (Instr.buildSlice t 0 ps).run P w = .ok (.slice (some ⟨w.heap.size, 0, none⟩) 0 0) (w.alloc (.cells #[] e)) := by
  subst hps
  have hf : ∀ f : Nat → Value, Instr.fill (fun i => some (i * ie.size, ie.size)) (Array.map f (Array.range 0)) [] = some #[] := fun f => by rw [show Array.range 0 = #[] from rfl]; simp [Instr.fill]
  simp [Instr.buildSlice, run_underlying hu, sizeOf, typeInfo, hie, newRow, hf]
theorem good_buildSlice {P : Program} {t ty : TypeId} {len : Nat} {parts : Array (Nat × Operand)} {vs : List V} {e : Eff} (h : effBuildSlice P t len (parts.toList.map (·.1)) vs = some e) : Good P (.buildSlice t len parts) ty vs e := by
  unfold effBuildSlice at h
  split at h
  · rename_i el hu
    split at h
    · rename_i L hL
      split at h
      · rename_i hcond
        obtain ⟨hz1, hz2, hz3⟩ := hcond
        split at h
        · rename_i r hf
          split at h
          · rename_i hrl
            cases h
            obtain ⟨i, d, z, hi, hd, hz, rfl⟩ := lay_inv hL
            simp only at hz1 hz2 hz3 hrl hf
            have hzs : i.size = z.cells.size := by simpa using hz1.symm
            refine good_new fun C env fr hp D a w hs hv => ?_
            obtain ⟨p1, p2⟩ := parts_rep (a := a) hv.1 hv.2
            obtain ⟨c', hc1, hc2, hc3⟩ := good_fill _ _ _ _ ((Array.range (len * i.size)).map (z.cells[· % z.cells.size]!)) _ hf p1 p2 (by simp [zerosV_length, hzs]) (zeros_rep z.cells len i.size hzs)
            refine ⟨c', .slice (some ⟨w.heap.size, 0, none⟩) len len, w, Step.refl _ _, rfl, ?_, by simp [hc2], hc3, fun n F env' D' hD he => ?_⟩
            · exact run_value (run_buildSlice w t el len _ c' i z hu hi hz (by omega) (by omega) hc1)
            · refine .own hD he (Nat.le_refl _) ?_ ⟨c', el, (0, 0), by simp, by show 0 + len * i.size ≤ c'.size; rw [hc2, hrl]; omega⟩
              have : len ≤ len * i.size := Nat.le_mul_of_pos_right _ (Nat.pos_of_mul_pos_left hz2)
              omega
          · cases h
        · cases h
      · split at h
        · rename_i hcond
          obtain ⟨rfl, hix, hpos⟩ := hcond
          cases h
          have hpe : parts = #[] := by simpa using hix
          subst hpe
          obtain ⟨i, d, z, hi, hd, hz, rfl⟩ := lay_inv hL
          refine good_new fun C env fr hp D a w hs hv => ?_
          refine ⟨#[], .slice (some ⟨w.heap.size, 0, none⟩) 0 0, w, Step.refl _ _, rfl, ?_, by simp, by simp, fun n F env' D' hD he => ?_⟩
          · exact run_value (run_buildSlice0 w hu hi (by simp))
          · exact .own hD he (Nat.le_refl _) (by omega) ⟨#[], el, (0, 0), by simp, by simp⟩
        · cases h
    · cases h
  · cases h

def effMakeSlice (P : Program) (t : TypeId) : List V → Option Eff
  | [.i _ l, .i _ c] => match P.underlying t with
    | some (.slice e) => match lay P e with
      | some L => if L.zero.length = L.size ∧ 0 ≤ l ∧ l ≤ c ∧ c ≤ 2 ^ 40 ∧ L.bytes ≤ 2 ^ 7 then
          some (.new ⟨e, zerosV l.toNat L.zero⟩ (fun n => .own n 0 l.toNat L.size)) else none
      | none => none
    | _ => none
  | _ => none

theorem good_makeSlice {P : Program} {t ty : TypeId} {x y : Operand} {vs : List V} {e : Eff} (h : effMakeSlice P t vs = some e) : Good P (.makeSlice t x y) ty vs e := by
  unfold effMakeSlice at h
  split at h
  · rename_i kl l kc c
    split at h
    · rename_i el hu
      split at h
      · rename_i L hL
        split at h
        · rename_i hcond
          obtain ⟨hz1, h0, hlc, hc30, hby⟩ := hcond
          cases h
          obtain ⟨i, d, z, hi, hd, hz, rfl⟩ := lay_inv hL
          simp only at hz1 hby
          have hzs : i.size = z.cells.size := by simpa using hz1.symm
          refine good_new fun C env fr hp D a w hs hv => ?_
          have e0 : a.eval x = .int kl l := (show Rep _ w env D (a.eval x) (.i kl l) from hv.2 0 (by simp)).int_inv.1
          have e1 : a.eval y = .int kc c := (show Rep _ w env D (a.eval y) (.i kc c) from hv.2 1 (by simp)).int_inv.1
          obtain ⟨C', rfl⟩ : ∃ C' : Nat, c = C' := ⟨c.toNat, by omega⟩
          obtain ⟨L', rfl⟩ : ∃ L' : Nat, l = L' := ⟨l.toNat, by omega⟩
          have hmul : i.bytes * C' ≤ 2 ^ 7 * 2 ^ 40 := Nat.mul_le_mul hby (by omega)
          have hrun := run_make (P := P) w t el i z hu hi hz kl kc (L' : Int) (C' : Int) h0 hlc (by rw [← Int.natCast_mul]; omega) (by omega)
          refine ⟨madeCells z.cells (C' * i.size), .slice (some ⟨w.heap.size, 0, none⟩) L' C', w, Step.refl _ _, rfl, ?_, ?_, ?_, fun n F env' D' hD he => ?_⟩
          · simp only [execOp, e0, e1]
            exact run_value hrun
          · simp only [zerosV_length, size_madeCells, Int.toNat_natCast, List.length_map, Array.length_toList, ← hzs]
            exact Nat.mul_le_mul_right _ (by omega)
          · intro k hk
            have hk1 : k < C' * i.size := by
              simp only [zerosV_length, Int.toNat_natCast, List.length_map, Array.length_toList, ← hzs] at hk
              exact Nat.lt_of_lt_of_le hk (Nat.mul_le_mul_right _ (by omega))
            have := zeros_rep (F := Fd C env hp) (w := w) (env := env) (D := D) z.cells L' i.size hzs k hk
            have hk2 : k < L' * i.size := by
              simpa only [zerosV_length, Int.toNat_natCast, List.length_map, Array.length_toList, ← hzs] using hk
            rw [range_map_getD _ hk2] at this
            unfold madeCells
            rw [range_map_getD _ hk1]
            exact this
          · exact .own hD he (by omega) (by simp; omega) ⟨_, el, (0, 0), by simp; rfl, by rw [size_madeCells]; show 0 + C' * i.size ≤ C' * i.size; omega⟩
        · cases h
      · cases h
    · cases h
  · cases h

end Go.Proofs.Ytepkjfnffbdcoaa.Lift
