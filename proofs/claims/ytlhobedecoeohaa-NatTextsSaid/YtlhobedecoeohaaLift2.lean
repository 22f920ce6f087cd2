/- What an operation does to an abstract state (Eff), and the runs of the model's own words that the soundness of each operation leans on. -/
import Derived.Test.YtlhobedecoeohaaLift1
import Derived.Laws.Cells
import Derived.Laws.Entries
import Derived.ChangeKeysEq
set_option linter.unusedVariables false
set_option linter.unusedSimpArgs false
namespace Go.Proofs.Ytlhobedecoeohaa.Lift
open Go

/-! ### 1. Types -/
structure Lay where
  size : Nat
  agg : Bool
  bytes : Nat
  zero : List V

def ofCell : Value → V
  | .bool b => .b b
  | .int k n => if k.min ≤ n ∧ n ≤ k.max then .i k n else .junk
  | .string s => if s.size < 2 ^ 62 then .s s else .junk
  | .slice none 0 0 => .nl
  | _ => .junk
def ofConst : Value → V
  | .agg cs => .agg (cs.toList.map ofCell)
  | v => ofCell v

def aggD : TypeDesc → Bool
  | .struct _ | .array _ _ => true
  | _ => false

def lay (P : Program) (t : TypeId) : Option Lay :=
  match P.info? t, P.underlying t with
  | some i, some d => match i.zero with
    | some z => some ⟨i.size, aggD d, i.bytes, z.cells.toList.map ofCell⟩
    | none => none
  | _, _ => none

theorem lay_inv {P : Program} {t : TypeId} {L : Lay} (h : lay P t = some L) : ∃ (i : TypeInfo) (d : TypeDesc) (z : Value), P.info? t = some i ∧ P.underlying t = some d ∧ i.zero = some z ∧ L = ⟨i.size, aggD d, i.bytes, z.cells.toList.map ofCell⟩ := by
  unfold lay at h
  split at h
  · rename_i i d hi hd
    split at h
    · rename_i z hz
      cases h
      exact ⟨i, d, z, hi, hd, hz, rfl⟩
    · cases h
  · cases h

theorem rep_ofCell {F : Nat → Prop} {w : World} {env : Env} {D : Nat → Prop} (x : Value) : Rep F w env D x (ofCell x) := by
  unfold ofCell
  split
  · exact .b
  · split
    · rename_i h; exact .i h
    · exact .junk
  · split
    · rename_i h; exact .s h
    · exact .junk
  · exact .nl
  · exact .junk

theorem getD_toList (xs : Array Value) (k : Nat) : xs.toList.getD k undef = xs.getD k undef := by
  simp [List.getD_eq_getElem?_getD, Array.getD_eq_getD_getElem?]

theorem getD_map_ofCell (l : List Value) {k : Nat} (hk : k < l.length) : (l.map ofCell).getD k .junk = ofCell (l.getD k undef) := by
  simp [List.getD_eq_getElem?_getD, hk]

theorem rep_ofCells {F : Nat → Prop} {w : World} {env : Env} {D : Nat → Prop} (xs : Array Value) (k : Nat) (hk : k < (xs.toList.map ofCell).length) : Rep F w env D (xs.getD k undef) ((xs.toList.map ofCell).getD k .junk) := by
  rw [getD_map_ofCell _ (by simpa using hk), getD_toList]
  exact rep_ofCell _

theorem rep_ofConst {F : Nat → Prop} {w : World} {env : Env} {D : Nat → Prop} (x : Value) : Rep F w env D x (ofConst x) := by
  unfold ofConst
  split
  · rename_i cs
    refine .agg (by simp) fun k hk => rep_ofCells cs k hk
  · exact rep_ofCell _

/-! ### 2. Runs -/
section
variable {P : Program} {w : World}

theorem r_under {t : TypeId} {d : TypeDesc} (h : P.underlying t = some d) : (underlying t).run P w = .ok d w := run_underlying h w
theorem r_info {t : TypeId} {i : TypeInfo} (h : P.info? t = some i) : (typeInfo t).run P w = .ok i w := run_typeInfo w h
theorem r_size {t : TypeId} {i : TypeInfo} (h : P.info? t = some i) : (sizeOf t).run P w = .ok i.size w := by
  unfold sizeOf
  simp only [Sem.run_bind, r_info h, Result.andThen_ok]
  rfl
theorem r_zero {t : TypeId} {i : TypeInfo} {z : Value} (h : P.info? t = some i) (hz : i.zero = some z) : (zeroValue t).run P w = .ok z w := by
  unfold zeroValue
  simp only [Sem.run_bind, r_info h, Result.andThen_ok, hz]
  rfl
theorem r_agg {t : TypeId} {d : TypeDesc} (h : P.underlying t = some d) : (isAgg t).run P w = .ok (aggD d) w := by
  unfold isAgg
  simp only [Sem.run_bind, r_under h, Result.andThen_ok]
  cases d <;> rfl

theorem add_eq (b o k : Nat) : (⟨b, o, none⟩ : Addr).add k = ⟨b, o + k, none⟩ := by
  unfold Addr.add
  split
  · rename_i h; subst h; rfl
  · rfl

theorem r_load {a : Addr} {x : Value} (h : w.cell? a = some x) : (load a).run P w = .ok x w := by
  simp [load, Sem.run, h]

theorem r_loadCells {b o n : Nat} {y : Nat → Value} (h : ∀ k, k < n → w.cell? ⟨b, o + k, none⟩ = some (y k)) :
    (loadCells ⟨b, o, none⟩ n).run P w = .ok ((Array.range n).map y) w := by
  have := run_loadCells (P := P) (w := w) ⟨b, o, none⟩ n y (fun j hj => by rw [add_eq]; exact h j hj)
  rw [this]
  congr 1
  apply Array.ext'
  simp [List.range_eq_range']

theorem r_loadVar_agg {t : TypeId} {i : TypeInfo} {d : TypeDesc} (hi : P.info? t = some i) (hd : P.underlying t = some d) (ha : aggD d = true) {b o : Nat} {y : Nat → Value}
    (h : ∀ k, k < i.size → w.cell? ⟨b, o + k, none⟩ = some (y k)) : (loadVar t ⟨b, o, none⟩).run P w = .ok (.agg ((Array.range i.size).map y)) w := by
  unfold loadVar
  simp only [Sem.run_bind, r_agg hd, Result.andThen_ok, ha, if_true, r_size hi, r_loadCells h]
  rfl
theorem r_loadVar_one {t : TypeId} {d : TypeDesc} (hd : P.underlying t = some d) (ha : aggD d = false) {a : Addr} {x : Value}
    (h : w.cell? a = some x) : (loadVar t a).run P w = .ok x w := by
  unfold loadVar
  simp only [Sem.run_bind, r_agg hd, Result.andThen_ok, ha, if_false, Bool.false_eq_true, r_load h]
end

/-! ### 3. Writing a row -/
def putRow (w : World) (blk : Nat) (c : Array Value) (T : TypeId) : World := { w with heap := w.heap.setIfInBounds blk (.cells c T (0, 0)) }

def setRange (c : Array Value) (off : Nat) : List Value → Array Value
  | [] => c
  | v :: vs => setRange (c.setIfInBounds off v) (off + 1) vs
def setR (l : List V) (off : Nat) : List V → List V
  | [] => l
  | v :: vs => setR (l.set off v) (off + 1) vs

@[simp] theorem setRange_size (vs : List Value) : ∀ (c : Array Value) (off : Nat), (setRange c off vs).size = c.size := by
  induction vs with
  | nil => intro c off; rfl
  | cons v vs ih => intro c off; rw [setRange, ih]; simp
@[simp] theorem setR_length (vs : List V) : ∀ (l : List V) (off : Nat), (setR l off vs).length = l.length := by
  induction vs with
  | nil => intro c off; rfl
  | cons v vs ih => intro c off; rw [setR, ih]; simp

theorem setRange_get (vs : List Value) : ∀ (c : Array Value) (off k : Nat), off + vs.length ≤ c.size →
    (setRange c off vs).getD k undef = if off ≤ k ∧ k < off + vs.length then vs.getD (k - off) undef else c.getD k undef := by
  induction vs with
  | nil => intro c off k h; rw [setRange, if_neg (by simp)]
  | cons v vs ih =>
    intro c off k h
    simp only [List.length_cons] at h ⊢
    rw [setRange, ih _ _ _ (by simp; omega)]
    by_cases e : k = off
    · subst e
      rw [if_neg (by omega), if_pos (by omega), getD_set_self (by omega), Nat.sub_self]
      rfl
    · rw [getD_set_ne' e]
      by_cases e2 : off + 1 ≤ k ∧ k < off + 1 + vs.length
      · rw [if_pos e2, if_pos (by omega)]
        obtain ⟨j, rfl⟩ : ∃ j, k = off + 1 + j := ⟨k - (off + 1), by omega⟩
        rw [show off + 1 + j - (off + 1) = j by omega, show off + 1 + j - off = j + 1 by omega]
        rfl
      · rw [if_neg e2, if_neg (by omega)]

theorem setR_get (vs : List V) : ∀ (c : List V) (off k : Nat), off + vs.length ≤ c.length →
    (setR c off vs).getD k .junk = if off ≤ k ∧ k < off + vs.length then vs.getD (k - off) .junk else c.getD k .junk := by
  induction vs with
  | nil => intro c off k h; rw [setR, if_neg (by simp)]
  | cons v vs ih =>
    intro c off k h
    simp only [List.length_cons] at h ⊢
    rw [setR, ih _ _ _ (by simp; omega)]
    by_cases e : k = off
    · subst e
      rw [if_neg (by omega), if_pos (by omega)]
      simp [List.getD_eq_getElem?_getD, show k < c.length by omega]
    · by_cases e2 : off + 1 ≤ k ∧ k < off + 1 + vs.length
      · rw [if_pos e2, if_pos (by omega)]
        obtain ⟨j, rfl⟩ : ∃ j, k = off + 1 + j := ⟨k - (off + 1), by omega⟩
        rw [show off + 1 + j - (off + 1) = j by omega, show off + 1 + j - off = j + 1 by omega]
        rfl
      · rw [if_neg e2, if_neg (by omega)]
        simp [List.getD_eq_getElem?_getD, List.getElem?_set, Ne.symm e]

theorem putRow_self {w : World} {blk : Nat} {c : Array Value} {T : TypeId} (h : w.heap[blk]? = some (.cells c T (0, 0))) : putRow w blk c T = w := by
  unfold putRow
  have : w.heap.setIfInBounds blk (.cells c T (0, 0)) = w.heap := by
    apply Array.ext_getElem?
    intro i
    by_cases e : i = blk
    · subst e
      rw [h]
      simp [lt_of_heap h]
    · rw [Array.getElem?_setIfInBounds_ne (Ne.symm e)]
  rw [this]

theorem putRow_putRow (w : World) (blk : Nat) (c c' : Array Value) (T : TypeId) : putRow (putRow w blk c T) blk c' T = putRow w blk c' T := by
  simp [putRow]

theorem putRow_heap {w : World} {blk : Nat} (c : Array Value) (T : TypeId) (h : blk < w.heap.size) : (putRow w blk c T).heap[blk]? = some (.cells c T (0, 0)) := by
  simp [putRow, h]

theorem setCell_row {w : World} {blk : Nat} {c : Array Value} {T : TypeId} (h : w.heap[blk]? = some (.cells c T (0, 0))) (o : Nat) (v : Value) :
    w.setCell ⟨blk, o, none⟩ v = putRow w blk (c.setIfInBounds o v) T := by
  unfold World.setCell putRow
  congr 1
  apply Array.ext_getElem?
  intro i
  by_cases e : i = blk
  · subst e
    have hb := lt_of_heap h
    have hc : w.heap[i] = .cells c T (0, 0) := by
      have := Array.getElem?_eq_getElem hb
      rw [this] at h
      exact Option.some.inj h
    rw [Array.getElem?_modify, if_pos rfl, h]
    simp [hb]
  · rw [Array.getElem?_setIfInBounds_ne (Ne.symm e), Array.getElem?_modify, if_neg (Ne.symm e)]

def oneV : Value → Bool
  | .agg _ | .tuple _ => false
  | _ => true

theorem r_store {P : Program} {w : World} {blk o : Nat} {c : Array Value} {T : TypeId} {v : Value} (h : w.heap[blk]? = some (.cells c T (0, 0))) (ho : o < c.size) (hv : oneV v = true) :
    (store ⟨blk, o, none⟩ v).run P w = .ok () (putRow w blk (c.setIfInBounds o v) T) := by
  have hc : w.cell? ⟨blk, o, none⟩ = some c[o] := by simp [World.cell?, h, ho]
  have hf : w.frozen? ⟨blk, o, none⟩ = false := by simp [World.frozen?, h]
  rw [← setCell_row h]
  cases v <;> first
    | (simp [oneV] at hv; done)
    | simp [store, Sem.run, hc, hf]

theorem r_storeCells {P : Program} {blk : Nat} {T : TypeId} (vs : List Value) : ∀ (w : World) (c : Array Value) (off i : Nat), w.heap[blk]? = some (.cells c T (0, 0)) → off + i + vs.length ≤ c.size →
    (∀ v ∈ vs, oneV v = true) → (storeCells ⟨blk, off, none⟩ vs i).run P w = .ok () (putRow w blk (setRange c (off + i) vs) T) := by
  induction vs with
  | nil =>
    intro w c off i h hl hv
    rw [setRange, putRow_self h]
    rfl
  | cons v vs ih =>
    intro w c off i h hl hv
    simp only [List.length_cons] at hl
    have h1 := r_store (P := P) (o := off + i) h (by omega) (hv v (by simp))
    unfold storeCells
    simp only [Sem.run_bind, add_eq, h1, Result.andThen_ok]
    rw [ih _ (c.setIfInBounds (off + i) v) off (i + 1) (putRow_heap _ _ (lt_of_heap h)) (by simp; omega) (fun u hu => hv u (by simp [hu])), putRow_putRow]
    rfl

/-! ### 4. What Rep says of a value of a given form -/
section
variable {F : Nat → Prop} {w : World} {env : Env} {D : Nat → Prop} {x : Value}
theorem Rep.int_inv {k : IntKind} {n : Int} (h : Rep F w env D x (.i k n)) : x = .int k n ∧ k.min ≤ n ∧ n ≤ k.max := by
  cases h with
  | i h => exact ⟨rfl, h⟩
theorem Rep.b_inv {c : Bool} (h : Rep F w env D x (.b c)) : x = .bool c := by cases h; rfl
theorem Rep.s_inv {s : ByteArray} (h : Rep F w env D x (.s s)) : x = .string s ∧ s.size < 2 ^ 62 := by
  cases h with
  | s h => exact ⟨rfl, h⟩
theorem Rep.agg_inv {cs : List V} (h : Rep F w env D x (.agg cs)) : ∃ xs, x = .agg xs ∧ xs.size = cs.length ∧ ∀ k, k < cs.length → Rep F w env D (xs.getD k undef) (cs.getD k .junk) := by
  cases h with
  | agg h1 h2 => exact ⟨_, rfl, h1, h2⟩
theorem Rep.tup_inv {cs : List V} (h : Rep F w env D x (.tup cs)) : ∃ xs, x = .tuple xs ∧ xs.size = cs.length ∧ ∀ k, k < cs.length → Rep F w env D (xs.getD k undef) (cs.getD k .junk) := by
  cases h with
  | tup h1 h2 => exact ⟨_, rfl, h1, h2⟩
theorem Rep.ptr_inv {h off : Nat} (hh : Rep F w env D x (.ptr h off)) : ∃ blk, x = .pointer (some ⟨blk, off, none⟩) ∧ env h = some blk ∧ D h := by
  cases hh with
  | ptr h1 h2 => exact ⟨_, rfl, h2, h1⟩
end

def V.isJunk : V → Bool
  | .junk => true
  | _ => false
/-- One cell bears it. -/
def V.flat : V → Bool
  | .junk | .agg _ | .tup _ => false
  | _ => true

theorem Rep.flat_one {F : Nat → Prop} {w : World} {env : Env} {D : Nat → Prop} {x : Value} {v : V} (h : Rep F w env D x v) (hf : v.flat = true) : oneV x = true := by
  cases h <;> first | rfl | (simp [V.flat] at hf)

theorem Rep.cells {F : Nat → Prop} {w : World} {env : Env} {D : Nat → Prop} {x : Value} {v : V} (h : Rep F w env D x v) (hj : v.isJunk = false) :
    x.cells.size = v.cells.length ∧ ∀ k, k < v.cells.length → Rep F w env D (x.cells.getD k undef) (v.cells.getD k .junk) := by
  cases h with
  | junk => simp [V.isJunk] at hj
  | agg h1 h2 => exact ⟨h1, h2⟩
  | b => exact ⟨rfl, fun k hk => by simp [V.cells] at hk; subst hk; exact .b⟩
  | i h => exact ⟨rfl, fun k hk => by simp [V.cells] at hk; subst hk; exact .i h⟩
  | s h => exact ⟨rfl, fun k hk => by simp [V.cells] at hk; subst hk; exact .s h⟩
  | nl => exact ⟨rfl, fun k hk => by simp [V.cells] at hk; subst hk; exact .nl⟩
  | sl0 => exact ⟨rfl, fun k hk => by simp [V.cells] at hk; subst hk; exact .sl0⟩
  | sl y a1 a2 a3 a4 a5 a6 a7 a8 => exact ⟨rfl, fun k hk => by simp [V.cells] at hk; subst hk; exact .sl y a1 a2 a3 a4 a5 a6 a7 a8⟩
  | tup h1 h2 => exact ⟨rfl, fun k hk => by simp [V.cells] at hk; subst hk; exact .tup h1 h2⟩
  | ptr h1 h2 => exact ⟨rfl, fun k hk => by simp [V.cells] at hk; subst hk; exact .ptr h1 h2⟩
  | rp y a1 a2 a3 a4 => exact ⟨rfl, fun k hk => by simp [V.cells] at hk; subst hk; exact .rp y a1 a2 a3 a4⟩
  | own a1 a2 a3 a4 a5 => exact ⟨rfl, fun k hk => by simp [V.cells] at hk; subst hk; exact .own a1 a2 a3 a4 a5⟩
  | own0 a1 => exact ⟨rfl, fun k hk => by simp [V.cells] at hk; subst hk; exact .own0 a1⟩
  | fn h1 h2 => exact ⟨rfl, fun k hk => by simp [V.cells] at hk; subst hk; exact .fn h1 h2⟩

/-! ### 5. Effects -/
inductive Eff where
  | val (v : V)
  | rd (h : Nat) (k : Row → Option V)
  | new (r : Row) (mk : Nat → V)
  | wr (h : Nat) (k : Row → Option (Row × V))
  | wr2 (h h2 : Nat) (k : Row → Row → Option (Row × V))
  | grow (h : Nat) (k : Row → Option Row) (mk : Nat → V)
  | grow2 (h h2 : Nat) (k : Row → Row → Option Row) (mk : Nat → V)
  | new2 (h2 : Nat) (k : Row → Option Row) (mk : Nat → V)

def Eff.run (n : Nat) (hp : Nat → Option Row) : Eff → Option (V × (Nat → Option Row) × Bool)
  | .val v => some (v, hp, false)
  | .rd h k => match hp h with
    | some r => match k r with
      | some v => some (v, hp, false)
      | none => none
    | none => none
  | .new r mk => some (mk n, upd hp n (some r), true)
  | .wr h k => match hp h with
    | some r => match k r with
      | some (r', v) => some (v, upd hp h (some r'), false)
      | none => none
    | none => none
  | .wr2 h h2 k => match hp h, hp h2 with
    | some r, some r2 => match k r r2 with
      | some (r', v) => some (v, upd hp h (some r'), false)
      | none => none
    | _, _ => none
  | .grow h k mk => match hp h with
    | some r => match k r with
      | some r' => some (mk n, upd (upd hp h none) n (some r'), true)
      | none => none
    | none => none
  | .grow2 h h2 k mk => match hp h, hp h2 with
    | some r, some r2 => match k r r2 with
      | some r' => some (mk n, upd (upd hp h none) n (some r'), true)
      | none => none
    | _, _ => none
  | .new2 h2 k mk => match hp h2 with
    | some r2 => match k r2 with
      | some r' => some (mk n, upd hp n (some r'), true)
      | none => none
    | none => none

def DD (D : Nat → Prop) (n : Nat) (used : Bool) : Nat → Prop := fun m => D m ∨ (used = true ∧ m = n)

/-- The operands' values. -/
def Vals (C : Ctx) (env : Env) (hp : Nat → Option Row) (D : Nat → Prop) (a : Act) (w : World) (op : Op) (vs : List V) : Prop :=
  vs.length = op.operands.size ∧ ∀ j, j < vs.length → Rep (Fd C env hp) w env D (a.eval (op.operands.getD j (.const undef))) (vs.getD j .junk)

/-- The effect is what the model's run comes to. -/
def Good (P : Program) (op : Op) (ty : TypeId) (vs : List V) (e : Eff) : Prop :=
  ∀ (C : Ctx) (env : Env) (fr : Nat → Option V) (hp : Nat → Option Row) (D : Nat → Prop) (a : Act) (w : World), Sim C env fr hp D a w → Vals C env hp D a w op vs →
  ∀ n, ¬ D n → ∀ v hp' used, e.run n hp = some (v, hp', used) →
  ∃ (env' : Env) (w' : World) (nx : Next) (x : Value), (execOp a.eval ⟨none, op, ty, "", #[], none⟩).run P w = .ok nx w' ∧ Sim C env' fr hp' (DD D n used) a w' ∧
    Rep (Fd C env' hp') w' env' (DD D n used) x v ∧ (nx = .value x ∨ (nx = .skip ∧ x = undef))

theorem dd_false (D : Nat → Prop) (n : Nat) : DD D n false = D := by funext m; simp [DD]
theorem dd_true (D : Nat → Prop) (n : Nat) : DD D n true = fun m => D m ∨ m = n := by funext m; simp [DD]

/-- An operation that only computes. -/
theorem Good.pure {P : Program} {op : Op} {ty : TypeId} {vs : List V} {v : V}
    (h : ∀ (F : Nat → Prop) (env : Env) (D : Nat → Prop) (a : Act) (w : World), vs.length = op.operands.size → (∀ j, j < vs.length → Rep F w env D (a.eval (op.operands.getD j (.const undef))) (vs.getD j .junk)) →
      ∃ x, (execOp a.eval ⟨none, op, ty, "", #[], none⟩).run P w = .ok (.value x) w ∧ Rep F w env D x v) : Good P op ty vs (.val v) := by
  intro C env fr hp D a w hs hv n hn v' hp' used he
  simp only [Eff.run, Option.some.injEq, Prod.mk.injEq] at he
  obtain ⟨rfl, rfl, rfl⟩ := he
  obtain ⟨x, hx, hr⟩ := h (Fd C env hp) env D a w hv.1 hv.2
  rw [dd_false]
  exact ⟨env, w, _, x, hx, hs, hr, .inl rfl⟩

end Go.Proofs.Ytlhobedecoeohaa.Lift
