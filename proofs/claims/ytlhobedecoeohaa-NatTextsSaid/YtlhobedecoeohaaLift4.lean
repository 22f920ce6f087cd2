/- The operations on memory but append and copy: their effects, and that the model's runs come to them. -/
import Derived.Test.YtlhobedecoeohaaLift3
import Derived.Laws.MakeOwn
import Derived.Laws.Tables
import Derived.Great.BuildSlice
import Derived.Laws.BytesString
set_option linter.unusedVariables false
set_option linter.unusedSimpArgs false
namespace Go.Proofs.Ytlhobedecoeohaa.Lift
open Go

/-! ### Reading rows -/
theorem cell_row {w : World} {blk o : Nat} {c : Array Value} {T : TypeId} {z : Nat × Nat} (h : w.heap[blk]? = some (.cells c T z)) (ho : o < c.size) : w.cell? ⟨blk, o, none⟩ = some (c.getD o undef) := by
  simp [World.cell?, h, Array.getD_eq_getD_getElem?, ho]

theorem range_map_getD (y : Nat → Value) {n k : Nat} (h : k < n) : ((Array.range n).map y).getD k undef = y k := by
  simp [Array.getD_eq_getD_getElem?, h]

def readAt (L : Lay) (cs : List V) (off : Nat) : Option V :=
  if L.agg = true then (if off + L.size ≤ cs.length then some (.agg ((cs.drop off).take L.size)) else none)
  else (if off < cs.length then some (cs.getD off .junk) else none)

theorem good_readAt {P : Program} {t : TypeId} {L : Lay} (hL : lay P t = some L) {F : Nat → Prop} {w : World} {env : Env} {D : Nat → Prop} {cs : List V} {off o blk : Nat} {v : V} (h : readAt L cs off = some v)
    {y : Nat → Value} (hy : ∀ k, k < cs.length → w.cell? ⟨blk, o + k, none⟩ = some (y k)) (hr : ∀ k, k < cs.length → Rep F w env D (y k) (cs.getD k .junk)) :
    ∃ x, (loadVar t ⟨blk, o + off, none⟩).run P w = .ok x w ∧ Rep F w env D x v := by
  obtain ⟨i, d, z, hi, hd, hz, rfl⟩ := lay_inv hL
  unfold readAt at h
  simp only at h
  split at h
  · rename_i ha
    split at h
    · rename_i hle
      cases h
      refine ⟨_, r_loadVar_agg hi hd ha (y := fun k => y (off + k)) (fun k hk => by rw [Nat.add_assoc]; exact hy _ (by omega)), ?_⟩
      refine .agg (by simp; omega) fun k hk => ?_
      have hk' : k < i.size := by simp at hk; omega
      rw [range_map_getD _ hk']
      have : ((cs.drop off).take i.size).getD k .junk = cs.getD (off + k) .junk := by
        simp [List.getD_eq_getElem?_getD, List.getElem?_take, hk']
      rw [this]
      exact hr _ (by omega)
    · cases h
  · rename_i ha
    split at h
    · rename_i hlt
      cases h
      exact ⟨_, r_loadVar_one hd (by simpa using ha) (hy _ hlt), hr _ hlt⟩
    · cases h

theorem good_loadRow {C : Ctx} {env : Env} {fr : Nat → Option V} {hp : Nat → Option Row} {D : Nat → Prop} {a : Act} {w : World} (hs : Sim C env fr hp D a w) {h blk : Nat} {r : Row} (hr : hp h = some r) (he : env h = some blk) :
    ∃ c, w.heap[blk]? = some (.cells c r.T (0, 0)) ∧ r.cells.length ≤ c.size ∧ ∀ k, k < r.cells.length → Rep (Fd C env hp) w env D (c.getD k undef) (r.cells.getD k .junk) := by
  rcases (hs.row h r hr).2 with ⟨blk', c, he', hw, hl, hc⟩ | ⟨he', _⟩
  · rw [he] at he'; cases he'; exact ⟨c, hw, hl, hc⟩
  · rw [he] at he'; cases he'

/-! ### load -/
def effLoad (P : Program) (t : TypeId) : List V → Option Eff
  | [.ptr h off] => match lay P t with
    | some L => some (.rd h fun r => readAt L r.cells off)
    | none => none
  | [.rp cs] => match lay P t with
    | some L => match readAt L cs 0 with
      | some v => some (.val v)
      | none => none
    | none => none
  | _ => none

theorem good_load {P : Program} {t ty : TypeId} {x : Operand} {vs : List V} {e : Eff} (h : effLoad P t vs = some e) : Good P (.load t x) ty vs e := by
  unfold effLoad at h
  split at h
  · rename_i n off
    split at h
    · rename_i L hL
      cases h
      intro C env fr hp D a w hs hv m hm v hp' used he
      simp only [Eff.run] at he
      split at he
      · rename_i r hr
        split at he
        · rename_i u hu
          cases he
          obtain ⟨blk, e0, he', hD⟩ := (show Rep _ w env D (a.eval x) (.ptr n off) from hv.2 0 (by simp)).ptr_inv
          obtain ⟨c, hw, hl, hc⟩ := good_loadRow hs hr he'
          obtain ⟨z, hz, hzr⟩ := good_readAt (P := P) hL (o := 0) (blk := blk) hu (fun k hk => by rw [Nat.zero_add]; exact cell_row hw (by omega)) hc
          rw [Nat.zero_add] at hz
          rw [dd_false]
          refine ⟨env, w, _, z, ?_, hs, hzr, .inl rfl⟩
          simp only [execOp, e0]
          exact run_value hz
        · cases he
      · cases he
    · cases h
  · rename_i cs
    split at h
    · rename_i L hL
      split at h
      · rename_i v hv
        cases h
        refine Good.pure fun F env D a w hl hr => ?_
        have h0 : Rep F w env D (a.eval x) (.rp cs) := hr 0 (by simp)
        generalize hX : a.eval x = X at h0
        cases h0 with
        | rp y hF hb hy hrr =>
          rename_i blk off
          obtain ⟨z, hz, hzr⟩ := good_readAt (P := P) hL (o := off) (blk := blk) hv hy (fun k hk => (hrr k hk).mono (fun b _ hF => ⟨hF, rfl⟩) (fun _ c _ _ h => ⟨c, rfl, h⟩) (Nat.le_refl _) (fun _ f => f.elim))
          refine ⟨z, ?_, hzr⟩
          simp only [execOp, hX]
          exact run_value hz
      · cases h
    · cases h
  · cases h

/-! ### store -/
def effStore (P : Program) (t : TypeId) : List V → Option Eff
  | [.ptr h off, v] => match lay P t with
    | some L => if v.isJunk = false ∧ v.cells.length = L.size ∧ v.cells.all V.flat = true then
        some (.wr h fun r => if off + L.size ≤ r.cells.length then some (⟨r.T, setR r.cells off v.cells⟩, .junk) else none) else none
    | none => none
  | _ => none

theorem good_store {P : Program} {t ty : TypeId} {x y : Operand} {vs : List V} {e : Eff} (h : effStore P t vs = some e) : Good P (.store t x y) ty vs e := by
  unfold effStore at h
  split at h
  · rename_i n off v
    split at h
    · rename_i L hL
      split at h
      · rename_i hcond
        obtain ⟨hj, hlen, hflat⟩ := hcond
        cases h
        intro C env fr hp D a w hs hv m hm v' hp' used he
        simp only [Eff.run] at he
        split at he
        · rename_i r hr
          split at he
          · rename_i r' v'' hk
            cases he
            split at hk
            · rename_i hle
              cases hk
              obtain ⟨blk, e0, he', hD⟩ := (show Rep _ w env D (a.eval x) (.ptr n off) from hv.2 0 (by simp)).ptr_inv
              have h1 : Rep (Fd C env hp) w env D (a.eval y) v := hv.2 1 (by simp)
              obtain ⟨hcs, hcr⟩ := h1.cells hj
              obtain ⟨c, hw, hl, hc⟩ := good_loadRow hs hr he'
              obtain ⟨i, d, z, hi, hd, hz, rfl⟩ := lay_inv hL
              simp only at hlen hle
              have hlist : (a.eval y).cells.toList.length = v.cells.length := by simpa using hcs
              have hone : ∀ u ∈ (a.eval y).cells.toList, oneV u = true := by
                intro u hu
                obtain ⟨k, hk, rfl⟩ := List.getElem_of_mem hu
                have := hcr k (by omega)
                have hf : (v.cells.getD k .junk).flat = true := by
                  rw [List.all_eq_true] at hflat
                  refine hflat _ ?_
                  rw [List.getD_eq_getElem?_getD, List.getElem?_eq_getElem (show k < v.cells.length by omega)]
                  exact List.getElem_mem _
                have h2 := this.flat_one hf
                have h3 : (a.eval y).cells.getD k undef = (a.eval y).cells.toList[k] := by
                  rw [← getD_toList, List.getD_eq_getElem?_getD, List.getElem?_eq_getElem hk]
                  rfl
                rw [h3] at h2
                exact h2
              have hrun := r_storeCells (P := P) (a.eval y).cells.toList w c off 0 hw (by omega) hone
              rw [Nat.add_zero] at hrun
              have hst : (storeVar t ⟨blk, off, none⟩ (a.eval y)).run P w = .ok () (putRow w blk (setRange c off (a.eval y).cells.toList) r.T) := by
                unfold storeVar
                simp only [Sem.run_bind, r_size hi, Result.andThen_ok]
                rw [if_neg (by simp; omega)]
                exact hrun
              rw [dd_false]
              have hsz := setRange_size (a.eval y).cells.toList c off
              refine ⟨env, _, .skip, undef, ?_, hs.write hr he' hw rfl hsz rfl (by simp only [setR_length]; rw [hsz]; exact hl) ?_, .junk, .inr ⟨rfl, rfl⟩⟩
              · simp only [execOp, e0]
                exact run_skip hst
              · intro k hk
                simp only [setR_length] at hk
                show Rep _ _ _ _ _ ((setR r.cells off v.cells).getD k .junk)
                rw [setRange_get _ _ _ _ (by omega), setR_get _ _ _ _ (by omega), hlist]
                by_cases hin : off ≤ k ∧ k < off + v.cells.length
                · rw [if_pos hin, if_pos hin, getD_toList]
                  exact hcr _ (by omega)
                · rw [if_neg hin, if_neg hin]
                  exact hc _ hk
            · cases hk
          · cases he
        · cases he
      · cases h
    · cases h
  · cases h

/-! ### alloc, box -/
theorem good_new {P : Program} {op : Op} {ty : TypeId} {vs : List V} {r : Row} {mk : Nat → V}
    (H : ∀ (C : Ctx) (env : Env) (fr : Nat → Option V) (hp : Nat → Option Row) (D : Nat → Prop) (a : Act) (w : World), Sim C env fr hp D a w → Vals C env hp D a w op vs →
      ∃ (c : Array Value) (x : Value) (w1 : World), Step (fun _ => False) w w1 ∧ w1.heap = w.heap ∧ (execOp a.eval ⟨none, op, ty, "", #[], none⟩).run P w = .ok (.value x) { w1 with heap := w1.heap.push (.cells c r.T) } ∧
        r.cells.length ≤ c.size ∧ (∀ k, k < r.cells.length → Rep (Fd C env hp) w env D (c.getD k undef) (r.cells.getD k .junk)) ∧
        ∀ n (F : Nat → Prop) (env' : Env) (D' : Nat → Prop), D' n → env' n = some w.heap.size → Rep F { w1 with heap := w1.heap.push (.cells c r.T) } env' D' x (mk n)) : Good P op ty vs (.new r mk) := by
  intro C env fr hp D a w hs hv n hn v hp' used he
  simp only [Eff.run, Option.some.injEq, Prod.mk.injEq] at he
  obtain ⟨rfl, rfl, rfl⟩ := he
  obtain ⟨c, x, w1, hst, hheap, hrun, hl, hc, hx⟩ := H C env fr hp D a w hs hv
  have hs1 := hs.world hst
  have hn1 := hs1.new hn hl (fun k hk => (hc k hk).world hst)
  rw [dd_true]
  rw [hheap] at hn1
  refine ⟨_, _, _, x, hrun, by rw [hheap]; exact hn1, ?_, .inl rfl⟩
  exact hx n _ _ _ (.inr rfl) (by rw [upd_same])

def effAlloc (P : Program) (t : TypeId) : List V → Option Eff
  | [] => match lay P t with
    | some L => some (.new ⟨t, L.zero⟩ (fun n => .ptr n 0))
    | none => none
  | _ => none
theorem good_alloc {P : Program} {t ty : TypeId} {vs : List V} {e : Eff} (h : effAlloc P t vs = some e) : Good P (.alloc t) ty vs e := by
  unfold effAlloc at h
  split at h
  · split at h
    · rename_i L hL
      cases h
      obtain ⟨i, d, z, hi, hd, hz, rfl⟩ := lay_inv hL
      refine good_new fun C env fr hp D a w hs hv => ?_
      refine ⟨z.cells, .pointer (some ⟨w.heap.size, 0, none⟩), w, Step.refl _ _, rfl, ?_, by simp, fun k hk => rep_ofCells _ k hk, fun n F env' D' hD he => .ptr hD he⟩
      have : (Instr.alloc t true (.tuple #[])).run P w = .ok (.pointer (some ⟨w.heap.size, 0, none⟩)) { w with heap := w.heap.push (.cells z.cells t) } := by
        unfold Instr.alloc
        simp only [Sem.run_bind, r_zero hi hz, Result.andThen_ok]
        rfl
      exact run_value this
    · cases h
  · cases h

def effBox (t : TypeId) : List V → Option Eff
  | [v] => if v.isJunk = false then some (.new ⟨t, v.cells⟩ (fun n => .ptr n 0)) else none
  | _ => none
theorem good_box {P : Program} {t ty : TypeId} {x : Operand} {vs : List V} {e : Eff} (h : effBox t vs = some e) : Good P (.box t x) ty vs e := by
  unfold effBox at h
  split at h
  · rename_i v
    split at h
    · rename_i hj
      cases h
      refine good_new fun C env fr hp D a w hs hv => ?_
      have h0 : Rep (Fd C env hp) w env D (a.eval x) v := hv.2 0 (by simp)
      obtain ⟨hcs, hcr⟩ := h0.cells hj
      exact ⟨(a.eval x).cells, .pointer (some ⟨w.heap.size, 0, none⟩), w, Step.refl _ _, rfl, rfl, by simp [hcs], hcr, fun n F env' D' hD he => .ptr hD he⟩
    · cases h
  · cases h

/-! ### build: structs and arrays by value -/
def fillV (place : Nat → Option (Nat × Nat)) : List V → List (Nat × V) → Option (List V)
  | cells, [] => some cells
  | cells, (i, v) :: rest => match place i with
    | none => none
    | some (off, size) => if v.isJunk = false ∧ v.cells.length = size ∧ off + v.cells.length ≤ cells.length then fillV place (setR cells off v.cells) rest else none

theorem fold_setRange (vs : List Value) : ∀ (c : Array Value) (off j : Nat), ((vs.zipIdx j).foldl (fun cs (p : Value × Nat) => cs.setIfInBounds (off + p.2) p.1) c) = setRange c (off + j) vs := by
  induction vs with
  | nil => intro c off j; rfl
  | cons v vs ih =>
    intro c off j
    simp only [List.zipIdx_cons, List.foldl_cons, setRange]
    rw [ih]
    rfl

theorem good_fill {F : Nat → Prop} {w : World} {env : Env} {D : Nat → Prop} (place : Nat → Option (Nat × Nat)) : ∀ (ps : List (Nat × V)) (qs : List (Nat × Value)) (cells : List V) (c : Array Value) (r : List V),
    fillV place cells ps = some r → ps.length = qs.length → (∀ k, k < ps.length → (ps.getD k (0, .junk)).1 = (qs.getD k (0, undef)).1 ∧ Rep F w env D (qs.getD k (0, undef)).2 (ps.getD k (0, .junk)).2) →
    c.size = cells.length → (∀ k, k < cells.length → Rep F w env D (c.getD k undef) (cells.getD k .junk)) →
    ∃ c', Instr.fill place c qs = some c' ∧ c'.size = r.length ∧ ∀ k, k < r.length → Rep F w env D (c'.getD k undef) (r.getD k .junk) := by
  intro ps
  induction ps with
  | nil =>
    intro qs cells c r h hl hp hc hr
    have : qs = [] := List.eq_nil_of_length_eq_zero hl.symm
    subst this
    simp only [fillV, Option.some.injEq] at h
    subst h
    exact ⟨c, rfl, hc, hr⟩
  | cons p ps ih =>
    intro qs cells c r h hl hp hc hr
    cases qs with
    | nil => simp at hl
    | cons q qs =>
      obtain ⟨i, v⟩ := p
      obtain ⟨j, x⟩ := q
      have h0 := hp 0 (by simp)
      simp only [List.getD_cons_zero] at h0
      obtain ⟨rfl, hx⟩ := h0
      simp only [fillV] at h
      split at h
      · cases h
      · rename_i off size hpl
        split at h
        · rename_i hcond
          obtain ⟨hj, hsz, hle⟩ := hcond
          obtain ⟨hcs, hcr⟩ := hx.cells hj
          have hlist : x.cells.toList.length = v.cells.length := by simpa using hcs
          obtain ⟨c', h1, h2, h3⟩ := ih qs (setR cells off v.cells) (setRange c off x.cells.toList) r h (by simpa using hl)
            (fun k hk => by have := hp (k + 1) (by simpa using hk); simpa only [List.getD_cons_succ] using this) (by simp [hc]) (by
              intro k hk
              simp only [setR_length] at hk
              rw [setRange_get _ _ _ _ (by omega), setR_get _ _ _ _ (by omega), hlist]
              by_cases hin : off ≤ k ∧ k < off + v.cells.length
              · rw [if_pos hin, if_pos hin, getD_toList]
                exact hcr _ (by omega)
              · rw [if_neg hin, if_neg hin]
                exact hr _ hk)
          refine ⟨c', ?_, h2, h3⟩
          unfold Instr.fill
          simp only [hpl]
          rw [if_neg (by simp; omega)]
          have : x.cells.zipIdx.foldl (fun cs (c, j) => cs.setIfInBounds (off + j) c) c = setRange c off x.cells.toList := by
            rw [← Array.foldl_toList, Array.toList_zipIdx]
            exact fold_setRange _ _ _ _
          rw [this]
          exact h1
        · cases h

def placesOf (P : Program) (t : TypeId) : Option (Nat → Option (Nat × Nat)) :=
  match P.underlying t with
  | some (.array _ e) => match P.info? e with
    | some ie => some fun i => some (i * ie.size, ie.size)
    | none => none
  | some (.struct fields) => match fields.toList.mapM (fun f => (P.info? f.type).map fun i => (f.offset, i.size)) with
    | some places => some (places.toArray[·]?)
    | none => none
  | _ => none

def effBuild (P : Program) (t : TypeId) (ixs : List Nat) (vs : List V) : Option Eff :=
  match lay P t, placesOf P t with
  | some L, some pl => match fillV pl L.zero (ixs.zip vs) with
    | some r => some (.val (.agg r))
    | none => none
  | _, _ => none

theorem parts_rep {F : Nat → Prop} {w : World} {env : Env} {D : Nat → Prop} {a : Act} {parts : Array (Nat × Operand)} {vs : List V} (hl : vs.length = (parts.toList.map (·.2)).toArray.size)
    (hr : ∀ j, j < vs.length → Rep F w env D (a.eval ((parts.toList.map (·.2)).toArray.getD j (.const undef))) (vs.getD j .junk)) :
    ((parts.toList.map (·.1)).zip vs).length = (parts.map fun (i, x) => (i, a.eval x)).toList.length ∧
    ∀ k, k < ((parts.toList.map (·.1)).zip vs).length → (((parts.toList.map (·.1)).zip vs).getD k (0, .junk)).1 = ((parts.map fun (i, x) => (i, a.eval x)).toList.getD k (0, undef)).1 ∧
      Rep F w env D ((parts.map fun (i, x) => (i, a.eval x)).toList.getD k (0, undef)).2 (((parts.toList.map (·.1)).zip vs).getD k (0, .junk)).2 := by
  have hl' : vs.length = parts.size := by simpa using hl
  refine ⟨by simp [hl'], fun k hk => ?_⟩
  have hk' : k < parts.size := by simp at hk; omega
  have hkv : k < vs.length := by omega
  have h1 := hr k hkv
  have e1 : (parts.toList.map (·.2)).toArray.getD k (.const undef) = parts[k].2 := by
    simp [Array.getD_eq_getD_getElem?, hk']
  have e2 : ((parts.map fun (i, x) => (i, a.eval x)).toList.getD k (0, undef)) = (parts[k].1, a.eval parts[k].2) := by
    simp [List.getD_eq_getElem?_getD, hk']
  have e3 : (((parts.toList.map (·.1)).zip vs).getD k (0, .junk)) = (parts[k].1, vs.getD k .junk) := by
    simp [List.getD_eq_getElem?_getD, List.getElem?_zip_eq_some, hk', hkv, List.zip, List.getElem?_zipWith]
  rw [e1] at h1
  rw [e2, e3]
  exact ⟨rfl, h1⟩

theorem good_build {P : Program} {t ty : TypeId} {parts : Array (Nat × Operand)} {vs : List V} {e : Eff} (h : effBuild P t (parts.toList.map (·.1)) vs = some e) : Good P (.build t parts) ty vs e := by
  unfold effBuild at h
  split at h
  · rename_i L pl hL hpl
    split at h
    · rename_i r hf
      cases h
      obtain ⟨i, d, z, hi, hd, hz, rfl⟩ := lay_inv hL
      refine Good.pure fun F env D a w hl hr => ?_
      obtain ⟨p1, p2⟩ := parts_rep (a := a) hl hr
      obtain ⟨c', hc1, hc2, hc3⟩ := good_fill pl _ _ _ z.cells _ hf p1 p2 (by simp) (fun k hk => rep_ofCells _ k hk)
      have hb : P.built t (parts.map fun (i, x) => (i, a.eval x)).toList = some c' := by
        unfold Program.built
        unfold placesOf at hpl
        split at hpl
        · rename_i n e he
          split at hpl
          · rename_i ie hie
            cases hpl
            simp only [hi, he, hz, hie]
            exact hc1
          · cases hpl
        · rename_i fields he
          split at hpl
          · rename_i places hp
            cases hpl
            simp only [hi, he, hz, hp]
            exact hc1
          · cases hpl
        · cases hpl
      exact ⟨.agg c', run_value (run_build w t _ _ hb), .agg hc2 hc3⟩
    · cases h
  · cases h

/-! ### buildSlice, makeSlice -/
def zerosV (n : Nat) (z : List V) : List V := (List.replicate n z).flatten
theorem zerosV_one (n : Nat) (z : V) : zerosV n [z] = List.replicate n z := by
  unfold zerosV
  induction n with
  | zero => rfl
  | succ n ih => rw [List.replicate_succ, List.flatten_cons, ih]; rfl
theorem zerosV_length (n : Nat) (z : List V) : (zerosV n z).length = n * z.length := by
  simp [zerosV]
theorem zerosV_get (z : List V) : ∀ (n k : Nat), k < n * z.length → (zerosV n z).getD k .junk = z.getD (k % z.length) .junk := by
  intro n
  induction n with
  | zero => intro k hk; simp at hk
  | succ n ih =>
    intro k hk
    have e : zerosV (n + 1) z = z ++ zerosV n z := by simp [zerosV, List.replicate_succ]
    rw [e]
    rw [Nat.succ_mul] at hk
    by_cases hlt : k < z.length
    · rw [Nat.mod_eq_of_lt hlt]
      simp [List.getD_eq_getElem?_getD, List.getElem?_append_left hlt]
    · have := ih (k - z.length) (by omega)
      rw [List.getD_eq_getElem?_getD, List.getElem?_append_right (by omega), ← List.getD_eq_getElem?_getD, this]
      congr 1
      rw [Nat.mod_eq_sub_mod (a := k) (by omega)]

theorem zeros_rep {F : Nat → Prop} {w : World} {env : Env} {D : Nat → Prop} (z : Array Value) (n s : Nat) (hs : s = z.size) : ∀ k, k < (zerosV n (z.toList.map ofCell)).length → Rep F w env D (((Array.range (n * s)).map (z[· % z.size]!)).getD k undef) ((zerosV n (z.toList.map ofCell)).getD k .junk) := by
  subst hs
  intro k hk
  rw [zerosV_length] at hk
  rw [zerosV_get _ _ _ hk]
  simp only [List.length_map, Array.length_toList] at hk ⊢
  rw [range_map_getD _ hk]
  have hz : 0 < z.size := by
    rcases Nat.eq_zero_or_pos z.size with h | h
    · rw [h, Nat.mul_zero] at hk; omega
    · exact h
  have hlt : k % z.size < z.size := Nat.mod_lt _ hz
  rw [getD_map_ofCell _ (by simpa using hlt), getD_toList]
  have : z[k % z.size]! = z.getD (k % z.size) undef := by
    simp [Array.getD_eq_getD_getElem?, hlt]
  rw [this]
  exact rep_ofCell _

def effBuildSlice (P : Program) (t : TypeId) (len : Nat) (ixs : List Nat) (vs : List V) : Option Eff :=
  match P.underlying t with
  | some (.slice e) => match lay P e with
    | some L => if L.zero.length = L.size ∧ 0 < len * L.size ∧ len * L.size ≤ 2 ^ 24 then
        match fillV (fun i => some (i * L.size, L.size)) (zerosV len L.zero) (ixs.zip vs) with
        | some r => if r.length = len * L.size then some (.new ⟨e, r⟩ (fun n => .own n 0 len L.size)) else none
        | none => none
      else (if len = 0 ∧ ixs = [] ∧ 0 < L.size then some (.new ⟨e, []⟩ (fun n => .own n 0 0 L.size)) else none)
    | none => none
  | _ => none

theorem run_buildSlice0 {P : Program} (w : World) {t e : TypeId} {ie : TypeInfo} (hu : P.underlying t = some (.slice e)) (hie : P.info? e = some ie) {ps : Array (Nat × Value)} (hps : ps = #[]) :
    (Instr.buildSlice t 0 ps).run P w = .ok (.slice (some ⟨w.heap.size, 0, none⟩) 0 0) (w.alloc (.cells #[] e)) := by
  subst hps
  have hf : ∀ f : Nat → Value, Instr.fill (fun i => some (i * ie.size, ie.size)) (Array.map f (Array.range 0)) [] = some #[] := fun f => by rw [show Array.range 0 = #[] from rfl]; simp [Instr.fill]
  simp [Instr.buildSlice, run_underlying hu, sizeOf, typeInfo, hie, newRow, hf]
theorem good_buildSlice {P : Program} {t ty : TypeId} {len : Nat} {parts : Array (Nat × Operand)} {vs : List V} {e : Eff} (h : effBuildSlice P t len (parts.toList.map (·.1)) vs = some e) : Good P (.buildSlice t len parts) ty vs e := by
  unfold effBuildSlice at h
  split at h
  · rename_i el hu
    split at h
    · rename_i L hL
      split at h
      · rename_i hcond
        obtain ⟨hz1, hz2, hz3⟩ := hcond
        split at h
        · rename_i r hf
          split at h
          · rename_i hrl
            cases h
            obtain ⟨i, d, z, hi, hd, hz, rfl⟩ := lay_inv hL
            simp only at hz1 hz2 hz3 hrl hf
            have hzs : i.size = z.cells.size := by simpa using hz1.symm
            refine good_new fun C env fr hp D a w hs hv => ?_
            obtain ⟨p1, p2⟩ := parts_rep (a := a) hv.1 hv.2
            obtain ⟨c', hc1, hc2, hc3⟩ := good_fill _ _ _ _ ((Array.range (len * i.size)).map (z.cells[· % z.cells.size]!)) _ hf p1 p2 (by simp [zerosV_length, hzs]) (zeros_rep z.cells len i.size hzs)
            refine ⟨c', .slice (some ⟨w.heap.size, 0, none⟩) len len, w, Step.refl _ _, rfl, ?_, by simp [hc2], hc3, fun n F env' D' hD he => ?_⟩
            · exact run_value (run_buildSlice w t el len _ c' i z hu hi hz (by omega) (by omega) hc1)
            · refine .own hD he (Nat.le_refl _) ?_ ⟨c', el, (0, 0), by simp, by show 0 + len * i.size ≤ c'.size; rw [hc2, hrl]; omega⟩
              have : len ≤ len * i.size := Nat.le_mul_of_pos_right _ (Nat.pos_of_mul_pos_left hz2)
              omega
          · cases h
        · cases h
      · split at h
        · rename_i hcond
          obtain ⟨rfl, hix, hpos⟩ := hcond
          cases h
          have hpe : parts = #[] := by simpa using hix
          subst hpe
          obtain ⟨i, d, z, hi, hd, hz, rfl⟩ := lay_inv hL
          refine good_new fun C env fr hp D a w hs hv => ?_
          refine ⟨#[], .slice (some ⟨w.heap.size, 0, none⟩) 0 0, w, Step.refl _ _, rfl, ?_, by simp, by simp, fun n F env' D' hD he => ?_⟩
          · exact run_value (run_buildSlice0 w hu hi (by simp))
          · exact .own hD he (Nat.le_refl _) (by omega) ⟨#[], el, (0, 0), by simp, by simp⟩
        · cases h
    · cases h
  · cases h

def effMakeSlice (P : Program) (t : TypeId) : List V → Option Eff
  | [.i _ l, .i _ c] => match P.underlying t with
    | some (.slice e) => match lay P e with
      | some L => if L.zero.length = L.size ∧ 0 ≤ l ∧ l ≤ c ∧ c ≤ 2 ^ 30 ∧ L.bytes ≤ 2 ^ 12 then
          some (.new ⟨e, zerosV l.toNat L.zero⟩ (fun n => .own n 0 l.toNat L.size)) else none
      | none => none
    | _ => none
  | _ => none

theorem good_makeSlice {P : Program} {t ty : TypeId} {x y : Operand} {vs : List V} {e : Eff} (h : effMakeSlice P t vs = some e) : Good P (.makeSlice t x y) ty vs e := by
  unfold effMakeSlice at h
  split at h
  · rename_i kl l kc c
    split at h
    · rename_i el hu
      split at h
      · rename_i L hL
        split at h
        · rename_i hcond
          obtain ⟨hz1, h0, hlc, hc30, hby⟩ := hcond
          cases h
          obtain ⟨i, d, z, hi, hd, hz, rfl⟩ := lay_inv hL
          simp only at hz1 hby
          have hzs : i.size = z.cells.size := by simpa using hz1.symm
          refine good_new fun C env fr hp D a w hs hv => ?_
          have e0 : a.eval x = .int kl l := (show Rep _ w env D (a.eval x) (.i kl l) from hv.2 0 (by simp)).int_inv.1
          have e1 : a.eval y = .int kc c := (show Rep _ w env D (a.eval y) (.i kc c) from hv.2 1 (by simp)).int_inv.1
          obtain ⟨C', rfl⟩ : ∃ C' : Nat, c = C' := ⟨c.toNat, by omega⟩
          obtain ⟨L', rfl⟩ : ∃ L' : Nat, l = L' := ⟨l.toNat, by omega⟩
          have hmul : i.bytes * C' ≤ 2 ^ 12 * 2 ^ 30 := Nat.mul_le_mul hby (by omega)
          have hrun := run_make (P := P) w t el i z hu hi hz kl kc (L' : Int) (C' : Int) h0 hlc (by rw [← Int.natCast_mul]; omega) (by omega)
          refine ⟨madeCells z.cells (C' * i.size), .slice (some ⟨w.heap.size, 0, none⟩) L' C', w, Step.refl _ _, rfl, ?_, ?_, ?_, fun n F env' D' hD he => ?_⟩
          · simp only [execOp, e0, e1]
            exact run_value hrun
          · simp only [zerosV_length, size_madeCells, Int.toNat_natCast, List.length_map, Array.length_toList, ← hzs]
            exact Nat.mul_le_mul_right _ (by omega)
          · intro k hk
            have hk1 : k < C' * i.size := by
              simp only [zerosV_length, Int.toNat_natCast, List.length_map, Array.length_toList, ← hzs] at hk
              exact Nat.lt_of_lt_of_le hk (Nat.mul_le_mul_right _ (by omega))
            have := zeros_rep (F := Fd C env hp) (w := w) (env := env) (D := D) z.cells L' i.size hzs k hk
            have hk2 : k < L' * i.size := by
              simpa only [zerosV_length, Int.toNat_natCast, List.length_map, Array.length_toList, ← hzs] using hk
            rw [range_map_getD _ hk2] at this
            unfold madeCells
            rw [range_map_getD _ hk1]
            exact this
          · exact .own hD he (by omega) (by simp; omega) ⟨_, el, (0, 0), by simp; rfl, by rw [size_madeCells]; show 0 + C' * i.size ≤ C' * i.size; omega⟩
        · cases h
      · cases h
    · cases h
  · cases h

end Go.Proofs.Ytlhobedecoeohaa.Lift
