/- The remaining operations, names that are changed, slices that are given away, calls by contract. -/
import Derived.Test.YtlhobedecoeohaaLift5
set_option linter.unusedVariables false
set_option linter.unusedSimpArgs false
namespace Go.Proofs.Ytlhobedecoeohaa.Lift
open Go

/-! ### Bytes to a string, min and max -/
def numsOf (k : IntKind) : List V → Option (List Int)
  | [] => some []
  | .i k' n :: r => if k' = k then (match numsOf k r with
    | some l => some (n :: l)
    | none => none) else none
  | _ => none
theorem numsOf_map (k : IntKind) (l : List Int) : numsOf k (l.map (V.i k)) = some l := by
  induction l with
  | nil => rfl
  | cons n l ih => simp [numsOf, ih]
theorem numsOf_inv {k : IntKind} : ∀ {cs : List V} {l : List Int}, numsOf k cs = some l → cs = l.map (V.i k) := by
  intro cs
  induction cs with
  | nil => intro l h; simp [numsOf] at h; subst h; rfl
  | cons c cs ih =>
    intro l h
    unfold numsOf at h
    split at h
    · rename_i he; cases he
    · rename_i k' n r he
      cases he
      split at h
      · rename_i hk
        subst hk
        split at h
        · rename_i l' hl
          cases h
          rw [ih hl]
          rfl
        · cases h
      · cases h
    · cases h

theorem flatCells_i (k : IntKind) (l : List Int) : flatCells (l.map (V.i k)) = l.map (V.i k) := by
  induction l with
  | nil => rfl
  | cons n l ih => simp only [List.map_cons, flatCells, List.flatMap_cons, V.cells] at ih ⊢; rw [ih]; rfl

def strOf (ns : List Int) : ByteArray := ⟨(ns.map fun n => UInt8.ofNat n.toNat).toArray⟩
theorem fold_strOf (ns : List Int) : ∀ s : ByteArray, ns.foldl (fun r n => r.push (UInt8.ofNat n.toNat)) s = ⟨s.data ++ (ns.map fun n => UInt8.ofNat n.toNat).toArray⟩ := by
  induction ns with
  | nil => intro s; simp
  | cons n ns ih =>
    intro s
    simp only [List.foldl_cons, ih, List.map_cons]
    congr 1
    simp [ByteArray.push]

/-- Bytes to a string: of slices of bytes alone. -/
def effConvB (P : Program) (s d : TypeId) : List V → Option Eff
  | [.sl els] => match P.underlying s, P.underlying d with
    | some (.slice e), some .string => match P.underlying e, numsOf .u8 els with
      | some (.int .u8), some l => if l.length < 2 ^ 62 then some (.val (.s (strOf l))) else none
      | _, _ => none
    | _, _ => none
  | [.own h off len E] => match P.underlying s, P.underlying d with
    | some (.slice e), some .string => match P.underlying e with
      | some (.int .u8) => if E = 1 ∧ len < 2 ^ 62 then some (.rd h fun r => if off + len ≤ r.cells.length then (match numsOf .u8 ((r.cells.drop off).take len) with
        | some l => some (.s (strOf l))
        | none => none) else none) else none
      | _ => none
    | _, _ => none
  | [.nl] => match P.underlying s, P.underlying d with
    | some (.slice e), some .string => match P.underlying e with
      | some (.int .u8) => some (.val (.s (strOf [])))
      | _ => none
    | _, _ => none
  | vs => effConv P s d vs

theorem run_b2s {P : Program} {w : World} {s d e : TypeId} (hs : P.underlying s = some (.slice e)) (hd : P.underlying d = some .string) (he : P.underlying e = some (.int .u8)) {A : Option Addr} {len cap : Nat} {l : List Int} (hl : l.length = len)
    (hA : A = none → len = 0) (hc : ∀ ad, A = some ad → ∀ j, j < len → w.cell? (ad.add j) = some (.int .u8 (l.getD j 0))) : (convert s d (.slice A len cap)).run P w = .ok (.string (strOf l)) w := by
  rw [run_convert_bytes_string w s d e A len cap hs he hd]
  cases A with
  | none =>
    obtain rfl := hA rfl
    have : l = [] := List.eq_nil_of_length_eq_zero hl
    subst this
    rfl
  | some ad =>
    rw [run_bytesToString w ad len cap l, fold_strOf]
    · simp [strOf]
    · have := run_loadCells (P := P) (w := w) ad len (fun j => .int .u8 (l.getD j 0)) (fun j hj => hc ad rfl j hj)
      rw [this]
      congr 1
      apply Array.ext'
      simp only [List.toList_toArray]
      apply List.ext_getElem
      · simp [hl]
      · intro j h1 h2
        simp at h1 h2
        simp [List.getD_eq_getElem?_getD, h2]

theorem strOf_size (l : List Int) : (strOf l).size = l.length := by simp [strOf, ByteArray.size]

theorem good_convB {P : Program} {s d ty : TypeId} {x : Operand} {vs : List V} {e : Eff} (h : effConvB P s d vs = some e) : Good P (.convert s d x) ty vs e := by
  unfold effConvB at h
  split at h
  · rename_i els
    split at h
    · rename_i el hs hd
      split at h
      · rename_i l he hl
        split at h
        · rename_i hlen
          cases h
          refine Good.pure fun F env D a w hlen hr => ?_
          have h0 : Rep F w env D (a.eval x) (.sl els) := hr 0 (by simp)
          have hels := numsOf_inv hl
          subst hels
          have hsrc := src_sl (E := 1) h0 (by cases l <;> simp [V.cells]) (by simp [flatCells, List.all_flatMap, V.cells, V.flat])
          have hfc := flatCells_i .u8 l
          rw [hfc] at hsrc
          obtain ⟨A, n, cap, news, hX, hnl, hnews, hn62, hA, hcells, hreps, hone⟩ := hsrc
          simp at hnl
          refine ⟨.string (strOf l), ?_, .s (by rw [strOf_size]; assumption)⟩
          simp only [execOp, hX]
          refine run_value (run_b2s hs hd he hnl hA fun ad had j hj => ?_)
          have hrj := hreps j (by simp; omega)
          have e5 : (l.map (V.i .u8)).getD j .junk = V.i .u8 (l.getD j 0) := by
            rw [List.getD_eq_getElem?_getD, List.getElem?_map, List.getElem?_eq_getElem (by omega), List.getD_eq_getElem?_getD, List.getElem?_eq_getElem (by omega)]
            rfl
          rw [e5] at hrj
          have := hrj.int_inv.1
          refine hcells ad had j _ ?_
          rw [List.getD_eq_getElem?_getD] at this
          rw [List.getElem?_eq_getElem (by omega)] at this ⊢
          simp only [Option.getD_some] at this
          rw [this]
        · cases h
      · cases h
    · cases h
  · rename_i n off len E
    split at h
    · rename_i el hs hd
      split at h
      · rename_i he
        split at h
        · rename_i hc
          obtain ⟨rfl, hlen⟩ := hc
          cases h
          intro C env fr hp D a w hsim hv m hm v' hp' used hrun
          simp only [Eff.run] at hrun
          split at hrun
          · rename_i r hr
            split at hrun
            · rename_i u hu
              cases hrun
              split at hu
              · rename_i hle
                split at hu
                · rename_i l hl
                  cases hu
                  have h0 : Rep (Fd C env hp) w env D (a.eval x) (.own n off len 1) := hv.2 0 (by simp)
                  have hcs := numsOf_inv hl
                  have hll : l.length = len := by
                    have := congrArg List.length hcs
                    simp at this
                    omega
                  rw [dd_false]
                  generalize hX : a.eval x = X at h0
                  have key : (convert s d X).run P w = .ok (.string (strOf l)) w := by
                    cases h0 with
                    | own a1 a2 a3 a4 a5 =>
                      obtain ⟨c, hw, hl2, hc⟩ := good_loadRow hsim hr a2
                      refine run_b2s hs hd he hll (by simp) fun ad had j hj => ?_
                      cases had
                      rw [add_eq, cell_row hw (by omega)]
                      have hrj := hc (off + j) (by omega)
                      have e2 : r.cells.getD (off + j) .junk = V.i .u8 (l.getD j 0) := by
                        have : ((r.cells.drop off).take len).getD j .junk = r.cells.getD (off + j) .junk := by
                          simp [List.getD_eq_getElem?_getD, List.getElem?_take, hj]
                        rw [← this, hcs, List.getD_eq_getElem?_getD, List.getElem?_map, List.getElem?_eq_getElem (by omega), List.getD_eq_getElem?_getD, List.getElem?_eq_getElem (by omega)]
                        rfl
                      rw [e2] at hrj
                      rw [hrj.int_inv.1]
                    | own0 a1 => exact run_b2s hs hd he hll (fun _ => rfl) (by simp)
                  refine ⟨env, w, _, .string (strOf l), ?_, hsim, .s (by rw [strOf_size]; omega), .inl rfl⟩
                  simp only [execOp, hX]
                  exact run_value key
                · cases hu
              · cases hu
            · cases hrun
          · cases hrun
        · cases h
      · cases h
    · cases h
  · split at h
    · rename_i el hs hd
      split at h
      · rename_i he
        cases h
        refine Good.pure fun F env D a w hlen hr => ?_
        have h0 : Rep F w env D (a.eval x) .nl := hr 0 (by simp)
        generalize hX : a.eval x = X at h0
        cases h0
        refine ⟨.string (strOf []), ?_, .s (by rw [strOf_size]; simp)⟩
        simp only [execOp, hX]
        exact run_value (run_b2s hs hd he rfl (fun _ => rfl) (by simp))
      · cases h
    · cases h
  · exact good_conv h

def effMin : List V → Option Eff
  | [.i k x, .i _ y] => some (.val (.i k (if y < x then y else x)))
  | _ => none

theorem good_min {P : Program} {ats : Array TypeId} {ty : TypeId} {x y : Operand} {vs : List V} {e : Eff} (h : effMin vs = some e) (hk : ∀ k m k' n, vs = [.i k m, .i k' n] → k = k') : Good P (.call ⟨.builtin .min, #[x, y], ats⟩) ty vs e := by
  unfold effMin at h
  split at h
  · rename_i k m k' n
    obtain rfl := hk _ _ _ _ rfl
    cases h
    refine Good.pure fun F env D a w hlen hr => ?_
    obtain ⟨e0, r0⟩ := (show Rep F w env D (a.eval x) (.i k m) from hr 0 (by simp)).int_inv
    obtain ⟨e1, r1⟩ := (show Rep F w env D (a.eval y) (.i k n) from hr 1 (by simp)).int_inv
    refine ⟨.int k (if n < m then n else m), ?_, .i (by split <;> assumption)⟩
    have : (execOp a.eval ⟨none, .call ⟨.builtin .min, #[x, y], ats⟩, ty, "", #[], none⟩) = (do pure (Next.value (← Builtin.min_ ats ty #[a.eval x, a.eval y])) : Sem Next) := by
      simp only [execOp, resolve, invoke, builtin, List.map_toArray, List.map_cons, List.map_nil]
      rfl
    rw [this, e0, e1]
    exact run_value rfl
  · cases h

/-! ### All operations but calls -/
def effCall (P : Program) (c : Call) (vs : List V) : Option Eff :=
  match c.callee, c.args, c.argTypes with
  | .builtin .len, ⟨[_]⟩, ⟨[t]⟩ => effLen P t vs
  | .builtin .append, ⟨[_, _]⟩, ⟨[t, t']⟩ => if t = t' then effAppend P t vs else none
  | .builtin .min, ⟨[_, _]⟩, _ => match vs with
    | [.i k x, .i k' y] => if k = k' then effMin vs else none
    | _ => none
  | _, _, _ => none

def eff (P : Program) (op : Op) (vs : List V) : Option Eff :=
  match op with
  | .move _ => effMove vs
  | .assign _ => effMove vs
  | .pick _ _ _ => effPick vs
  | .alloc t => effAlloc P t vs
  | .box t _ => effBox t vs
  | .build t parts => effBuild P t (parts.toList.map (·.1)) vs
  | .buildSlice t n parts => effBuildSlice P t n (parts.toList.map (·.1)) vs
  | .load t _ => effLoad P t vs
  | .store t _ _ => effStore P t vs
  | .binOp op xt _ _ _ => effBin P op xt vs
  | .unOp op _ _ => effUn op vs
  | .convert s d _ => effConvB P s d vs
  | .makeFunc fn first _ => effMakeFunc fn first.size vs
  | .makeSlice t _ _ => effMakeSlice P t vs
  | .slice t _ lo hi mx => effSlice P t lo.isSome hi.isSome mx.isSome vs
  | .fieldAddr t _ f => effFieldAddr P t f vs
  | .field t _ f => effField P t f vs
  | .indexAddr t _ _ => effIndexAddr P t vs
  | .index t _ _ => effIndex P t vs
  | .extract _ ix => effExtract ix vs
  | .call c => effCall P c vs
  | _ => none

theorem good_eff {P : Program} {op : Op} {ty : TypeId} {vs : List V} {e : Eff} (h : eff P op vs = some e) : Good P op ty vs e := by
  unfold eff at h
  split at h
  · exact good_move h
  · exact good_assign h
  · exact good_pick h
  · exact good_alloc h
  · exact good_box h
  · exact good_build h
  · exact good_buildSlice h
  · exact good_load h
  · exact good_store h
  · exact good_bin h
  · exact good_un h
  · exact good_convB h
  · exact good_makeFunc h
  · exact good_makeSlice h
  · exact good_slice h
  · exact good_fieldAddr h
  · exact good_field h
  · exact good_indexAddr h
  · exact good_index h
  · exact good_extract h
  · rename_i c
    obtain ⟨callee, args, ats⟩ := c
    unfold effCall at h
    split at h
    · rename_i h1 h2 h3
      simp only at h1 h2 h3
      subst h1 h2 h3
      exact good_len (by simp) h
    · rename_i h1 h2 h3
      simp only at h1 h2 h3
      subst h1 h2 h3
      split at h
      · rename_i ht
        subst ht
        exact good_append h
      · cases h
    · rename_i h1 h2
      simp only at h1 h2
      subst h1 h2
      split at h
      · split at h
        · rename_i hk
          exact good_min h (fun k m k' n he => by cases he; exact hk)
        · cases h
      · cases h
    · cases h
  · cases h

/-! ### Names -/
mutual
def V.ren (f : Nat → Nat) : V → V
  | .ptr h off => .ptr (f h) off
  | .own h off len E => .own (f h) off len E
  | .agg cs => .agg (V.renL f cs)
  | .tup cs => .tup (V.renL f cs)
  | .fn g cs => .fn g (V.renL f cs)
  | v => v
def V.renL (f : Nat → Nat) : List V → List V
  | [] => []
  | v :: vs => V.ren f v :: V.renL f vs
end
mutual
/-- No name stands in it. -/
def V.hf : V → Bool
  | .ptr _ _ => false
  | .own _ _ _ _ => false
  | .agg cs => V.hfL cs
  | .tup cs => V.hfL cs
  | .fn _ cs => V.hfL cs
  | _ => true
def V.hfL : List V → Bool
  | [] => true
  | v :: vs => V.hf v && V.hfL vs
end

theorem renL_length (f : Nat → Nat) (l : List V) : (V.renL f l).length = l.length := by
  induction l with
  | nil => rfl
  | cons v l ih => simp [V.renL, ih]
theorem renL_getD (f : Nat → Nat) (l : List V) : ∀ k, (V.renL f l).getD k .junk = (l.getD k .junk).ren f := by
  induction l with
  | nil => intro k; simp [V.renL, V.ren]
  | cons v l ih =>
    intro k
    cases k with
    | zero => rfl
    | succ k => exact ih k
theorem hfL_getD {l : List V} (h : V.hfL l = true) : ∀ k, (l.getD k .junk).hf = true := by
  induction l with
  | nil => intro k; simp [V.hf]
  | cons v l ih =>
    rw [V.hfL, Bool.and_eq_true] at h
    intro k
    cases k with
    | zero => exact h.1
    | succ k => exact ih h.2 k

theorem Rep.ren {F : Nat → Prop} {w : World} {env : Env} {D : Nat → Prop} {x : Value} {v : V} (h : Rep F w env D x v) : ∀ {env' : Env} {D' : Nat → Prop} (f : Nat → Nat), (∀ n, D n → D' (f n) ∧ env' (f n) = env n) → Rep F w env' D' x (v.ren f) := by
  induction h with
  | junk => intros; simp only [V.ren]; exact .junk
  | b => intros; simp only [V.ren]; exact .b
  | i hk => intros; simp only [V.ren]; exact .i hk
  | s hs => intros; simp only [V.ren]; exact .s hs
  | nl => intros; simp only [V.ren]; exact .nl
  | sl0 => intros; simp only [V.ren]; exact .sl0
  | sl y hne hc hl hF hb hE hy hr ih => intros; simp only [V.ren]; exact .sl y hne hc hl hF hb hE hy hr
  | agg hs hr ih =>
    intro env' D' f hf
    simp only [V.ren]
    refine .agg (by rw [renL_length]; exact hs) fun k hk => ?_
    rw [renL_length] at hk
    rw [renL_getD]
    exact ih k hk f hf
  | tup hs hr ih =>
    intro env' D' f hf
    simp only [V.ren]
    refine .tup (by rw [renL_length]; exact hs) fun k hk => ?_
    rw [renL_length] at hk
    rw [renL_getD]
    exact ih k hk f hf
  | ptr hD he =>
    intro env' D' f hf
    simp only [V.ren]
    exact .ptr (hf _ hD).1 ((hf _ hD).2.trans he)
  | rp y hF hb hy hr ih => intros; simp only [V.ren]; exact .rp y hF hb hy hr
  | own hD he hc hl hs =>
    intro env' D' f hf
    simp only [V.ren]
    exact .own (hf _ hD).1 ((hf _ hD).2.trans he) hc hl hs
  | own0 hD =>
    intro env' D' f hf
    simp only [V.ren]
    exact .own0 (hf _ hD).1
  | fn hs hr ih =>
    intro env' D' f hf
    simp only [V.ren]
    refine .fn (by rw [renL_length]; exact hs) fun k hk => ?_
    rw [renL_length] at hk
    rw [renL_getD]
    exact ih k hk f hf

/-- What names nothing reads the same whatever the names. -/
theorem Rep.hf {F : Nat → Prop} {w : World} {env : Env} {D : Nat → Prop} {x : Value} {v : V} (h : Rep F w env D x v) : v.hf = true → ∀ {env' : Env} {D' : Nat → Prop}, Rep F w env' D' x v := by
  induction h with
  | junk => intros; exact .junk
  | b => intros; exact .b
  | i hk => intros; exact .i hk
  | s hs => intros; exact .s hs
  | nl => intros; exact .nl
  | sl0 => intros; exact .sl0
  | sl y hne hc hl hF hb hE hy hr ih => intros; exact .sl y hne hc hl hF hb hE hy hr
  | agg hs hr ih => intro hv env' D'; rw [V.hf] at hv; exact .agg hs fun k hk => ih k hk (hfL_getD hv k)
  | tup hs hr ih => intro hv env' D'; rw [V.hf] at hv; exact .tup hs fun k hk => ih k hk (hfL_getD hv k)
  | ptr hD he => intro hv; simp [V.hf] at hv
  | rp y hF hb hy hr ih => intros; exact .rp y hF hb hy hr
  | own hD he hc hl hs => intro hv; simp [V.hf] at hv
  | own0 hD => intro hv; simp [V.hf] at hv
  | fn hs hr ih => intro hv env' D'; rw [V.hf] at hv; exact .fn hs fun k hk => ih k hk (hfL_getD hv k)

end Go.Proofs.Ytlhobedecoeohaa.Lift
