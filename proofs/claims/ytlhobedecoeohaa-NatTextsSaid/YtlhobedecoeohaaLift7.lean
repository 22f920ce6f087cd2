/- Slices that are given away for good, calls by contract. -/
import Derived.Test.YtlhobedecoeohaaLift6
set_option linter.unusedVariables false
set_option linter.unusedSimpArgs false
namespace Go.Proofs.Ytlhobedecoeohaa.Lift
open Go

/-! ### Lists of named things -/
def lkp {α : Type} : List (Nat × α) → Nat → Option α
  | [], _ => none
  | (k, x) :: r, n => if n = k then some x else lkp r n
def dlt {α : Type} : List (Nat × α) → Nat → List (Nat × α)
  | [], _ => []
  | (k, x) :: r, n => if k = n then dlt r n else (k, x) :: dlt r n
def setL {α : Type} : List (Nat × α) → Nat → α → List (Nat × α)
  | [], n, y => [(n, y)]
  | (k, x) :: r, n, y => if k = n then (n, y) :: r else (k, x) :: setL r n y

theorem lkp_cons {α : Type} (l : List (Nat × α)) (n : Nat) (x : α) : lkp ((n, x) :: l) = upd (lkp l) n (some x) := by
  funext m
  simp only [lkp, upd]
theorem lkp_dlt {α : Type} (l : List (Nat × α)) (n : Nat) : lkp (dlt l n) = upd (lkp l) n none := by
  funext m
  induction l with
  | nil => simp [dlt, lkp, upd]
  | cons p l ih =>
    obtain ⟨k, x⟩ := p
    simp only [dlt]
    by_cases e : k = n
    · subst e
      rw [if_pos rfl, ih]
      unfold upd
      by_cases e2 : m = k
      · simp [e2]
      · simp [e2, lkp]
    · rw [if_neg e]
      simp only [lkp, ih]
      unfold upd
      by_cases e2 : m = k
      · subst e2; simp [e]
      · simp [e2]
theorem lkp_set {α : Type} (l : List (Nat × α)) (n : Nat) (x : α) : lkp (setL l n x) = upd (lkp l) n (some x) := by
  funext m
  induction l with
  | nil => simp [setL, lkp, upd]
  | cons p l ih =>
    obtain ⟨k, y⟩ := p
    simp only [setL]
    by_cases e : k = n
    · subst e
      rw [if_pos rfl]
      simp only [lkp]
      unfold upd
      by_cases e2 : m = k
      · simp [e2]
      · simp [e2]
    · rw [if_neg e]
      simp only [lkp, ih]
      unfold upd
      by_cases e2 : m = k
      · subst e2; simp [e]
      · simp [e2]

/-! ### A slice of the call's own is given away for good -/
def chunks (E len : Nat) (cs : List V) : List V := if E = 1 then cs else (List.range len).map fun j => .agg ((cs.drop (j * E)).take E)

theorem chunks_one (len : Nat) (cs : List V) : chunks 1 len cs = cs := by simp [chunks]

theorem rep_chunks {F : Nat → Prop} {w : World} {env : Env} {D : Nat → Prop} {blk off len cap E : Nat} {c : Array Value} {T : TypeId} {z : Nat × Nat} {cs : List V} (hw : w.heap[blk]? = some (.cells c T z)) (hF : ¬ F blk) (hE : 0 < E) (hlen : cs.length = len * E)
    (hsz : off + len * E ≤ c.size) (hcap : len ≤ cap) (h62 : len < 2 ^ 62) (hflat : cs.all V.flat = true) (hr : ∀ k, k < cs.length → Rep F w (fun _ => none) (fun _ => False) (c.getD (off + k) undef) (cs.getD k .junk)) :
    Rep F w env D (.slice (some ⟨blk, off, none⟩) len cap) (.sl (chunks E len cs)) := by
  by_cases h0 : len = 0
  · subst h0
    have : chunks E 0 cs = [] := by
      unfold chunks
      split
      · exact List.eq_nil_of_length_eq_zero (by simpa using hlen)
      · rfl
    rw [this]
    exact .sl0
  · have hl : (chunks E len cs).length = len := by
      unfold chunks
      split
      · rename_i h1; subst h1; simpa using hlen
      · simp
    have hget : ∀ j, j < len → (chunks E len cs).getD j .junk = if E = 1 then cs.getD j .junk else .agg ((cs.drop (j * E)).take E) := by
      intro j hj
      unfold chunks
      split
      · rfl
      · simp [List.getD_eq_getElem?_getD, hj]
    have hfl : ∀ v ∈ cs, v.cells = [v] := by
      intro v hv
      rw [List.all_eq_true] at hflat
      have := hflat v hv
      cases v <;> first | rfl | (simp [V.flat] at this)
    have hcell : ∀ j k, j < len → k < E → (((chunks E len cs).getD j .junk).cells).getD k .junk = cs.getD (j * E + k) .junk := by
      intro j k hj hk
      have hjk : j * E + k < cs.length := by
        have h1 : (j + 1) * E ≤ len * E := Nat.mul_le_mul_right _ hj
        rw [Nat.succ_mul] at h1
        omega
      rw [hget j hj]
      split
      · rename_i h1
        subst h1
        obtain rfl : k = 0 := by omega
        rw [hfl _ (getD_mem (by omega))]
        simp
      · show ((cs.drop (j * E)).take E).getD k .junk = _
        simp [List.getD_eq_getElem?_getD, List.getElem?_take, hk]
    rw [show Value.slice (some ⟨blk, off, none⟩) len cap = Value.slice (some ⟨blk, off, none⟩) (chunks E len cs).length cap by rw [hl]]
    refine .sl (E := E) (fun k => c.getD (off + k) undef) (by intro h; rw [h] at hl; simp at hl; omega) (by omega) (by omega) hF (lt_of_heap hw) ?_ ?_ ?_
    · intro e he
      obtain ⟨j, hj, rfl⟩ := List.getElem_of_mem he
      have hj' : j < len := by omega
      have : (chunks E len cs)[j] = (chunks E len cs).getD j .junk := by simp [List.getD_eq_getElem?_getD, hj]
      rw [this, hget j hj']
      split
      · rename_i h1
        subst h1
        rw [hfl _ (getD_mem (by omega))]
        rfl
      · show ((cs.drop (j * E)).take E).length = E
        have h1 : (j + 1) * E ≤ len * E := Nat.mul_le_mul_right _ hj'
        rw [Nat.succ_mul] at h1
        simp
        omega
    · intro k hk
      rw [hl] at hk
      exact cell_row hw (by omega)
    · intro j k hj hk
      rw [hl] at hj
      rw [hcell j k hj hk]
      refine hr _ ?_
      have h1 : (j + 1) * E ≤ len * E := Nat.mul_le_mul_right _ hj
      rw [Nat.succ_mul] at h1
      omega

mutual
def frz (keep : List Nat) : V → List (Nat × Row) → Option (V × List (Nat × Row))
  | .own h off len E, hp => if h ∈ keep then some (.own h off len E, hp) else
      match lkp hp h with
      | some r => if 0 < E ∧ off + len * E ≤ r.cells.length ∧ ((r.cells.drop off).take (len * E)).all V.flat = true ∧ V.hfL ((r.cells.drop off).take (len * E)) = true then
          some (.sl (chunks E len ((r.cells.drop off).take (len * E))), dlt hp h) else none
      | none => none
  | .agg cs, hp => match frzL keep cs hp with
    | some (cs', hp') => some (.agg cs', hp')
    | none => none
  | .tup cs, hp => match frzL keep cs hp with
    | some (cs', hp') => some (.tup cs', hp')
    | none => none
  | .nl, hp => some (.sl [], hp)
  | v, hp => some (v, hp)
def frzL (keep : List Nat) : List V → List (Nat × Row) → Option (List V × List (Nat × Row))
  | [], hp => some ([], hp)
  | v :: vs, hp => match frz keep v hp with
    | some (v', hp') => match frzL keep vs hp' with
      | some (vs', hp'') => some (v' :: vs', hp'')
      | none => none
    | none => none
end

theorem Rep.sub {F F' : Nat → Prop} {w : World} {env : Env} {D : Nat → Prop} {x : Value} {v : V} (h : Rep F w env D x v) (hF : ∀ b, F' b → F b) : Rep F' w env D x v :=
  h.mono (fun b _ hn => ⟨fun h => hn (hF b h), rfl⟩) (fun _ c _ _ h => ⟨c, rfl, h⟩) (Nat.le_refl _) (fun _ hD => ⟨hD, rfl⟩)

theorem Fd.drop {C : Ctx} {env : Env} {hp : Nat → Option Row} {n b : Nat} (h : Fd C env (upd hp n none) b) : Fd C env hp b := by
  rcases h with ho | ⟨m, hm, he⟩
  · exact .inl ho
  · refine .inr ⟨m, ?_, he⟩
    by_cases e : m = n
    · subst e; simp at hm
    · rwa [upd_ne _ _ e] at hm

theorem frz_own {C : Ctx} {env : Env} {fr : Nat → Option V} {hp : List (Nat × Row)} {D : Nat → Prop} {a : Act} {w : World} (hs : Sim C env fr (lkp hp) D a w) {h off len E : Nat} {r : Row} (hr : lkp hp h = some r) (hE : 0 < E) (hle : off + len * E ≤ r.cells.length)
    (hflat : ((r.cells.drop off).take (len * E)).all V.flat = true) (hhf : V.hfL ((r.cells.drop off).take (len * E)) = true) {x : Value} (hx : Rep (Fd C env (lkp hp)) w env D x (.own h off len E)) :
    Rep (Fd C env (lkp (dlt hp h))) w env D x (.sl (chunks E len ((r.cells.drop off).take (len * E)))) := by
  rw [lkp_dlt]
  cases hx with
  | own a1 a2 a3 a4 a5 =>
    rename_i cap blk
    obtain ⟨c, hw, hl, hc⟩ := good_loadRow hs hr a2
    have hsome : (lkp hp h).isSome = true := by simp [hr]
    have hnF : ¬ Fd C env (upd (lkp hp) h none) blk := by
      rintro (ho | ⟨m, hm, he⟩)
      · exact (hs.old h blk hsome a2).1 ho
      · by_cases e : m = h
        · subst e; simp at hm
        · rw [upd_ne _ _ e] at hm
          exact e (hs.inj m h blk hm hsome he a2)
    refine rep_chunks hw hnF hE (by simp; omega) (by omega) a3 a4 hflat fun k hk => ?_
    have hk' : k < len * E := by simp at hk; omega
    have e2 : ((r.cells.drop off).take (len * E)).getD k .junk = r.cells.getD (off + k) .junk := by
      simp [List.getD_eq_getElem?_getD, List.getElem?_take, hk']
    have h3 := hfL_getD hhf k
    rw [e2] at h3 ⊢
    exact ((hc (off + k) (by omega)).hf h3).sub (fun b => Fd.drop)
  | own0 a1 =>
    have : chunks E 0 ((r.cells.drop 0).take (0 * E)) = [] := by
      unfold chunks
      split <;> simp
    rw [this]
    exact .sl0

mutual
theorem frz_sound {C : Ctx} {env : Env} {fr : Nat → Option V} {D : Nat → Prop} {a : Act} {w : World} (keep : List Nat) : ∀ (v : V) (hp : List (Nat × Row)) {v' : V} {hp' : List (Nat × Row)}, frz keep v hp = some (v', hp') → Sim C env fr (lkp hp) D a w →
    Sim C env fr (lkp hp') D a w ∧ (∀ b, Fd C env (lkp hp') b → Fd C env (lkp hp) b) ∧ ∀ x, Rep (Fd C env (lkp hp)) w env D x v → Rep (Fd C env (lkp hp')) w env D x v'
  | .own h off len E, hp, v', hp', hf, hs => by
    simp only [frz] at hf
    split at hf
    · cases hf; exact ⟨hs, fun _ h => h, fun _ h => h⟩
    · split at hf
      · rename_i r hr
        split at hf
        · rename_i hc
          obtain ⟨c1, c2, c3, c4⟩ := hc
          cases hf
          refine ⟨by rw [lkp_dlt]; exact hs.drop h, fun b hb => by rw [lkp_dlt] at hb; exact Fd.drop hb, fun x hx => frz_own hs hr c1 c2 c3 c4 hx⟩
        · cases hf
      · cases hf
  | .agg cs, hp, v', hp', hf, hs => by
    simp only [frz] at hf
    split at hf
    · rename_i cs' hp1 hcs
      cases hf
      obtain ⟨h1, h2, h3, h4⟩ := frzL_sound keep cs hp hcs hs
      refine ⟨h1, h2, fun x hx => ?_⟩
      obtain ⟨xs, rfl, hsz, hr⟩ := hx.agg_inv
      exact .agg (by omega) (fun k hk => h4 xs (by omega) hr k hk)
    · cases hf
  | .tup cs, hp, v', hp', hf, hs => by
    simp only [frz] at hf
    split at hf
    · rename_i cs' hp1 hcs
      cases hf
      obtain ⟨h1, h2, h3, h4⟩ := frzL_sound keep cs hp hcs hs
      refine ⟨h1, h2, fun x hx => ?_⟩
      obtain ⟨xs, rfl, hsz, hr⟩ := hx.tup_inv
      exact .tup (by omega) (fun k hk => h4 xs (by omega) hr k hk)
    · cases hf
  | .junk, hp, v', hp', hf, hs => by simp only [frz] at hf; cases hf; exact ⟨hs, fun _ h => h, fun _ h => h⟩
  | .b _, hp, v', hp', hf, hs => by simp only [frz] at hf; cases hf; exact ⟨hs, fun _ h => h, fun _ h => h⟩
  | .i _ _, hp, v', hp', hf, hs => by simp only [frz] at hf; cases hf; exact ⟨hs, fun _ h => h, fun _ h => h⟩
  | .s _, hp, v', hp', hf, hs => by simp only [frz] at hf; cases hf; exact ⟨hs, fun _ h => h, fun _ h => h⟩
  | .nl, hp, v', hp', hf, hs => by
    simp only [frz] at hf
    cases hf
    refine ⟨hs, fun _ h => h, fun x hx => ?_⟩
    cases hx
    exact .sl0
  | .sl _, hp, v', hp', hf, hs => by simp only [frz] at hf; cases hf; exact ⟨hs, fun _ h => h, fun _ h => h⟩
  | .ptr _ _, hp, v', hp', hf, hs => by simp only [frz] at hf; cases hf; exact ⟨hs, fun _ h => h, fun _ h => h⟩
  | .rp _, hp, v', hp', hf, hs => by simp only [frz] at hf; cases hf; exact ⟨hs, fun _ h => h, fun _ h => h⟩
  | .fn _ _, hp, v', hp', hf, hs => by simp only [frz] at hf; cases hf; exact ⟨hs, fun _ h => h, fun _ h => h⟩
theorem frzL_sound {C : Ctx} {env : Env} {fr : Nat → Option V} {D : Nat → Prop} {a : Act} {w : World} (keep : List Nat) : ∀ (vs : List V) (hp : List (Nat × Row)) {vs' : List V} {hp' : List (Nat × Row)}, frzL keep vs hp = some (vs', hp') → Sim C env fr (lkp hp) D a w →
    Sim C env fr (lkp hp') D a w ∧ (∀ b, Fd C env (lkp hp') b → Fd C env (lkp hp) b) ∧ vs'.length = vs.length ∧
      ∀ (xs : Array Value), xs.size = vs.length → (∀ k, k < vs.length → Rep (Fd C env (lkp hp)) w env D (xs.getD k undef) (vs.getD k .junk)) → ∀ k, k < vs'.length → Rep (Fd C env (lkp hp')) w env D (xs.getD k undef) (vs'.getD k .junk)
  | [], hp, vs', hp', hf, hs => by
    simp only [frzL] at hf
    cases hf
    exact ⟨hs, fun _ h => h, rfl, fun xs _ _ k hk => by simp at hk⟩
  | v :: vs, hp, vs', hp', hf, hs => by
    simp only [frzL] at hf
    split at hf
    · rename_i v1 hp1 h1
      split at hf
      · rename_i vs1 hp2 h2
        cases hf
        obtain ⟨s1, f1, r1⟩ := frz_sound keep v hp h1 hs
        obtain ⟨s2, f2, l2, r2⟩ := frzL_sound keep vs hp1 h2 s1
        refine ⟨s2, fun b hb => f1 b (f2 b hb), by simp [l2], fun xs hsz hr k hk => ?_⟩
        cases k with
        | zero =>
          have := r1 _ (hr 0 (by simp))
          exact this.sub f2
        | succ k =>
          simp only [List.getD_cons_succ]
          have := r2 (xs.extract 1 xs.size) (by simp [hsz]) (fun j hj => by
            have h3 := hr (j + 1) (by simp; omega)
            simp only [List.getD_cons_succ] at h3
            have e : (xs.extract 1 xs.size).getD j undef = xs.getD (j + 1) undef := by
              rw [Array.getD_eq_getD_getElem?, Array.getD_eq_getD_getElem?, Array.getElem?_extract]
              simp only [List.length_cons] at hsz
              rw [if_pos (by omega), Nat.add_comm]
            rw [e]
            exact h3.sub f1) k (by simpa using hk)
          have e : (xs.extract 1 xs.size).getD k undef = xs.getD (k + 1) undef := by
            rw [Array.getD_eq_getD_getElem?, Array.getD_eq_getD_getElem?, Array.getElem?_extract]
            simp only [List.length_cons] at hsz hk
            rw [if_pos (by omega), Nat.add_comm]
          rw [e] at this
          exact this
      · cases hf
    · cases hf
end

/-! ### Contracts -/
def PFd (O : Nat → Prop) (rows : List Row) (env : Env) (b : Nat) : Prop := O b ∨ ∃ h, h < rows.length ∧ env h = some b

/-- What a call has left: its result, and new rows (named 0, 1, ..) that the result may name. -/
def Came (O : Nat → Prop) (w w' : World) (x : Value) (r : V) (rows : List Row) : Prop :=
  Step (fun _ => False) w w' ∧ ∃ env : Env,
    (∀ h q, rows[h]? = some q → RowAt (PFd O rows env) w' env (· < rows.length) h q) ∧
    (∀ h b, h < rows.length → env h = some b → w.heap.size ≤ b) ∧
    (∀ h h' b, h < rows.length → h' < rows.length → env h = some b → env h' = some b → h = h') ∧
    Rep (PFd O rows env) w' env (· < rows.length) x r

/-- The contract of a function that gets nothing of its caller's own: whatever memory it is called in. -/
def PCall (P : Program) (f : FuncId) (args : List V) (r : V) (rows : List Row) : Prop :=
  (∀ xs w, (callFunc f xs).run P w = .ok (.enter f xs) w) ∧
  ∀ (O : Nat → Prop) (w : World) (xs : Array Value), (∀ b, O b → b < w.heap.size) → xs.size = args.length → (∀ k, k < args.length → Rep O w (fun _ => none) (fun _ => False) (xs.getD k undef) (args.getD k .junk)) →
    Calls P f xs w (fun e w' => ∃ x, e = .returned x ∧ Came O w w' x r rows)

def Row.ren (f : Nat → Nat) (r : Row) : Row := ⟨r.T, V.renL f r.cells⟩

/-- What was left joins what is the caller's own. -/
theorem Sim.join {C : Ctx} {env : Env} {fr : Nat → Option V} {hp : Nat → Option Row} {D : Nat → Prop} {a : Act} {w w' : World} (h : Sim C env fr hp D a w) {x : Value} {r : V} {rows : List Row} (hc : Came (Fd C env hp) w w' x r rows) {n : Nat} (hn : ∀ j, j < rows.length → ¬ D (n + j)) :
    ∃ env', Sim C env' fr (fun m => if n ≤ m ∧ m < n + rows.length then (rows[m - n]?).map (Row.ren (n + ·)) else hp m) (fun m => D m ∨ (n ≤ m ∧ m < n + rows.length)) a w' ∧
      Rep (Fd C env' (fun m => if n ≤ m ∧ m < n + rows.length then (rows[m - n]?).map (Row.ren (n + ·)) else hp m)) w' env' (fun m => D m ∨ (n ≤ m ∧ m < n + rows.length)) x (r.ren (n + ·)) := by
  obtain ⟨hs, e1, hrow, hnew, hinj, hrep⟩ := hc
  have hout : ∀ m, D m → ¬ (n ≤ m ∧ m < n + rows.length) := fun m hm hin => hn (m - n) (by omega) (by rw [show n + (m - n) = m by omega]; exact hm)
  have hhp : ∀ m, (hp m).isSome = true → D m := fun m hm => by
    obtain ⟨q, hq⟩ := Option.isSome_iff_exists.1 hm
    exact (h.row m q hq).1
  let env' : Env := fun m => if n ≤ m ∧ m < n + rows.length then e1 (m - n) else env m
  let hp' : Nat → Option Row := fun m => if n ≤ m ∧ m < n + rows.length then (rows[m - n]?).map (Row.ren (n + ·)) else hp m
  let D' : Nat → Prop := fun m => D m ∨ (n ≤ m ∧ m < n + rows.length)
  have envOut : ∀ m, ¬ (n ≤ m ∧ m < n + rows.length) → env' m = env m := fun m hm => if_neg hm
  have envIn : ∀ j, j < rows.length → env' (n + j) = e1 j := fun j hj => by
    show (if n ≤ n + j ∧ n + j < n + rows.length then e1 (n + j - n) else env (n + j)) = e1 j
    rw [if_pos ⟨by omega, by omega⟩, show n + j - n = j by omega]
  have hpOut : ∀ m, ¬ (n ≤ m ∧ m < n + rows.length) → hp' m = hp m := fun m hm => if_neg hm
  have hpIn : ∀ j, j < rows.length → hp' (n + j) = (rows[j]?).map (Row.ren (n + ·)) := fun j hj => by
    show (if n ≤ n + j ∧ n + j < n + rows.length then (rows[n + j - n]?).map (Row.ren (n + ·)) else hp (n + j)) = _
    rw [if_pos ⟨by omega, by omega⟩, show n + j - n = j by omega]
  have hFd : ∀ b, Fd C env' hp' b → PFd (Fd C env hp) rows e1 b := by
    rintro b (ho | ⟨m, hm, he⟩)
    · exact .inl (.inl ho)
    · by_cases hin : n ≤ m ∧ m < n + rows.length
      · obtain ⟨j, rfl⟩ : ∃ j, m = n + j := ⟨m - n, by omega⟩
        rw [envIn j (by omega)] at he
        exact .inr ⟨j, by omega, he⟩
      · rw [hpOut m hin] at hm
        rw [envOut m hin] at he
        exact .inl (.inr ⟨m, hm, he⟩)
  have lift : ∀ {x : Value} {v : V}, Rep (Fd C env hp) w env D x v → Rep (Fd C env' hp') w' env' D' x v := by
    intro x v hx
    refine hx.mono (fun b hb hF => ⟨fun hF' => ?_, hs.keep b hb (fun f => f)⟩) hs.shape hs.size (fun m hm => ⟨.inl hm, envOut m (hout m hm)⟩)
    rcases hFd b hF' with h1 | ⟨j, hj, he⟩
    · exact hF h1
    · exact absurd hb (Nat.not_lt.2 (hnew j b hj he))
  have liftN : ∀ {x : Value} {v : V}, Rep (PFd (Fd C env hp) rows e1) w' e1 (· < rows.length) x v → Rep (Fd C env' hp') w' env' D' x (v.ren (n + ·)) := by
    intro x v hx
    exact (hx.sub hFd).ren (n + ·) (fun j hj => ⟨.inr ⟨by omega, by omega⟩, envIn j hj⟩)
  refine ⟨env', ?_, liftN hrep⟩
  exact {
    sz := h.sz
    df := h.df
    tm := fun t v ht => ⟨(h.tm t v ht).1, lift (h.tm t v ht).2⟩
    row := by
      intro m q hq
      have hq' : hp' m = some q := hq
      by_cases hin : n ≤ m ∧ m < n + rows.length
      · refine ⟨.inr hin, ?_⟩
        obtain ⟨j, rfl⟩ : ∃ j, m = n + j := ⟨m - n, by omega⟩
        have hj : j < rows.length := by omega
        rw [hpIn j hj] at hq'
        cases hrj : rows[j]? with
        | none => rw [hrj] at hq'; cases hq'
        | some q0 =>
          rw [hrj] at hq'
          cases hq'
          rcases hrow j q0 hrj with ⟨blk, c, he, hw, hl, hc⟩ | ⟨he, hv⟩
          · refine .inl ⟨blk, c, (envIn j hj).trans he, hw, by simp only [Row.ren, renL_length]; exact hl, fun k hk => ?_⟩
            simp only [Row.ren, renL_length] at hk
            show Rep _ _ _ _ _ ((V.renL (n + ·) q0.cells).getD k .junk)
            rw [renL_getD]
            exact liftN (hc k hk)
          · exact .inr ⟨(envIn j hj).trans he, by simp [Row.ren, hv, V.renL]⟩
      · rw [hpOut m hin] at hq'
        refine ⟨.inl (h.row m q hq').1, ?_⟩
        rcases (h.row m q hq').2 with ⟨blk, c, he, hw, hl, hc⟩ | ⟨he, hv⟩
        · exact .inl ⟨blk, c, (envOut m hin).trans he, (hs.keep blk (lt_of_heap hw) (fun f => f)).trans hw, hl, fun k hk => lift (hc k hk)⟩
        · exact .inr ⟨(envOut m hin).trans he, hv⟩
    old := by
      intro m b hm he
      by_cases hin : n ≤ m ∧ m < n + rows.length
      · obtain ⟨j, rfl⟩ : ∃ j, m = n + j := ⟨m - n, by omega⟩
        have hj : j < rows.length := by omega
        have hb := hnew j b hj ((envIn j hj).symm.trans he)
        exact ⟨fun ho => absurd (Nat.lt_of_lt_of_le (h.ob b ho).1 h.st.size) (Nat.not_lt.2 hb), .inl (Nat.le_trans h.st.size hb)⟩
      · have hm' : (hp' m).isSome = true := hm
        rw [hpOut m hin] at hm'
        exact h.old m b hm' ((envOut m hin).symm.trans he)
    inj := by
      intro m m' b hm hm' he he'
      have hm1 : (hp' m).isSome = true := hm
      have hm1' : (hp' m').isSome = true := hm'
      by_cases hin : n ≤ m ∧ m < n + rows.length
      · obtain ⟨j, rfl⟩ : ∃ j, m = n + j := ⟨m - n, by omega⟩
        have hj : j < rows.length := by omega
        have hb := hnew j b hj ((envIn j hj).symm.trans he)
        by_cases hin' : n ≤ m' ∧ m' < n + rows.length
        · obtain ⟨j', rfl⟩ : ∃ j, m' = n + j := ⟨m' - n, by omega⟩
          have hj' : j' < rows.length := by omega
          rw [hinj j j' b hj hj' ((envIn j hj).symm.trans he) ((envIn j' hj').symm.trans he')]
        · rw [hpOut m' hin'] at hm1'
          exact absurd (h.fd_lt (.inr ⟨m', hm1', (envOut m' hin').symm.trans he'⟩)) (Nat.not_lt.2 hb)
      · rw [hpOut m hin] at hm1
        by_cases hin' : n ≤ m' ∧ m' < n + rows.length
        · obtain ⟨j', rfl⟩ : ∃ j, m' = n + j := ⟨m' - n, by omega⟩
          have hj' : j' < rows.length := by omega
          have hb := hnew j' b hj' ((envIn j' hj').symm.trans he')
          exact absurd (h.fd_lt (.inr ⟨m, hm1, (envOut m hin).symm.trans he⟩)) (Nat.not_lt.2 hb)
        · rw [hpOut m' hin'] at hm1'
          exact h.inj m m' b hm1 hm1' ((envOut m hin).symm.trans he) ((envOut m' hin').symm.trans he')
    st := h.st.trans hs (fun _ _ f => f.elim)
    ob := h.ob
    gv := fun m hm => ⟨.inl (h.gv m hm).1, (envOut m (hout m (h.gv m hm).1)).trans (h.gv m hm).2⟩ }

end Go.Proofs.Ytlhobedecoeohaa.Lift
