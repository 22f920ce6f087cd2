/- A row that nobody writes any more: pointers into it and slices onto it become plain values, wherever they stand. -/
import Derived.Test.YtepkjfnffbdcoaaGE
set_option linter.unusedVariables false
set_option linter.unusedSimpArgs false
namespace Go.Proofs.Ytepkjfnffbdcoaa.Lift
open Go

inductive FzV (n : Nat) (cs : List V) : V → V → Prop
  | same {v : V} : FzV n cs v v
  | ptr {off : Nat} {ds : List V} : cs.drop off = ds → FzV n cs (.ptr n off) (.rp ds)
  | own {off len E : Nat} {els : List V} : okFrz off len E cs = true → chunks E len ((cs.drop off).take (len * E)) = els → FzV n cs (.own n off len E) (.sl els)
  | agg {l l' : List V} : l.length = l'.length → (∀ k, k < l'.length → FzV n cs (l.getD k .junk) (l'.getD k .junk)) → FzV n cs (.agg l) (.agg l')
  | tup {l l' : List V} : l.length = l'.length → (∀ k, k < l'.length → FzV n cs (l.getD k .junk) (l'.getD k .junk)) → FzV n cs (.tup l) (.tup l')
  | fn {f : Nat} {l l' : List V} : l.length = l'.length → (∀ k, k < l'.length → FzV n cs (l.getD k .junk) (l'.getD k .junk)) → FzV n cs (.fn f l) (.fn f l')

theorem fd_upd_none {C : Ctx} {env : Env} {fr : Nat → Option V} {hp : Nat → Option Row} {D : Nat → Prop} {a : Act} {w : World} (hs : Sim C env fr hp D a w) {n blk : Nat} {r : Row} (hr : hp n = some r) (he : env n = some blk) : ¬ Fd C env (upd hp n none) blk := by
  have hsome : (hp n).isSome = true := by simp [hr]
  rintro (ho | ⟨m, hm, he'⟩)
  · exact (hs.old n blk hsome he).1 ho
  · by_cases e : m = n
    · subst e; simp at hm
    · rw [upd_ne _ _ e] at hm
      exact e (hs.inj m n blk hm hsome he' he)

theorem Rep.fzv {C : Ctx} {env : Env} {fr : Nat → Option V} {hp : Nat → Option Row} {D : Nat → Prop} {a : Act} {w : World} (hs : Sim C env fr hp D a w) {n : Nat} {r : Row} (hr : hp n = some r) (hh : V.hfL r.cells = true) {v v' : V} (h : FzV n r.cells v v') :
    ∀ x : Value, Rep (Fd C env hp) w env D x v → Rep (Fd C env (upd hp n none)) w env D x v' := by
  induction h with
  | same => exact fun x hx => hx.sub fun b => Fd.drop
  | ptr hd =>
    rename_i off ds
    intro x hx
    subst hd
    obtain ⟨blk, rfl, he, hD⟩ := hx.ptr_inv
    obtain ⟨c, hw, hl, hc⟩ := good_loadRow hs hr he
    refine .rp (fun k => c.getD (off + k) undef) (fd_upd_none hs hr he) (lt_of_heap hw) (fun k hk => ?_) (fun k hk => ?_)
    · have : k < r.cells.length - off := by simpa using hk
      exact cell_row hw (by omega)
    · have hk' : k < r.cells.length - off := by simpa using hk
      have e2 : (r.cells.drop off).getD k .junk = r.cells.getD (off + k) .junk := by
        simp [List.getD_eq_getElem?_getD]
      rw [e2]
      exact ((hc (off + k) (by omega)).hf (hfL_getD hh _)).sub fun b => Fd.drop
  | own hk he =>
    rename_i off len E els
    intro x hx
    subst he
    unfold okFrz at hk
    simp only [Bool.and_eq_true, decide_eq_true_eq] at hk
    obtain ⟨⟨⟨c1, c2⟩, c3⟩, c4⟩ := hk
    cases hx with
    | own a1 a2 a3 a4 a5 =>
      rename_i cap blk
      obtain ⟨c, hw, hl, hc⟩ := good_loadRow hs hr a2
      refine rep_chunks hw (fd_upd_none hs hr a2) c1 (by simp; omega) (by omega) a3 a4 c3 fun k hk => ?_
      have hk' : k < len * E := by simp at hk; omega
      have e2 : ((r.cells.drop off).take (len * E)).getD k .junk = r.cells.getD (off + k) .junk := by
        simp [List.getD_eq_getElem?_getD, List.getElem?_take, hk']
      have h3 := hfL_getD c4 k
      rw [e2] at h3 ⊢
      exact ((hc (off + k) (by omega)).hf h3).sub fun b => Fd.drop
    | own0 a1 =>
      have : chunks E 0 ((r.cells.drop 0).take (0 * E)) = [] := by
        unfold chunks
        split <;> simp
      rw [this]
      exact .sl0
  | agg hl hk ih =>
    intro x hx
    obtain ⟨xs, rfl, hsz, hr⟩ := hx.agg_inv
    exact .agg (by omega) fun k hk => ih k hk _ (hr k (by omega))
  | tup hl hk ih =>
    intro x hx
    obtain ⟨xs, rfl, hsz, hr⟩ := hx.tup_inv
    exact .tup (by omega) fun k hk => ih k hk _ (hr k (by omega))
  | fn hl hk ih =>
    intro x hx
    cases hx with
    | fn hsz hr => exact .fn (by omega) fun k hk => ih k hk _ (hr k (by omega))

inductive FzFr (n : Nat) (cs : List V) (fr : List (Nat × V)) : List (Nat × V) → Prop
  | nil : FzFr n cs fr []
  | cons {t : Nat} {v v' : V} {l : List (Nat × V)} : lkp fr t = some v → FzV n cs v v' → FzFr n cs fr l → FzFr n cs fr ((t, v') :: l)
inductive FzHp (n : Nat) (cs : List V) (hp : List (Nat × Row)) : List (Nat × Row) → Prop
  | nil : FzHp n cs hp []
  | cons {h : Nat} {q q' : Row} {l : List (Nat × Row)} : h ≠ n → lkp hp h = some q → q'.T = q.T → q'.cells.length = q.cells.length → (∀ k, k < q'.cells.length → FzV n cs (q.cells.getD k .junk) (q'.cells.getD k .junk)) → FzHp n cs hp l → FzHp n cs hp ((h, q') :: l)
theorem FzHp.keep {n : Nat} {cs : List V} {hp l : List (Nat × Row)} {h : Nat} {q : Row} (hn : h ≠ n) (hl : lkp hp h = some q) (hr : FzHp n cs hp l) : FzHp n cs hp ((h, q) :: l) := .cons hn hl rfl rfl (fun _ _ => .same) hr
theorem FzFr.lkp {n : Nat} {cs : List V} {fr l : List (Nat × V)} (h : FzFr n cs fr l) : ∀ {t : Nat} {v' : V}, lkp l t = some v' → ∃ v, Lift.lkp fr t = some v ∧ FzV n cs v v' := by
  induction h with
  | nil => intro t v' h; cases h
  | cons h1 h2 h3 ih =>
    intro t v' h
    simp only [Lift.lkp] at h
    split at h
    · rename_i e
      cases h
      subst e
      exact ⟨_, h1, h2⟩
    · exact ih h
theorem FzHp.lkp {n : Nat} {cs : List V} {hp l : List (Nat × Row)} (hh : FzHp n cs hp l) : ∀ {h : Nat} {q' : Row}, lkp l h = some q' → h ≠ n ∧ ∃ q, Lift.lkp hp h = some q ∧ q'.T = q.T ∧ q'.cells.length = q.cells.length ∧ ∀ k, k < q'.cells.length → FzV n cs (q.cells.getD k .junk) (q'.cells.getD k .junk) := by
  induction hh with
  | nil => intro t v' h; cases h
  | cons h1 h2 h3 h4 h5 h6 ih =>
    intro t v' h
    simp only [Lift.lkp] at h
    split at h
    · rename_i e
      cases h
      subst e
      exact ⟨h1, _, h2, h3, h4, h5⟩
    · exact ih h

theorem AX.fz {P : Program} {C : Ctx} {st : St} {Q : Exit → St → Prop} (n : Nat) {r : Row} {fr' : List (Nat × V)} {hp' : List (Nat × Row)} {c : Code} (hr : lkp st.hp n = some r) (hh : V.hfL r.cells = true) (h1 : FzFr n r.cells st.fr fr') (h2 : FzHp n r.cells st.hp hp')
    (h : AX P C c ⟨fr', hp', st.nx⟩ Q) : AX P C c st Q := by
  intro env a w hs
  have hsub : ∀ m, (lkp hp' m).isSome = true → m ≠ n ∧ (lkp st.hp m).isSome = true := by
    intro m hm
    obtain ⟨q', hq'⟩ := Option.isSome_iff_exists.1 hm
    obtain ⟨e, q, hq, _⟩ := h2.lkp hq'
    exact ⟨e, by simp [hq]⟩
  have hF : ∀ b, Fd C env (lkp hp') b → Fd C env (upd (lkp st.hp) n none) b := by
    rintro b (ho | ⟨m, hm, he⟩)
    · exact .inl ho
    · obtain ⟨e, hm'⟩ := hsub m hm
      exact .inr ⟨m, by rwa [upd_ne _ _ e], he⟩
  refine h env a w ?_
  exact {
    sz := hs.sz
    df := hs.df
    tm := by
      intro t v' hv
      obtain ⟨v, g1, g2⟩ := h1.lkp hv
      obtain ⟨g3, g4⟩ := hs.tm t v g1
      exact ⟨g3, (Rep.fzv hs hr hh g2 _ g4).sub hF⟩
    row := by
      intro m q' hq'
      obtain ⟨e, q, hq, g1, g2, g3⟩ := h2.lkp hq'
      obtain ⟨g4, g5⟩ := hs.row m q hq
      refine ⟨g4, ?_⟩
      rcases g5 with ⟨blk, c, e1, e2, e3, e4⟩ | ⟨e1, e2⟩
      · exact .inl ⟨blk, c, e1, by rw [g1]; exact e2, by omega, fun k hk => (Rep.fzv hs hr hh (g3 k hk) _ (e4 k (by omega))).sub hF⟩
      · refine .inr ⟨e1, List.eq_nil_of_length_eq_zero (by rw [g2, e2]; rfl)⟩
    old := fun m b hm he => hs.old m b (hsub m hm).2 he
    inj := fun m m' b hm hm' e1 e2 => hs.inj m m' b (hsub m hm).2 (hsub m' hm').2 e1 e2
    st := hs.st
    ob := hs.ob
    gv := hs.gv }

end Go.Proofs.Ytepkjfnffbdcoaa.Lift
