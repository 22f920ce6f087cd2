/- Further rules: a slice held against nil. -/
import Derived.Test.YtlhobedecoeohaaLift11
set_option linter.unusedVariables false
set_option linter.unusedSimpArgs false
namespace Go.Proofs.Ytlhobedecoeohaa.Lift
open Go

theorem run_eqAN {P : Program} {w : World} {t el : TypeId} (hu : P.underlying t = some (.slice el)) (a : Option Addr) (m c : Nat) : ∃ b, (binOp .eql t (.slice a m c) (.slice none 0 0)).run P w = .ok (.bool b) w := by
  have h : ∃ b, (Op.equal t (.slice a m c) (.slice none 0 0)).run P w = .ok b w := by
    cases a with
    | none => refine ⟨true, ?_⟩; rw [equal_unfold, Op.equalIn]; simp only [Sem.run_bind, r_under hu, Result.andThen_ok]; rfl
    | some a => exact ⟨false, run_equalSN hu a m c⟩
  obtain ⟨b, hb⟩ := h
  refine ⟨b, ?_⟩
  show (do pure (Value.bool (← Op.equal t (.slice a m c) (.slice none 0 0))) : Sem Value).run P w = _
  simp only [Sem.run_bind, hb, Result.andThen_ok]
  rfl

/-- An empty slice held against nil: either answer. -/
theorem AX.isnil {P : Program} {C : Ctx} {st : St} {Q : Exit → St → Prop} {id : Nat} {o1 o2 : Oper} {t0 t3 t4 : Tmp} {xt yt e : TypeId} {y : Operand} (h1 : o1.op = .move (.tmp t0)) (d1 : o1.dst = some t3) (g1 : o1.guard = none)
    (h2 : o2.op = .binOp .eql xt (.tmp t3) y yt) (d2 : o2.dst = some t4) (g2 : o2.guard = none) (hy : ∀ fr, valOf fr y = some .nl) (hu : P.underlying xt = some (.slice e)) (h0 : lkp st.fr t0 = some (.sl [])) (hN : t3 < C.N ∧ t4 < C.N)
    (hq : ∀ b, Q .normal ⟨(t4, .b b) :: (t3, .sl []) :: st.fr, st.hp, st.nx⟩) : AX P C (.region id #[o1, o2] false) st Q := by
  intro env a w hs
  refine wp_region ?_
  have hr : List.range (#[o1, o2] : Array Oper).size = [0, 1] := rfl
  rw [hr, wpOps_cons]
  refine stepOp_sound (G := noG) noG_ok (st' := ⟨(t3, .sl []) :: st.fr, st.hp, st.nx⟩) hs (o := o1) ?_ rfl ?_
  · unfold stepOp guardOf
    rw [g1, h1, d1]
    simp [Op.operands, valsOf, valOf, h0, isCall, eff, effMove, Eff.runL, putSt, hN.1]
  · intro env' a' w' hs'
    rw [wpOps_cons]
    unfold wpOp
    simp only [show (#[o1, o2] : Array Oper)[1]? = some o2 from rfl]
    have hw : Region.wanted o2 (yielded #[o1, o2] a'.tmps) = true := by simp [Region.wanted, g2]
    rw [if_pos hw]
    refine .inl ?_
    have hx : Rep (Fd C env' (lkp st.hp)) w' env' (· < st.nx) (a'.eval (.tmp t3)) (.sl []) := valOf_sound hs' (x := .tmp t3) (by simp [valOf, lkp])
    have hyy : Rep (Fd C env' (lkp st.hp)) w' env' (· < st.nx) (a'.eval y) .nl := valOf_sound hs' (hy _)
    generalize hX : a'.eval (.tmp t3) = X at hx
    generalize hY : a'.eval y = Y at hyy
    have key : ∃ b, (execOp a'.eval ⟨none, o2.op, o2.type, "", #[], none⟩).run P w' = .ok (.value (.bool b)) w' := by
      cases hyy with
      | nl =>
        cases hx with
        | sl0 =>
          rename_i aa cap
          obtain ⟨b, hb⟩ := run_eqAN (P := P) (w := w') hu aa 0 cap
          refine ⟨b, ?_⟩
          rw [h2]
          exact run_bin (by rw [hX]; trivial) (by rw [hX, hY]; exact hb)
        | sl y hne => exact absurd rfl hne
    obtain ⟨b, hb⟩ := key
    refine wp_of_value hb (.inl rfl) ?_
    refine ⟨_, env', hq b, ?_⟩
    rw [d2]
    exact putSt_sound (fr := (t3, .sl []) :: st.fr) (hp := st.hp) (nx := st.nx) (by simp [putSt, hN.2]) hs' .b

/-- A nil slice taken for an empty row of its own. -/
theorem AX.own0 {P : Program} {C : Ctx} {st : St} {Q : Exit → St → Prop} (t : Tmp) (T : TypeId) (E : Nat) {c : Code} (h0 : lkp st.fr t = some .nl) (h : AX P C c ⟨(t, .own st.nx 0 0 E) :: st.fr, (st.nx, ⟨T, []⟩) :: st.hp, st.nx + 1⟩ Q) : AX P C c st Q := by
  intro env a w hs
  have h1 := hs.newVirtual (n := st.nx) (Nat.lt_irrefl _) T
  have hnl : a.eval (.tmp t) = .slice none 0 0 := by
    have := valOf_sound hs (x := .tmp t) h0
    generalize a.eval (.tmp t) = X at this
    cases this with
    | nl => rfl
  have hD : (fun m => m < st.nx ∨ m = st.nx) = (· < st.nx + 1) := by
    funext m
    simp only [eq_iff_iff]
    omega
  refine h (upd env st.nx none) a w ?_
  show Sim C (upd env st.nx none) (lkp ((t, .own st.nx 0 0 E) :: st.fr)) (lkp ((st.nx, ⟨T, []⟩) :: st.hp)) (· < st.nx + 1) a w
  rw [lkp_cons, lkp_cons, ← hD]
  refine ⟨h1.sz, h1.df, ?_, h1.row, h1.old, h1.inj, h1.st, h1.ob, h1.gv⟩
  intro t' v hv
  by_cases e : t' = t
  · subst e
    rw [upd_same] at hv
    cases hv
    have e2 := h1.tm t' .nl h0
    refine ⟨e2.1, ?_⟩
    have : a.tmps.getD t' undef = .slice none 0 0 := hnl
    rw [this]
    exact .own0 (.inr rfl)
  · rw [upd_ne _ _ e] at hv
    exact h1.tm t' v hv

end Go.Proofs.Ytlhobedecoeohaa.Lift
