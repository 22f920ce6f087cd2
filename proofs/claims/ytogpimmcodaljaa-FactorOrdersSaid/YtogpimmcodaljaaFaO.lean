/- Factors: the law FactorRights. -/
import Derived.Test.YtogpimmcodaljaaKC
set_option linter.unusedVariables false
set_option maxRecDepth 20000
set_option linter.unusedSimpArgs false
namespace Go.Proofs.Ytogpimmcodaljaa
open Go Go.Proofs.Ytogpimmcodaljaa.Lift
attribute [local irreducible] Lift.PCall Lift.HCall
theorem fsame_z : PCall Try.prog 15 [zR, zR] (.b true) [] := by
 have h : IsQ zR (rq false (val []) (val [])) 1 := IsQ.raw (s := false) (a := []) (b := []) (fun d h => nomatch h) (fun d h => nomatch h) (by decide) (by decide)
 have := psame_ok h h (by decide) (by decide)
 rw [decide_eq_true rfl] at this
 exact this
theorem eqX_self (xs : List RT) : eqX xs xs = true := decide_eq_true ⟨rfl, fun _ _ => rfl⟩
theorem sameF_self (vs ws : List Int) (xs : List RT) : sameF vs ws xs vs ws xs = true := by
 simp [sameF, eqX_self]
theorem Sm.at {vs ws : List Int} {xs : List RT} (h : Sm vs ws xs) (a : List Int) (ha : a.length < 2 ^ 62) (hab : ∀ j, j < a.length → -9223372036854775808 ≤ a.getD j 0 ∧ a.getD j 0 ≤ 9223372036854775807) :
  ∃ (s : Bool) (p q : List Nat) (e : Int), (0 ≤ e ∧ e < 100) ∧ PCall Try.prog 9 [fV vs ws xs, .sl (zl a)] (.tup [.agg [.b s, dg p, dg q], .i .i64 e]) [] ∧ PCall Try.prog 10 [fV vs ws xs, .sl (zl a)] (.tup [.agg [.b s, dg p, dg q], .i .i64 e]) [] ∧ PCall Try.prog 15 [.agg [.b s, dg p, dg q], .agg [.b s, dg p, dg q]] (.b true) [] := by
 have l1 := h.v
 have l2 := h.w
 have l3 := h.l
 rcases h.f with hf | ⟨t, q, ht, hs, hq, rfl, rfl, rfl⟩
 ·exact ⟨false, [], [], 1, by omega, fAtN_ok vs ws xs (by omega) (by omega) (by omega) h.okY.x hf a, fAt26N_ok vs ws xs (by omega) (by omega) (by omega) h.okY.x hf a, fsame_z⟩
 ·have c1 := fAt_ok t q ht (fun k hk => by have := hq k hk; omega) a ha hab
  have c2 := fAt26_ok t q ht (fun k hk => by have := hq k hk; omega) a ha hab
  by_cases hin : inA t a
  ·have e : atV t q a = .tup [rV (q (enT t (anL a))), .i .i64 0] := if_pos hin
   rw [e] at c1 c2
   have hL := hq _ (enT_lt (anL_in hin))
   have c3 := psame_ok (IsQ.of hL) (IsQ.of hL) (by decide) (by decide)
   rw [decide_eq_true rfl] at c3
   exact ⟨_, _, _, 0, by omega, c1, c2, c3⟩
  ·have e : atV t q a = .tup [zR, .i .i64 1] := if_neg hin
   rw [e] at c1 c2
   exact ⟨false, [], [], 1, by omega, c1, c2, fsame_z⟩
set_option maxHeartbeats 16000000 in
theorem factorRights_ok (u0 w0 : List Int) (x0 : List RT) (u1 w1 : List Int) (x1 : List RT) (a2 : List Int) (s3 : Bool) (a3 b3 : List Nat) (hu0 : u0.length < 2 ^ 62) (hw0 : w0.length < 2 ^ 62) (hx0 : x0.length < 2 ^ 62) (hd0 : ∀ x ∈ x0, Dg x.2.1 ∧ Dg x.2.2 ∧ x.2.1.length < 2 ^ 62 ∧ x.2.2.length < 2 ^ 62)
  (hu1 : u1.length < 2 ^ 62) (hw1 : w1.length < 2 ^ 62) (hx1 : x1.length < 2 ^ 62) (hd1 : ∀ x ∈ x1, Dg x.2.1 ∧ Dg x.2.2 ∧ x.2.1.length < 2 ^ 62 ∧ x.2.2.length < 2 ^ 62)
  (ha2 : a2.length < 2 ^ 62) (hb2 : ∀ j, j < a2.length → -9223372036854775808 ≤ a2.getD j 0 ∧ a2.getD j 0 ≤ 9223372036854775807) (ga3 : Dg a3) (gb3 : Dg b3) (la3 : a3.length < 2 ^ 62) (lb3 : b3.length < 2 ^ 62) :
  PCall Try.prog 3 [fV u0 w0 x0, fV u1 w1 x1, .sl (zl a2), rR s3 a3 b3] (.b true) [] := by
 obtain ⟨vf, wf, xf, sf, c1⟩ := ffew_ok u0 w0 x0 hu0 hw0 hx0 hd0
 obtain ⟨vg, wg, xg, sg, c2⟩ := ffew_ok u1 w1 x1 hu1 hw1 hx1 hd1
 obtain ⟨n0, m0, l0, t0, k0⟩ := fmin a2 80
 obtain ⟨n1, m1, l1, t1, k1⟩ := fmin a3 3
 obtain ⟨n2, m2, l2, t2, k2⟩ := fmin b3 3
 have e0 := fHiZ l0
 have e1 := fHiN l1
 have e2 := fHiN l2
 rw [t0] at e0
 rw [t1] at e1
 rw [t2] at e2
 have hal : (zl a2).length = a2.length := zl_length a2
 have m0 : (if (80 : Int) < (a2.length : Int) then (80 : Int) else (a2.length : Int)) = (n0 : Int) := m0
 have m1 : (if (3 : Int) < (a3.length : Int) then (3 : Int) else (a3.length : Int)) = (n1 : Int) := m1
 have m2 : (if (3 : Int) < (b3.length : Int) then (3 : Int) else (b3.length : Int)) = (n2 : Int) := m2
 have hA : (a2.take 80).length < 2 ^ 62 := by rw [List.length_take]; omega
 have hAb : ∀ j, j < (a2.take 80).length → -9223372036854775808 ≤ (a2.take 80).getD j 0 ∧ (a2.take 80).getD j 0 ≤ 9223372036854775807 := fun j hj => by
  rw [List.length_take] at hj
  have e : (a2.take 80).getD j 0 = a2.getD j 0 := by rw [List.getD_eq_getElem?_getD, List.getD_eq_getElem?_getD, List.getElem?_take, if_pos (by omega)]
  rw [e]
  exact hb2 j (by omega)
 obtain ⟨s, p, q, e, he, c3, c4, c5⟩ := sf.at (a2.take 80) hA hAb
 have d1 : Dg (a3.take 3) := fun z hz => ga3 z (List.mem_of_mem_take hz)
 have d2 : Dg (b3.take 3) := fun z hz => gb3 z (List.mem_of_mem_take hz)
 have d3 : (a3.take 3).length ≤ 3 := by rw [List.length_take]; omega
 have d4 : (b3.take 3).length ≤ 3 := by rw [List.length_take]; omega
 have c6 := fconst_ok (s3, a3.take 3, b3.take 3) d1 d2 (by show (a3.take 3).length ≤ _; omega) (by show (b3.take 3).length ≤ _; omega)
 have c7 := fconst26_ok (s3, a3.take 3, b3.take 3) d1 d2 (by show (a3.take 3).length ≤ _; omega) (by show (b3.take 3).length ≤ _; omega)
 have q1 := sf.v
 have q2 := sf.w
 have q3 := sf.l
 have q4 := sg.v
 have q5 := sg.w
 have q6 := sg.l
 have c8 := fright_ok vf wf xf (by omega) (by omega) (by omega) sf.okY.x
 have c9 := fright26_ok vf wf xf (by omega) (by omega) (by omega) sf.okY.x
 have c10 := fsame_ok vf wf xf vg wg xg (by omega) (by omega) (by omega) (by omega) (by omega) (by omega) sf.okY sg.okY
 have c11 := fsame26_ok vf wf xf vg wg xg (by omega) (by omega) (by omega) (by omega) (by omega) (by omega) sf.okY sg.okY
 have c12 := fsame_ok vf wf xf vf wf xf (by omega) (by omega) (by omega) (by omega) (by omega) (by omega) sf.okY sf.okY
 rw [sameF_self] at c12
 have hco : (coL (s3, a3.take 3, b3.take 3)).length ≤ 1 ∧ okY (coL (s3, a3.take 3, b3.take 3)) ∧ (0 ≤ coE (s3, a3.take 3, b3.take 3) ∧ coE (s3, a3.take 3, b3.take 3) < 100) := by
  unfold coL coE
  split
  ·refine ⟨Nat.le_refl _, fun x hx => ?_, by decide, by decide⟩
   obtain rfl := List.mem_singleton.1 hx
   exact ⟨d1, d2, by show (a3.take 3).length ≤ _; omega, by show (b3.take 3).length ≤ _; omega⟩
  ·exact ⟨Nat.zero_le _, fun x hx => (List.not_mem_nil hx).elim, by decide, by decide⟩
 obtain ⟨y1, y2, y3⟩ := hco
 have c13 := lsame26_ok [] [] (coL (s3, a3.take 3, b3.take 3)) [] [] (coL (s3, a3.take 3, b3.take 3)) (by decide) (by decide) (by omega) (by decide) (by decide) (by omega) y2 y2 (coE (s3, a3.take 3, b3.take 3)) (coE (s3, a3.take 3, b3.take 3)) y3 y3
 rw [sameF_self, decide_eq_true rfl] at c13
 have c14 := lalive26_ok
 generalize coE (s3, a3.take 3, b3.take 3) = E at *
 unfold fV rR at *
 generalize (coL (s3, a3.take 3, b3.take 3)).map fR = CL at *
 generalize isF vf wf xf = B at *
 generalize sameF vf wf xf vg wg xg = B' at *
 clear sf sg hd0 hd1 hb2 hAb t0 t1 t2 y1 y2 d1 d2
 generalize zl u0 = U0 at *
 generalize zl w0 = W0 at *
 generalize x0.map fR = X0 at *
 generalize zl u1 = U1 at *
 generalize zl w1 = W1 at *
 generalize x1.map fR = X1 at *
 generalize zl vf = Vf at *
 generalize zl wf = Wf at *
 generalize xf.map fR = Xf at *
 generalize zl vg = Vg at *
 generalize zl wg = Wg at *
 generalize xg.map fR = Xg at *
 generalize zl (a2.take 80) = A' at *
 generalize zl a2 = A2 at *
 generalize a3.take 3 = a' at *
 generalize b3.take 3 = b' at *
 generalize zl [] = Z at *
 refine PCall.of_ax Try.call3 Try.func3 rfl (by simp [Try.ntmps3]) fun O w9 => ?_
 simp only [Try.ntmps3, Try.results3, argFr]
 refine AX.sR (rgAV [2, 4, 5, 7]) ?_
 refine AX.sD (rgDEV [2, 4, 5, 7] (aI @hal (aI @m0 oT)) (aI c1 (aI c2 oT)) (aI e0 oT)) ?_
 refine AX.sD (rgDEV [2, 4, 5, 7] (aI @m1 (aI @m2 oT)) oT (aI e1 (aI e2 oT))) ?_
 refine AX.sR (rgCV [2, 4, 5, 7, 9, 10] (aI c3 oT)) ?_
 refine AX.sR (rgCV [4, 5, 7, 9, 10, 11, 12] (aI c4 oT)) ?_
 refine AX.sR (rgCV [4, 5, 7, 9, 10, 11, 12, 13, 14] (aI c6 oT)) ?_
 refine AX.sR (rgCV [4, 5, 9, 10, 11, 12, 13, 14, 15, 16] (aI c7 oT)) ?_
 refine AX.sD (rgDCV [8] (aI c8 (aI c9 (aI c5 (aI c10 (aI c11 (aI c12 (aI c13 (aI c14 oT))))))))) ?_
 refine AX.ret ⟨.inl rfl, ?_⟩
 exact Done.one rfl rfl rfl rfl
end Go.Proofs.Ytogpimmcodaljaa
