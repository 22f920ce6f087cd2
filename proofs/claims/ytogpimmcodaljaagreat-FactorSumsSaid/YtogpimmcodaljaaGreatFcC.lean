/- Factors: the reference's Normal; the law FactorSums. -/
import Derived.Test.YtogpimmcodaljaaGreatKR
import Derived.Test.YtogpimmcodaljaaGreatKP
set_option linter.unusedVariables false
set_option maxRecDepth 20000
set_option linter.unusedSimpArgs false
namespace Go.Proofs.YtogpimmcodaljaaGreat
open Go Go.Proofs.YtogpimmcodaljaaGreat.Lift
attribute [local irreducible] Lift.PCall Lift.HCall
set_option maxHeartbeats 8000000 in
theorem rNormal_zero (t : Nat → Nat) (q : Nat → Rat) (ht : okT t) (L : Nat) (hL1 : 1 ≤ L) (hL : L ≤ 2 ^ 20) (hq : ∀ k, k < szT t → rL (q k) ≤ L) (hs : sumTo (ql (szT t) q) (szT t) = 0) : PCall Tryz.prog 15 [FV t q] (.tup [fV [] [] [], .i .i64 31]) [] := by
 have ct := rtotal_ok t q ht L hL1 hL hq
 rw [hs] at ct
 obtain ⟨s, hs0⟩ : ∃ s : Rat, s = 0 := ⟨_, rfl⟩
 rw [← hs0] at ct
 have csg : PCall Tryz.prog 20 [.agg [.b (decide (s.num < 0)), dg (digits s.num.natAbs), dg (digits s.den)]] (.i .i64 (sgnR s)) [] := psign_ok (IsQ.of (q := s) (by rw [hs0]; exact (by decide +kernel : rL 0 ≤ 1))) (by decide)
 rw [sgnR_eq_zero.2 hs0] at csg
 have ct1 : PCall Tryz.prog 13 [FV t q] (.tup [.agg [.b (decide (s.num < 0)), dg (digits s.num.natAbs), dg (digits s.den)], .i .i64 0]) [] := ct
 clear ct hs
 unfold FV fV at *
 rw [xsT_map t q] at *
 generalize zl (ci (vsT t)) = V1 at *
 generalize zl (ci (asT t)) = V2 at *
 generalize (ql (szT t) q).map rV = X at *
 refine PCall.of_ax Tryz.call15 Tryz.func15 rfl (by simp [Tryz.ntmps15]) fun O w0 => ?_
 simp only [Tryz.ntmps15, Tryz.results15, argFr]
 refine AX.sR (rgAV [1, 2]) ?_
 refine AX.sR (rgCV [1, 2, 4, 5] (aI ct1 oT)) ?_
 refine AX.seq ?_
 refine AX.block ?_
 refine AX.sR (rgAV [1, 2, 4, 5, 16]) ?_
 refine AX.condF ?_
 refine AX.sR (rgCV [1, 2, 4, 21] (aI csg oT)) ?_
 refine AX.condT ?_
 refine AX.sR (rgAV [2, 3]) ?_
 refine AX.ret ⟨.inl rfl, ?_⟩
 exact Lift.Done.facE fa_lay_fac26 rfl rfl rfl
set_option maxHeartbeats 8000000 in
theorem rNormal_ok (t : Nat → Nat) (q : Nat → Rat) (ht : okT t) (L : Nat) (hL1 : 1 ≤ L) (hL : L ≤ 2 ^ 20) (hq : ∀ k, k < szT t → rL (q k) ≤ L) (s : Rat) (hs : sumTo (ql (szT t) q) (szT t) = s) (hsL : rL s ≤ 2 ^ 33) (h0 : s ≠ 0) : PCall Tryz.prog 15 [FV t q] (.tup [FV t (fun k => q k / s), .i .i64 0]) [] := by
 have ct := rtotal_ok t q ht L hL1 hL hq
 rw [hs] at ct
 have cd : ∀ k, k < szT t → PCall Tryz.prog 38 [.agg [.b (decide ((q k).num < 0)), dg (digits (q k).num.natAbs), dg (digits (q k).den)], .agg [.b (decide (s.num < 0)), dg (digits s.num.natAbs), dg (digits s.den)]]
   (.tup [.agg [.b (decide ((q k / s).num < 0)), dg (digits (q k / s).num.natAbs), dg (digits (q k / s).den)], .i .i64 0]) [] := fun k hk => by
  have := pdiv_ok (L := 2 ^ 33) (IsQ.of (q := q k) (Nat.le_trans (hq k hk) (by omega))) (IsQ.of hsL) (by decide) (by decide)
  unfold qdivV at this
  rw [if_neg h0] at this
  exact this
 have csg : PCall Tryz.prog 20 [.agg [.b (decide (s.num < 0)), dg (digits s.num.natAbs), dg (digits s.den)]] (.i .i64 (sgnR s)) [] := psign_ok (IsQ.of hsL) (by decide)
 have hsg : sgnR s ≠ 0 := fun h => h0 (sgnR_eq_zero.1 h)
 have hsb := sgnR_bound s
 have ct1 : PCall Tryz.prog 13 [FV t q] (.tup [.agg [.b (decide (s.num < 0)), dg (digits s.num.natAbs), dg (digits s.den)], .i .i64 0]) [] := ct
 have hix := fun (k : Nat) (h : k < szT t) => fun x y => effIxT (x := x) (y := y) q h
 have hml : ((ql (szT t) q).map rV).length = szT t := by rw [List.length_map, ql_length]
 clear ct hs
 have hS := ht.2
 unfold FV fV at *
 rw [xsT_map t q] at *
 rw [xsT_map t fun k => q k / s]
 generalize zl (ci (vsT t)) = V1 at *
 generalize zl (ci (asT t)) = V2 at *
 generalize szT t = S at *
 obtain ⟨X, hX⟩ : ∃ X, (ql S q).map rV = X := ⟨_, rfl⟩
 rw [hX] at hix hml ct1 ⊢
 generalize sgnR s = g at *
 refine PCall.of_ax Tryz.call15 Tryz.func15 rfl (by simp [Tryz.ntmps15]) fun O w0 => ?_
 simp only [Tryz.ntmps15, Tryz.results15, argFr]
 refine AX.sR (rgAV [1, 2]) ?_
 refine AX.sR (rgCV [1, 2, 4, 5] (aI ct1 oT)) ?_
 refine AX.seq ?_
 refine AX.block ?_
 refine AX.sR (rgAV [1, 2, 4, 5, 16]) ?_
 refine AX.condF ?_
 refine AX.sR (rgWV [1, 2, 4, 21] (aI @hsg oT) (aI csg oT)) ?_
 refine AX.condF ?_
 refine AX.keepA [1, 2, 4] ?_
 refine AX.skip ?_
 refine nmZ ?_
 refine AX.sR (rgAV [2, 4, 6, 1]) ?_
 refine AX.own0c 3 2 38 3 rfl rfl (by show 2 < 3; decide) ?_
 refine AX.seq ?_
 refine AX.sR (rgWV [2, 4, 6, 32, 33, 34] (aI @hml oT) oT) ?_
 clear ct1 csg hsg hsb
 refine AX.weaken id (st' := ⟨[(34, .i .i64 (0 : Nat)), (33, .i .i64 S), (32, .sl X), (6, .ptr 3 0), (4, .ptr 2 0), (2, .ptr 1 0)], [(4, ⟨38, qrow (ql 0 fun k => q k / s)⟩), (3, ⟨30, [.sl V1, .sl V2, .own 4 0 (0 : Nat) 3]⟩), (2, ⟨38, [.b (decide (s.num < 0)), dg (digits s.num.natAbs), dg (digits s.den)]⟩), (1, ⟨30, [.nl, .nl, .nl]⟩)], 5⟩)
  ⟨by simp only [ren_q, renL_u, ren_zl, ren_tb, ren_frw, ren_cnq, lt_q, ltL_u, lt_zl, lt_tb, lt_frw, lt_cnq, LeFr, LeHp, lkp, V.ren, V.renL, Row.ren, V.lt, V.ltL, renL_u, ltL_u, List.length_append, List.length_cons, List.length_nil, List.length_set, id_eq, Option.some.injEq, V.i.injEq, V.b.injEq, V.own.injEq, Row.mk.injEq, decide_true, decide_eq_true_eq, true_and, and_true, Bool.and_true, Bool.true_and, if_true, if_false, and_self, Nat.reduceLT, Nat.reduceLeDiff, Nat.reduceEqDiff, Nat.reduceAdd, Nat.reduceSub, Nat.reduceMul, Nat.reducePow, Nat.reduceBEq, Int.reduceLE, Int.reduceLT, Int.reduceToNat, Int.reduceEq, Int.reduceNeg, reduceIte, reduceCtorEq] <;> (first | done | trivial | (and_intros <;> first | trivial | omega | (rfl))), by simp only [ren_q, renL_u, ren_zl, ren_tb, ren_frw, ren_cnq, lt_q, ltL_u, lt_zl, lt_tb, lt_frw, lt_cnq, LeFr, LeHp, lkp, V.ren, V.renL, Row.ren, V.lt, V.ltL, renL_u, ltL_u, List.length_append, List.length_cons, List.length_nil, List.length_set, id_eq, Option.some.injEq, V.i.injEq, V.b.injEq, V.own.injEq, Row.mk.injEq, decide_true, decide_eq_true_eq, true_and, and_true, Bool.and_true, Bool.true_and, if_true, if_false, and_self, Nat.reduceLT, Nat.reduceLeDiff, Nat.reduceEqDiff, Nat.reduceAdd, Nat.reduceSub, Nat.reduceMul, Nat.reducePow, Nat.reduceBEq, Int.reduceLE, Int.reduceLT, Int.reduceToNat, Int.reduceEq, Int.reduceNeg, reduceIte, reduceCtorEq] <;> (first | done | trivial | (and_intros <;> first | trivial | omega | (rfl))), by simp [Apart], by first | exact Nat.zero_le _ | simp, by intro n hn; first | rfl | exact absurd hn (Nat.not_lt_zero _) | (have h0 : n = 0 := Nat.lt_one_iff.1 hn; subst h0; rfl)⟩
  ?_
 refine AX.block ?_
 refine AX.loop (fun N st => ∃ (j : Nat) (zs : List Rat), j ≤ S ∧ N = S - j ∧ zs = ql j (fun k => q k / s) ∧ st = ⟨[(34, .i .i64 j), (33, .i .i64 S), (32, .sl X), (6, .ptr 3 0), (4, .ptr 2 0), (2, .ptr 1 0)], [(4, ⟨38, qrow zs⟩), (3, ⟨30, [.sl V1, .sl V2, .own 4 0 j 3]⟩), (2, ⟨38, [.b (decide (s.num < 0)), dg (digits s.num.natAbs), dg (digits s.den)]⟩), (1, ⟨30, [.nl, .nl, .nl]⟩)], 5⟩) S ⟨0, _, Nat.zero_le _, rfl, rfl, rfl⟩ ?_
 rintro N st ⟨j, zs, hj, rfl, hzs, rfl⟩
 by_cases h1 : j < S
 ·have hix1 := hix j h1
  have cd1 := cd j h1
  have hlq : (qrow zs).length = j * 3 := by rw [qrow_length, hzs, ql_length]
  have ea : qrow zs ++ [.b (decide ((q j / s).num < 0)), dg (digits (q j / s).num.natAbs), dg (digits (q j / s).den)] = qrow (ql (j + 1) fun k => q k / s) := by rw [ql_succ, qrow_app, qrow_one, hzs]
  clear hix cd hX hzs
  obtain ⟨Z, hZ⟩ : ∃ Z, (ql (j + 1) fun k => q k / s) = Z := ⟨_, rfl⟩
  rw [hZ] at ea
  generalize q j / s = q2 at *
  generalize q j = q1 at *
  refine AX.sR (rgAV [2, 4, 6, 32, 33, 34, 35]) ?_
  refine AX.seq ?_
  refine AX.condT ?_
  refine AX.keepA [2, 4, 6, 32, 33, 34] ?_
  refine AX.skip ?_
  refine nmZ ?_
  refine AX.seq ?_
  refine AX.block ?_
  refine AX.sR (rgEV [2, 4, 6, 8, 32, 33, 34] oT oT (aI hix1 oT)) ?_
  refine AX.sR (rgCV [2, 4, 6, 9, 32, 33, 34] (aI cd1 oT)) ?_
  refine AX.rR (rgWV [2, 4, 6, 32, 33, 34] (aI @hlq (aI @flat_q (aI @zerosV_1 (aI @tkS (aI @tk0 oT))))) oT) ?_
  refine nmZ ?_
  rw [ea]
  refine AX.rR (rgWV [2, 4, 6, 32, 33, 34] (aI @lit_add oT) oT) ?_
  refine nmZ ?_
  refine ⟨_, _, fun n => if n = 4 then 8 else n, ?_,
   leQ5
   , ⟨j + 1, _, by omega, rfl, hZ.symm, rfl⟩⟩
  omega
 ·obtain rfl : j = S := by omega
  rw [← hzs]
  refine AX.sR (rgAV [2, 4, 6, 32, 33, 34, 35]) ?_
  refine AX.seq ?_
  refine AX.condF ?_
  refine AX.exit ?_
  refine nmZ ?_
  refine AX.sR (rgAV [2, 3]) ?_
  refine AX.ret ⟨.inl rfl, ?_⟩
  exact Lift.Done.facS fa_lay_fac26 rfl rfl rfl rfl (by rw [hzs, ql_length])
theorem Fv.same {vs ws : List Int} {xs : List RT} {vf wf : List Int} {xf : List RT} (h : Fv vs ws xs vf wf xf) (hb : isF vf wf xf = false) : vf = vs := by
 cases h with
 | bad _ => rfl
 | good a b c d e f => rw [isF_T c] at hb; cases hb
theorem ffew_b (vs ws : List Int) (xs : List RT) (hv : vs.length < 2 ^ 62) (ha : ws.length < 2 ^ 62) (hl : xs.length < 2 ^ 62) (hx : ∀ x ∈ xs, Dg x.2.1 ∧ Dg x.2.2 ∧ x.2.1.length < 2 ^ 62 ∧ x.2.2.length < 2 ^ 62) (hb : ∀ k, k < vs.length → -9223372036854775808 ≤ vs.getD k 0 ∧ vs.getD k 0 ≤ 9223372036854775807) : ∃ vf wf xf, Sm vf wf xf ∧ (isF vf wf xf = false → ∀ k, k < vf.length → -9223372036854775808 ≤ vf.getD k 0 ∧ vf.getD k 0 ≤ 9223372036854775807) ∧ PCall Tryz.prog 5 [fV vs ws xs] (fV vf wf xf) [] := by
 obtain ⟨vf, wf, xf, h1, h2⟩ := Fv.ex (vs := vs.take 70) (ws := ws.take 70) (xs := (xs.take 5000).map fcut) (by rw [List.length_take]; omega) (by rw [List.length_take]; omega) (by rw [List.length_map, List.length_take]; omega) (fun x h => by
  obtain ⟨y, hy, rfl⟩ := List.mem_map.1 h
  obtain ⟨d1, d2, _⟩ := hx y (List.mem_of_mem_take hy)
  refine ⟨fun z hz => d1 z (List.mem_of_mem_take hz), fun z hz => d2 z (List.mem_of_mem_take hz), ?_, ?_⟩
  ·show (y.2.1.take 3).length ≤ _
   rw [List.length_take]; omega
  ·show (y.2.2.take 3).length ≤ _
   rw [List.length_take]; omega)
 refine ⟨vf, wf, xf, h2, fun h k hk => ?_, ffew_walk vs ws xs hv ha hl hx vf wf xf h1⟩
 have e := h1.same h
 subst e
 rw [List.length_take] at hk
 have e2 : (vs.take 70).getD k 0 = vs.getD k 0 := by
  rw [List.getD_eq_getElem?_getD, List.getD_eq_getElem?_getD, List.getElem?_take, if_pos (by omega)]
 rw [e2]
 exact hb k (by omega)
set_option maxHeartbeats 16000000 in
theorem factorSums_core (U0 W0 X0 V1 A1 Y1 : List V) (v arm : Int) (z1 z2 z3 z5 : V) (s : Bool) (a b : List Nat) (e : Int) (h1 : Fx z1) (h2 : Fx z2) (h3 : Fx z3) (h5 : Fx z5) (he : 0 ≤ e ∧ e < 100)
  (c0 : PCall Tryz.prog 5 [.agg [.sl U0, .sl W0, .sl X0]] (.agg [.sl V1, .sl A1, .sl Y1]) [])
  (c1 : PCall Tryz.prog 6 [.agg [.sl V1, .sl A1, .sl Y1], .i .i64 v] z1 []) (c2 : PCall Tryz.prog 7 [.agg [.sl V1, .sl A1, .sl Y1], .i .i64 v] z1 [])
  (c3 : PCall Tryz.prog 8 [.agg [.sl V1, .sl A1, .sl Y1], .i .i64 v] z2 []) (c4 : PCall Tryz.prog 9 [.agg [.sl V1, .sl A1, .sl Y1], .i .i64 v] z2 [])
  (c5 : PCall Tryz.prog 10 [.agg [.sl V1, .sl A1, .sl Y1], .i .i64 v, .i .i64 arm] z3 []) (c6 : PCall Tryz.prog 11 [.agg [.sl V1, .sl A1, .sl Y1], .i .i64 v, .i .i64 arm] z3 [])
  (c7 : PCall Tryz.prog 12 [.agg [.sl V1, .sl A1, .sl Y1]] (.tup [.agg [.b s, dg a, dg b], .i .i64 e]) []) (c8 : PCall Tryz.prog 13 [.agg [.sl V1, .sl A1, .sl Y1]] (.tup [.agg [.b s, dg a, dg b], .i .i64 e]) [])
  (c9 : PCall Tryz.prog 14 [.agg [.sl V1, .sl A1, .sl Y1]] z5 []) (c10 : PCall Tryz.prog 15 [.agg [.sl V1, .sl A1, .sl Y1]] z5 [])
  (c11 : PCall Tryz.prog 17 [.agg [.b s, dg a, dg b], .agg [.b s, dg a, dg b]] (.b true) []) :
  PCall Tryz.prog 3 [.agg [.sl U0, .sl W0, .sl X0], .i .i64 v, .i .i64 arm] (.b true) [] := by
 obtain ⟨Aa, Ba, Ca, ea, rfl, s1⟩ := h1.same
 obtain ⟨Ab, Bb, Cb, eb, rfl, s2⟩ := h2.same
 obtain ⟨Ac, Bc, Cc, ec, rfl, s3⟩ := h3.same
 obtain ⟨Ad, Bd, Cd, ed, rfl, s4⟩ := h5.same
 have cal := lalive26_ok
 clear h1 h2 h3 h5
 refine PCall.of_ax Tryz.call3 Tryz.func3 rfl (by simp [Tryz.ntmps3]) fun O w9 => ?_
 simp only [Tryz.ntmps3, Tryz.results3, argFr]
 refine AX.sR (rgAV [1, 2, 3]) ?_
 refine AX.sR (rgCV [1, 2, 3] (aI c0 oT)) ?_
 refine AX.sR (rgCV [1, 2, 3, 7, 8] (aI c1 oT)) ?_
 refine AX.sR (rgCV [1, 2, 3, 7, 8, 9, 10] (aI c2 oT)) ?_
 refine AX.sR (rgCV [1, 2, 3, 7, 8, 9, 10, 11, 12] (aI c3 oT)) ?_
 refine AX.sR (rgCV [1, 2, 3, 7, 8, 9, 10, 11, 12, 13, 14] (aI c4 oT)) ?_
 refine AX.sR (rgCV [1, 2, 3, 7, 8, 9, 10, 11, 12, 13, 14, 15, 16] (aI c5 oT)) ?_
 refine AX.sR (rgCV [3, 7, 8, 9, 10, 11, 12, 13, 14, 15, 16, 17, 18] (aI c6 oT)) ?_
 refine AX.sR (rgCV [3, 7, 8, 9, 10, 11, 12, 13, 14, 15, 16, 17, 18, 19, 20] (aI c7 oT)) ?_
 refine AX.sR (rgCV [3, 7, 8, 9, 10, 11, 12, 13, 14, 15, 16, 17, 18, 19, 20, 21, 22] (aI c8 oT)) ?_
 refine AX.sR (rgCV [3, 7, 8, 9, 10, 11, 12, 13, 14, 15, 16, 17, 18, 19, 20, 21, 22, 23, 24] (aI c9 oT)) ?_
 refine AX.sR (rgCV [7, 8, 9, 10, 11, 12, 13, 14, 15, 16, 17, 18, 19, 20, 21, 22, 23, 24, 25, 26] (aI c10 oT)) ?_
 refine AX.sR (rgCV [6] (aI s1 (aI s2 (aI s3 (aI c11 (aI s4 (aI cal oT))))))) ?_
 refine AX.ret ⟨.inl rfl, ?_⟩
 exact Done.one rfl rfl rfl rfl
theorem rL_sum {n L : Nat} {q : Nat → Rat} (hL1 : 1 ≤ L) (hq : ∀ k, k < n → rL (q k) ≤ L) : rL (sumTo (ql n q) n) ≤ n * (L + 1) + 1 := sumTo_len (isQs_ql hq) hL1 n (by rw [List.length_map, ql_length]; exact Nat.le_refl _)
set_option maxHeartbeats 4000000 in
theorem factorSums_ok (u0 w0 : List Int) (x0 : List RT) (v arm : Int) (hu0 : u0.length < 2 ^ 62) (hw0 : w0.length < 2 ^ 62) (hub : ∀ k, k < u0.length → -9223372036854775808 ≤ u0.getD k 0 ∧ u0.getD k 0 ≤ 9223372036854775807) (hx0 : x0.length < 2 ^ 62) (hd0 : ∀ x ∈ x0, Dg x.2.1 ∧ Dg x.2.2 ∧ x.2.1.length < 2 ^ 62 ∧ x.2.2.length < 2 ^ 62)
  (hv : -9223372036854775808 ≤ v ∧ v ≤ 9223372036854775807) (harm : -9223372036854775808 ≤ arm ∧ arm ≤ 9223372036854775807) :
  PCall Tryz.prog 3 [fV u0 w0 x0, .i .i64 v, .i .i64 arm] (.b true) [] := by
 obtain ⟨vf, wf, xf, sf, hbd, c0⟩ := ffew_b u0 w0 x0 hu0 hw0 hx0 hd0 hub
 have q1 := sf.v
 have q2 := sf.w
 have q3 := sf.l
 have e1 := Fx.err 1 (by decide)
 rcases sf.f with hbad | ⟨t, q, ht, hs, hq, rfl, rfl, rfl⟩
 ·have k1 : vf.length < 2 ^ 40 := by omega
  have k2 : wf.length < 2 ^ 40 := by omega
  have k3 : xf.length < 2 ^ 40 := by omega
  have ox := sf.okY.x
  exact factorSums_core _ _ _ _ _ _ v arm _ _ _ _ false [] [] 1 e1 e1 e1 e1 (by decide) c0 (fSum_not vf wf xf k1 k2 k3 ox hbad v) (rSum_not vf wf xf k1 k2 k3 ox hbad v) (fMost_not vf wf xf k1 k2 k3 ox hbad v) (rMost_not vf wf xf k1 k2 k3 ox hbad v)
   (fRestrict_not vf wf xf k1 k2 k3 ox hbad (hbd hbad) v arm hv harm) (rRestrict_not vf wf xf k1 k2 k3 ox hbad v arm) (fTotalN_ok vf wf xf k1 k2 k3 ox hbad) (rTotalN_ok vf wf xf k1 k2 k3 ox hbad) (fNormalN_ok vf wf xf k1 k2 k3 ox hbad) (rNormalN_ok vf wf xf k1 k2 k3 ox hbad) fsame_z
 ·have hq30 : ∀ k, k < szT t → rL (q k) ≤ 2 ^ 30 := fun k hk => Nat.le_trans (hq k hk) (by decide)
  have hN : ∃ z, Fx z ∧ PCall Tryz.prog 14 [FV t q] z [] ∧ PCall Tryz.prog 15 [FV t q] z [] := by
   have hsL := rL_sum (n := szT t) (by omega : 1 ≤ 3) hq
   by_cases h0 : sumTo (ql (szT t) q) (szT t) = 0
   ·exact ⟨_, Fx.err 31 (by decide), fNormal_zero t q ht 3 (by omega) (by omega) hq h0, rNormal_zero t q ht 3 (by omega) (by omega) hq h0⟩
   ·have hb : rL (sumTo (ql (szT t) q) (szT t)) ≤ 2 ^ 29 := by omega
    exact ⟨_, Fx.fv (Nat.le_trans hs (by omega)) (fun k hk => Nat.le_trans (rL_div _ _ (hq k hk) hb (by omega)) (by omega)), fNormal_ok t q ht 3 (by omega) (by omega) hq _ rfl (Nat.le_trans hb (by omega)) h0, rNormal_ok t q ht 3 (by omega) (by omega) hq _ rfl (Nat.le_trans hb (by omega)) h0⟩
  obtain ⟨z5, f5, n1, n2⟩ := hN
  have hT : rL (sumTo (ql (szT t) q) (szT t)) ≤ 2 ^ 30 := Nat.le_trans (rL_sum (n := szT t) (by omega : 1 ≤ 3) hq) (by omega)
  have cT : PCall Tryz.prog 17 [rV (sumTo (ql (szT t) q) (szT t)), rV (sumTo (ql (szT t) q) (szT t))] (.b true) [] := by
   have := psame_ok (IsQ.of hT) (IsQ.of hT) (by decide) (by decide)
   rw [decide_eq_true rfl] at this
   exact this
  have t1 := ftotal_ok t q ht 3 (by omega) (by omega) hq
  have t2 := rtotal_ok t q ht 3 (by omega) (by omega) hq
  by_cases h0 : tz t v = 0
  ·have f0 := Fx.fv ht.2 hq30
   exact factorSums_core _ _ _ _ _ _ v arm _ _ _ _ _ _ _ 0 f0 f0 f0 f5 (by decide) c0 (fSum_none t q ht hq30 v hv h0) (rSum_none t q ht hq30 v hv h0) (fMost_none t q ht hq30 v hv h0) (rMost_none t q ht hq30 v hv h0) (fRestrict_none t q ht hq30 v arm hv harm h0) (rRestrict_none t q ht hq30 v arm hv harm h0) t1 t2 n1 n2 cT
  ·obtain ⟨w, rfl, hw, hw0, _⟩ := lt64 h0
   have ht' : szT (updT t w 0) ≤ 4096 := (okT_del ht w).2
   have fo : ∀ (what : Nat) (a : Int), Fx (.tup [FV (updT t w 0) (woQ t q w what a), .i .i64 0]) := fun what a => Fx.fv ht' fun k _ => Nat.le_trans (woQ_len ht hq k) (by omega)
   have hR : ∃ z, Fx z ∧ PCall Tryz.prog 10 [FV t q, .i .i64 (w : Nat), .i .i64 arm] z [] ∧ PCall Tryz.prog 11 [FV t q, .i .i64 (w : Nat), .i .i64 arm] z [] := by
    by_cases hno : arm < 0 ∨ (t w : Int) ≤ arm
    ·exact ⟨_, e1, fRestrict_bad t q ht hq30 w arm hw hw0 harm hno, rRestrict_bad t q ht hq30 w arm hw hw0 harm hno⟩
    ·obtain ⟨a, rfl⟩ : ∃ a : Nat, arm = a := ⟨arm.toNat, by omega⟩
     have ha : a < t w := by omega
     exact ⟨_, fo 2 a, fRestrict_some t q ht 3 (by omega) (by omega) hq w hw hw0 a ha, frestrict26_ok t q ht 3 hq (by omega) w hw hw0 a ha⟩
   obtain ⟨z3, f3, r1, r2⟩ := hR
   exact factorSums_core _ _ _ _ _ _ w arm _ _ _ _ _ _ _ 0 (fo 0 0) (fo 1 0) f3 f5 (by decide) c0 (fSum_some t q ht 3 (by omega) (by omega) hq w hw hw0) (rSum_some t q ht 3 hq (by omega) w hw hw0) (fMost_some t q ht 3 (by omega) (by omega) hq w hw hw0) (rMost_some t q ht 3 hq (by omega) w hw hw0) r1 r2 t1 t2 n1 n2 cT
end Go.Proofs.YtogpimmcodaljaaGreat
