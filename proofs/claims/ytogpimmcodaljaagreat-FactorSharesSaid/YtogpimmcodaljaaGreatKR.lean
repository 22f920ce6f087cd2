/- Factors: Restrict, and the reference's Sum, Most, Restrict. -/
import Derived.Test.YtogpimmcodaljaaGreatKJ
set_option linter.unusedVariables false
set_option maxRecDepth 20000
set_option linter.unusedSimpArgs false
namespace Go.Proofs.YtogpimmcodaljaaGreat
open Go Go.Proofs.YtogpimmcodaljaaGreat.Lift
attribute [local irreducible] Lift.PCall Lift.HCall
set_option maxHeartbeats 8000000 in
theorem fRestrict_some (t : Nat → Nat) (q : Nat → Rat) (ht : okT t) (L : Nat) (hL1 : 1 ≤ L) (hL : L ≤ 2 ^ 26) (hq : ∀ k, k < szT t → rL (q k) ≤ L) (v : Nat) (hv : v < 64) (h0 : t v ≠ 0) (a : Nat) (ha : a < t v) : PCall Tryz.prog 10 [FV t q, .i .i64 v, .i .i64 a] (.tup [FV (updT t v 0) (woQ t q v 2 a), .i .i64 0]) [] := by
 have hm := vsT_len t
 have cr := fright_ok (ci (vsT t)) (ci (asT t)) (xsT t q) (by rw [ci_length]; omega) (by rw [ci_length, asT_len]; omega) (by rw [xsT_length]; have := ht.2; omega) (xsT_okY fun k hk => Nat.le_trans (hq k hk) (by omega)).x
 rw [isF_T ht q] at cr
 have cb := fbs_ok (ci (vsT t)) v (by rw [ci_length]; omega) (ci_bd (M := 64) (fun j hj => by have := (vsT_get hj).1; omega) (by omega)) (by omega)
 obtain ⟨i, hi, e, hbs⟩ := bs_some hv h0
 rw [hbs, bs_dec hi e] at cb
 have hza : (zl (ci (asT t))).length = (vsT t).length := (zn_length _).trans (asT_len t)
 have g2 : (zl (ci (asT t))).getD i .junk = .i .i64 (t v : Nat) := (zn_get (by rw [asT_len]; exact hi)).trans (by rw [asT_get hi, e])
 have b3 := ht.1 v
 have cl := flessr_some (a : Int) 33 t q ht (fun k hk => Nat.le_trans (hq k hk) (by omega)) v hv h0 (woQ t q v 2 a) (fun n hn => hopRestrict (t v) _ (Nat.pos_of_ne_zero h0) b3 L hL1 hL (fun k hk => hq _ (enT_lt (inT_upd hk))) a ha)
 clear hbs e
 unfold FV fV at *
 generalize zl (ci (vsT t)) = V1 at *
 generalize zl (ci (asT t)) = V2 at *
 generalize (xsT t q).map fR = V3 at *
 generalize zl (ci (vsT (updT t v 0))) = V4 at *
 generalize zl (ci (asT (updT t v 0))) = V5 at *
 generalize (xsT (updT t v 0) _).map fR = V6 at *
 generalize t v = n at *
 refine PCall.of_ax Tryz.call10 Tryz.func10 rfl (by simp [Tryz.ntmps10]) fun O w0 => ?_
 simp only [Tryz.ntmps10, Tryz.results10, argFr]
 refine AX.sR (rgAV [1, 3, 5, 6]) ?_
 refine AX.seq ?_
 refine AX.sR (rgCV [1, 3, 5, 6, 8, 9] (aI cb oT)) ?_
 refine AX.sD (rgDWV [1, 3, 5, 6, 34] (aI @hza (aI @g2 oT)) (aI cr oT)) ?_
 refine AX.condF ?_
 refine AX.keepA [1, 3, 5, 6] ?_
 refine AX.skip ?_
 refine nmZ ?_
 refine AX.fz 1 (fr' := [(1, .i .i64 v), (3, .ptr 0 0), (5, .rp [.i .i64 a]), (6, .ptr 2 0)]) (hp' := [(2, ⟨25, [.nl, .nl, .nl]⟩), (0, ⟨25, [.sl V1, .sl V2, .sl V3]⟩)]) rfl rfl (by repeat (first | exact .nil | (refine .cons rfl ?_ ?_; · first | exact .same | exact .ptr rfl))) (by repeat (first | exact .nil | (refine .keep (by decide) rfl ?_))) ?_
 refine AX.sR (rgCV [6, 7] (aI cl oT)) ?_
 refine AX.ret ⟨.inl rfl, ?_⟩
 exact dnQ5
end Go.Proofs.YtogpimmcodaljaaGreat
/- Factors: the reference's Total, both Normals. -/
set_option linter.unusedVariables false
set_option linter.unusedSimpArgs false
namespace Go.Proofs.YtogpimmcodaljaaGreat
open Go Go.Proofs.YtogpimmcodaljaaGreat.Lift
attribute [local irreducible] Lift.PCall Lift.HCall
theorem ql_set {n j : Nat} (q : Nat → Rat) (x : Rat) : (ql n q).set j x = ql n fun k => if k = j then x else q k := by
 apply List.ext_getElem
 ·rw [List.length_set, ql_length, ql_length]
 ·intro i h1 h2
  rw [List.getElem_set]
  simp only [ql, List.getElem_map, List.getElem_range]
  by_cases e : j = i
  ·rw [if_pos e, if_pos e.symm]
  ·rw [if_neg e, if_neg fun h => e h.symm]
theorem qlget {n j z : Nat} (q : Nat → Rat) (h : j < n) (hz : j * 3 = z) : (List.drop z (qrow (ql n q))).take 3 = [.b (decide ((q j).num < 0)), dg (digits (q j).num.natAbs), dg (digits (q j).den)] := by
 subst hz
 rw [qrow_get (by rw [ql_length]; exact h), ql_get q h]
 rfl
theorem qlset {n j : Nat} (q : Nat → Rat) (x : Rat) (h : j < n) :
  (((qrow (ql n q)).set (j * 3) (.b (decide (x.num < 0)))).set (j * 3 + 1) (dg (digits x.num.natAbs))).set (j * 3 + 1 + 1) (dg (digits x.den)) = qrow (ql n fun k => if k = j then x else q k) := by
 have := set_q (xs := ql n q) x (j := j) (by rw [ql_length]; exact h)
 rw [ql_set] at this
 exact this
theorem fTotalN_ok (vs ws : List Int) (xs : List RT) (hv : vs.length < 2 ^ 40) (ha : ws.length < 2 ^ 40) (hl : xs.length < 2 ^ 40) (hx : okX xs) (h : isF vs ws xs = false) : PCall Tryz.prog 12 [fV vs ws xs] (.tup [zR, .i .i64 1]) [] := by
 have cr := fright_ok vs ws xs hv ha hl hx
 rw [h] at cr
 unfold fV at *
 generalize zl vs = V1 at *
 generalize zl ws = V2 at *
 generalize xs.map fR = V3 at *
 refine PCall.of_ax Tryz.call12 Tryz.func12 rfl (by simp [Tryz.ntmps12]) fun O w0 => ?_
 simp only [Tryz.ntmps12, Tryz.results12, argFr]
 refine AX.sR (rgAV [1, 2]) ?_
 refine AX.seq ?_
 refine AX.sR (rgCV [1, 2, 6] (aI cr oT)) ?_
 refine AX.condT ?_
 refine AX.sR (rgAV [2, 3]) ?_
 refine AX.ret ⟨.inl rfl, ?_⟩
 exact Done.cellZ rfl rfl rfl
set_option maxHeartbeats 8000000 in
theorem fclone_own (t : Nat → Nat) (q : Nat → Rat) (ht : okT t) (hq : ∀ k, k < szT t → rL (q k) ≤ 2 ^ 30) : PCall Tryz.prog 36 [FV t q] (.agg [.sl (zl (ci (vsT t))), .sl (zl (ci (asT t))), .own 0 0 (szT t) 3]) [⟨38, qrow (ql (szT t) q)⟩] := by
 have hm := vsT_len t
 have c1 := zclone_ok (ci (vsT t)) (by rw [ci_length]; omega)
 have c2 := zclone_ok (ci (asT t)) (by rw [ci_length, asT_len]; omega)
 have cow : ∀ k, k < szT t → PCall Tryz.prog 28 [.agg [.b (decide ((q k).num < 0)), dg (digits (q k).num.natAbs), dg (digits (q k).den)]] (.agg [.b (decide ((q k).num < 0)), dg (digits (q k).num.natAbs), dg (digits (q k).den)]) [] := fun k hk => fown_ok (IsQ.of (hq k hk)) (by decide) (by decide)
 have hix := fun (k : Nat) (h : k < szT t) => fun x y => effIxT (x := x) (y := y) q h
 have hml : ((ql (szT t) q).map rV).length = szT t := by rw [List.length_map, ql_length]
 have hS := ht.2
 unfold FV fV
 rw [xsT_map]
 generalize zl (ci (vsT t)) = V1 at *
 generalize zl (ci (asT t)) = V2 at *
 generalize szT t = S at *
 obtain ⟨X, hX⟩ : ∃ X, (ql S q).map rV = X := ⟨_, rfl⟩
 rw [hX] at hix hml ⊢
 refine PCall.of_ax Tryz.call36 Tryz.func36 rfl (by simp [Tryz.ntmps36]) fun O w0 => ?_
 simp only [Tryz.ntmps36, Tryz.results36, argFr]
 refine AX.sR (rgAV [1, 2]) ?_
 refine AX.sD (rgDCV [1, 2, 3] (aI c1 (aI c2 oT))) ?_
 refine AX.own0c 2 2 38 3 rfl rfl (by show 2 < 3; decide) ?_
 refine AX.seq ?_
 refine AX.sR (rgWV [2, 3, 14, 15, 16] (aI @hml oT) oT) ?_
 refine AX.weaken id (st' := ⟨[(16, .i .i64 (0 : Nat)), (15, .i .i64 S), (14, .sl X), (3, .ptr 2 0), (2, .ptr 1 0)], [(3, ⟨38, qrow (ql 0 q)⟩), (2, ⟨25, [.sl V1, .sl V2, .own 3 0 (0 : Nat) 3]⟩), (1, ⟨25, [.nl, .nl, .nl]⟩)], 4⟩)
  ⟨by simp only [ren_q, renL_u, ren_zl, ren_tb, ren_frw, ren_cnq, lt_q, ltL_u, lt_zl, lt_tb, lt_frw, lt_cnq, LeFr, LeHp, lkp, V.ren, V.renL, Row.ren, V.lt, V.ltL, renL_u, ltL_u, List.length_append, List.length_cons, List.length_nil, List.length_set, id_eq, Option.some.injEq, V.i.injEq, V.b.injEq, V.own.injEq, Row.mk.injEq, decide_true, decide_eq_true_eq, true_and, and_true, Bool.and_true, Bool.true_and, if_true, if_false, and_self, Nat.reduceLT, Nat.reduceLeDiff, Nat.reduceEqDiff, Nat.reduceAdd, Nat.reduceSub, Nat.reduceMul, Nat.reducePow, Nat.reduceBEq, Int.reduceLE, Int.reduceLT, Int.reduceToNat, Int.reduceEq, Int.reduceNeg, reduceIte, reduceCtorEq] <;> (first | done | trivial | (and_intros <;> first | trivial | omega | (rfl))), by simp only [ren_q, renL_u, ren_zl, ren_tb, ren_frw, ren_cnq, lt_q, ltL_u, lt_zl, lt_tb, lt_frw, lt_cnq, LeFr, LeHp, lkp, V.ren, V.renL, Row.ren, V.lt, V.ltL, renL_u, ltL_u, List.length_append, List.length_cons, List.length_nil, List.length_set, id_eq, Option.some.injEq, V.i.injEq, V.b.injEq, V.own.injEq, Row.mk.injEq, decide_true, decide_eq_true_eq, true_and, and_true, Bool.and_true, Bool.true_and, if_true, if_false, and_self, Nat.reduceLT, Nat.reduceLeDiff, Nat.reduceEqDiff, Nat.reduceAdd, Nat.reduceSub, Nat.reduceMul, Nat.reducePow, Nat.reduceBEq, Int.reduceLE, Int.reduceLT, Int.reduceToNat, Int.reduceEq, Int.reduceNeg, reduceIte, reduceCtorEq] <;> (first | done | trivial | (and_intros <;> first | trivial | omega | (rfl))), by simp [Apart], by first | exact Nat.zero_le _ | simp, by intro n hn; first | rfl | exact absurd hn (Nat.not_lt_zero _) | (have h0 : n = 0 := Nat.lt_one_iff.1 hn; subst h0; rfl)⟩
  ?_
 refine AX.block ?_
 refine AX.loop (fun N st => ∃ (j : Nat) (zs : List Rat), j ≤ S ∧ N = S - j ∧ zs = ql j q ∧ st = ⟨[(16, .i .i64 j), (15, .i .i64 S), (14, .sl X), (3, .ptr 2 0), (2, .ptr 1 0)], [(3, ⟨38, qrow zs⟩), (2, ⟨25, [.sl V1, .sl V2, .own 3 0 j 3]⟩), (1, ⟨25, [.nl, .nl, .nl]⟩)], 4⟩) S ⟨0, _, Nat.zero_le _, rfl, rfl, rfl⟩ ?_
 rintro N st ⟨j, zs, hj, rfl, hzs, rfl⟩
 by_cases h1 : j < S
 ·have hix1 := hix j h1
  have cow1 := cow j h1
  have hlq : (qrow zs).length = j * 3 := by rw [qrow_length, hzs, ql_length]
  have ea : qrow zs ++ [.b (decide ((q j).num < 0)), dg (digits (q j).num.natAbs), dg (digits (q j).den)] = qrow (ql (j + 1) q) := by rw [ql_succ, qrow_app, qrow_one, hzs]
  clear hix cow c1 c2
  generalize decide ((q j).num < 0) = s at *
  generalize digits (q j).num.natAbs = a at *
  generalize digits (q j).den = b at *
  refine AX.sR (rgAV [2, 3, 14, 15, 16, 17]) ?_
  refine AX.seq ?_
  refine AX.condT ?_
  refine AX.keepA [2, 3, 14, 15, 16] ?_
  refine AX.skip ?_
  refine nmZ ?_
  refine AX.seq ?_
  refine AX.block ?_
  refine AX.sR (rgEV [2, 3, 5, 14, 15, 16] oT oT (aI hix1 oT)) ?_
  refine AX.rD (rgDWV [2, 3, 14, 15, 16] (aI @hlq (aI @flat_q (aI @zerosV_1 (aI @tkS (aI @tk0 oT))))) (aI cow1 oT)) ?_
  refine nmZ ?_
  rw [ea]
  refine AX.rR (rgWV [2, 3, 14, 15, 16] (aI @lit_add oT) oT) ?_
  refine nmZ ?_
  refine ⟨_, _, fun n => if n = 3 then 6 else n, ?_,
   leQ5
   , ⟨j + 1, _, by omega, rfl, rfl, rfl⟩⟩
  omega
 ·obtain rfl : j = S := by omega
  subst hzs
  refine AX.sR (rgAV [2, 3, 14, 15, 16, 17]) ?_
  refine AX.seq ?_
  refine AX.condF ?_
  refine AX.exit ?_
  refine nmZ ?_
  refine AX.sR (rgAV [2]) ?_
  refine AX.ret ⟨.inl rfl, ?_⟩
  exact Lift.Done.facO fa_lay_fac rfl rfl rfl
set_option maxHeartbeats 8000000 in
theorem fNormal_ok (t : Nat → Nat) (q : Nat → Rat) (ht : okT t) (L : Nat) (hL1 : 1 ≤ L) (hL : L ≤ 2 ^ 20) (hq : ∀ k, k < szT t → rL (q k) ≤ L) (s : Rat) (hs : sumTo (ql (szT t) q) (szT t) = s) (hsL : rL s ≤ 2 ^ 33) (h0 : s ≠ 0) : PCall Tryz.prog 14 [FV t q] (.tup [FV t (fun k => q k / s), .i .i64 0]) [] := by
 have ct := ftotal_ok t q ht L hL1 hL hq
 have cc := fclone_own t q ht (fun k hk => Nat.le_trans (hq k hk) (by omega))
 rw [hs] at ct
 have cd : ∀ k, k < szT t → PCall Tryz.prog 37 [.agg [.b (decide ((q k).num < 0)), dg (digits (q k).num.natAbs), dg (digits (q k).den)], .agg [.b (decide (s.num < 0)), dg (digits s.num.natAbs), dg (digits s.den)]]
   (.tup [.agg [.b (decide ((q k / s).num < 0)), dg (digits (q k / s).num.natAbs), dg (digits (q k / s).den)], .i .i64 0]) [] := fun k hk => by
  have := qdiv_ok (L := 2 ^ 33) (IsQ.of (q := q k) (Nat.le_trans (hq k hk) (by omega))) (IsQ.of hsL) (by decide)
  unfold qdivV at this
  rw [if_neg h0] at this
  exact this
 have ct1 : PCall Tryz.prog 12 [FV t q] (.tup [.agg [.b (decide (s.num < 0)), dg (digits s.num.natAbs), dg (digits s.den)], .i .i64 0]) [] := ct
 clear ct hs
 have hS := ht.2
 unfold FV fV at *
 rw [xsT_map t q] at *
 rw [xsT_map t fun k => q k / s]
 generalize zl (ci (vsT t)) = V1 at *
 generalize zl (ci (asT t)) = V2 at *
 generalize szT t = S at *
 generalize (ql S q).map rV = X at *
 refine PCall.of_ax Tryz.call14 Tryz.func14 rfl (by simp [Tryz.ntmps14]) fun O w0 => ?_
 simp only [Tryz.ntmps14, Tryz.results14, argFr]
 refine AX.sR (rgAV [1, 2]) ?_
 refine AX.sR (rgCV [1, 2, 4, 5] (aI ct1 oT)) ?_
 refine AX.seq ?_
 refine AX.sR (rgAV [1, 2, 4, 5, 15]) ?_
 refine AX.condF ?_
 refine AX.keepA [1, 2, 4] ?_
 refine AX.skip ?_
 refine nmZ ?_
 refine AX.sR (rgCV [2, 4, 6] (aI cc oT)) ?_
 refine AX.seq ?_
 refine AX.sR (rgAV [2, 4, 6, 21, 22, 23]) ?_
 clear cc ct1 hq
 refine AX.weaken id (st' := ⟨[(23, .i .i64 (0 : Nat)), (22, .i .i64 S), (21, .own 3 0 S 3), (6, .ptr 4 0), (4, .ptr 2 0), (2, .ptr 1 0)], [(4, ⟨25, [.sl V1, .sl V2, .own 3 0 S 3]⟩), (3, ⟨38, qrow (ql S q)⟩), (2, ⟨38, [.b (decide (s.num < 0)), dg (digits s.num.natAbs), dg (digits s.den)]⟩), (1, ⟨25, [.nl, .nl, .nl]⟩)], 5⟩)
  leQ5
  ?_
 refine AX.block ?_
 refine AX.loop (fun N st => ∃ (j : Nat) (f : Nat → Rat), j ≤ S ∧ N = S - j ∧ (∀ k, k < S → f k = if k < j then q k / s else q k) ∧ st = ⟨[(23, .i .i64 j), (22, .i .i64 S), (21, .own 3 0 S 3), (6, .ptr 4 0), (4, .ptr 2 0), (2, .ptr 1 0)], [(4, ⟨25, [.sl V1, .sl V2, .own 3 0 S 3]⟩), (3, ⟨38, qrow (ql S f)⟩), (2, ⟨38, [.b (decide (s.num < 0)), dg (digits s.num.natAbs), dg (digits s.den)]⟩), (1, ⟨25, [.nl, .nl, .nl]⟩)], 5⟩) S ⟨0, q, Nat.zero_le _, rfl, fun k _ => (if_neg (Nat.not_lt_zero _)).symm, rfl⟩ ?_
 rintro N st ⟨j, f, hj, rfl, hf, rfl⟩
 by_cases h1 : j < S
 ·have hfj : f j = q j := by rw [hf j h1, if_neg (Nat.lt_irrefl _)]
  have cd1 := cd j h1
  rw [← hfj] at cd1
  have g1 := qlget f h1 rfl
  have s1 := qlset f (f j / s) h1
  have hl : (qrow (ql S f)).length = S * 3 := by rw [qrow_length, ql_length]
  have hnew : ∀ k, k < S → (if k = j then f j / s else f k) = if k < j + 1 then q k / s else q k := fun k hk => by
   by_cases e : k = j
   ·rw [if_pos e, e, if_pos (Nat.lt_succ_self _), hfj]
   ·rw [if_neg e, hf k hk]
    by_cases e2 : k < j
    ·rw [if_pos e2, if_pos (by omega)]
    ·rw [if_neg e2, if_neg (by omega)]
  clear cd hfj hf
  obtain ⟨f', hf'⟩ : ∃ f', (fun k => if k = j then f j / s else f k) = f' := ⟨_, rfl⟩
  rw [hf'] at s1
  have hnew' : ∀ k, k < S → f' k = if k < j + 1 then q k / s else q k := fun k hk => by rw [← hf']; exact hnew k hk
  clear hnew hf'
  generalize f j / s = q2 at *
  generalize f j = q1 at *
  refine AX.sR (rgAV [2, 4, 6, 21, 22, 23, 24]) ?_
  refine AX.seq ?_
  refine AX.condT ?_
  refine AX.keepA [2, 4, 6, 21, 22, 23] ?_
  refine AX.skip ?_
  refine nmZ ?_
  refine AX.seq ?_
  refine AX.block ?_
  refine AX.sR (rgWV [2, 4, 6, 7, 8, 21, 22, 23] (aI @hl (aI @g1 oT)) oT) ?_
  refine AX.sD (rgDWV [2, 4, 5, 6, 21, 22, 23] (aI @hl (aI @g1 (aI @s1 oT))) (aI cd1 oT)) ?_
  refine AX.sR (rgAV [2, 4, 6, 21, 22, 23, 39]) ?_
  refine AX.condF ?_
  refine AX.keepA [2, 4, 6, 21, 22, 23] ?_
  refine AX.skip ?_
  refine nmZ ?_
  refine AX.rR (rgWV [2, 4, 6, 21, 22, 23] (aI @lit_add oT) oT) ?_
  refine nmZ ?_
  refine ⟨_, _, id, ?_,
   leQ5
   , ⟨j + 1, f', by omega, rfl, hnew', rfl⟩⟩
  omega
 ·obtain rfl : j = S := by omega
  have e := ql_congr hf
  have e2 : ql j (fun k => if k < j then q k / s else q k) = ql j fun k => q k / s := ql_congr fun k hk => if_pos hk
  rw [e2] at e
  rw [e]
  refine AX.sR (rgAV [2, 4, 6, 21, 22, 23, 24]) ?_
  refine AX.seq ?_
  refine AX.condF ?_
  refine AX.exit ?_
  refine nmZ ?_
  refine AX.sR (rgAV [2, 3]) ?_
  refine AX.ret ⟨.inl rfl, ?_⟩
  exact Lift.Done.facS fa_lay_fac rfl rfl rfl rfl (ql_length _ _).symm
set_option maxHeartbeats 8000000 in
theorem fNormal_zero (t : Nat → Nat) (q : Nat → Rat) (ht : okT t) (L : Nat) (hL1 : 1 ≤ L) (hL : L ≤ 2 ^ 20) (hq : ∀ k, k < szT t → rL (q k) ≤ L) (hs : sumTo (ql (szT t) q) (szT t) = 0) : PCall Tryz.prog 14 [FV t q] (.tup [fV [] [] [], .i .i64 31]) [] := by
 have ct := ftotal_ok t q ht L hL1 hL hq
 have cc := fclone_own t q ht (fun k hk => Nat.le_trans (hq k hk) (by omega))
 rw [hs] at ct
 obtain ⟨s, hs0⟩ : ∃ s : Rat, s = 0 := ⟨_, rfl⟩
 rw [← hs0] at ct
 have hS0 := szT_pos t
 have cd : PCall Tryz.prog 37 [.agg [.b (decide ((q 0).num < 0)), dg (digits (q 0).num.natAbs), dg (digits (q 0).den)], .agg [.b (decide (s.num < 0)), dg (digits s.num.natAbs), dg (digits s.den)]]
   (.tup [.agg [.b false, dg [], dg []], .i .i64 31]) [] := by
  have := qdiv_ok (L := 2 ^ 33) (IsQ.of (q := q 0) (Nat.le_trans (hq 0 hS0) (by omega))) (IsQ.of (q := s) (by rw [hs0]; exact Nat.le_trans (by decide +kernel : rL 0 ≤ 1) (by decide))) (by decide)
  unfold qdivV at this
  rw [if_pos hs0] at this
  exact this
 have ct1 : PCall Tryz.prog 12 [FV t q] (.tup [.agg [.b (decide (s.num < 0)), dg (digits s.num.natAbs), dg (digits s.den)], .i .i64 0]) [] := ct
 clear ct hs
 have hS := ht.2
 unfold FV fV at *
 rw [xsT_map] at *
 generalize zl (ci (vsT t)) = V1 at *
 generalize zl (ci (asT t)) = V2 at *
 generalize szT t = S at *
 generalize (ql S q).map rV = X at *
 have g1 : List.take 3 (qrow (ql S q)) = _ := qlget q hS0 rfl
 have hl : (qrow (ql S q)).length = S * 3 := by rw [qrow_length, ql_length]
 generalize q 0 = q1 at *
 refine PCall.of_ax Tryz.call14 Tryz.func14 rfl (by simp [Tryz.ntmps14]) fun O w0 => ?_
 simp only [Tryz.ntmps14, Tryz.results14, argFr]
 refine AX.sR (rgAV [1, 2]) ?_
 refine AX.sR (rgCV [1, 2, 4, 5] (aI ct1 oT)) ?_
 refine AX.seq ?_
 refine AX.sR (rgAV [1, 2, 4, 5, 15]) ?_
 refine AX.condF ?_
 refine AX.keepA [1, 2, 4] ?_
 refine AX.skip ?_
 refine nmZ ?_
 refine AX.sR (rgCV [2, 4, 6] (aI cc oT)) ?_
 refine AX.seq ?_
 refine AX.sR (rgAV [2, 4, 6, 21, 22, 23]) ?_
 clear cc ct1 hq
 refine AX.weaken id (st' := ⟨[(23, .i .i64 (0 : Nat)), (22, .i .i64 S), (21, .own 3 0 S 3), (6, .ptr 4 0), (4, .ptr 2 0), (2, .ptr 1 0)], [(4, ⟨25, [.sl V1, .sl V2, .own 3 0 S 3]⟩), (3, ⟨38, qrow (ql S q)⟩), (2, ⟨38, [.b (decide (s.num < 0)), dg (digits s.num.natAbs), dg (digits s.den)]⟩), (1, ⟨25, [.nl, .nl, .nl]⟩)], 5⟩)
  leQ5
  ?_
 refine AX.block ?_
 refine AX.loop (fun N st => N = 0 ∧ st = ⟨[(23, .i .i64 (0 : Nat)), (22, .i .i64 S), (21, .own 3 0 S 3), (6, .ptr 4 0), (4, .ptr 2 0), (2, .ptr 1 0)], [(4, ⟨25, [.sl V1, .sl V2, .own 3 0 S 3]⟩), (3, ⟨38, qrow (ql S q)⟩), (2, ⟨38, [.b (decide (s.num < 0)), dg (digits s.num.natAbs), dg (digits s.den)]⟩), (1, ⟨25, [.nl, .nl, .nl]⟩)], 5⟩) 0 ⟨rfl, rfl⟩ ?_
 rintro N st ⟨rfl, rfl⟩
 refine AX.sR (rgAV [2, 4, 6, 21, 22, 23, 24]) ?_
 refine AX.seq ?_
 refine AX.condT ?_
 refine AX.keepA [2, 4, 6, 21, 22, 23] ?_
 refine AX.skip ?_
 refine nmZ ?_
 refine AX.seq ?_
 refine AX.block ?_
 refine AX.sR (rgWV [2, 4, 6, 7, 8, 21, 22, 23] (aI @hl (aI @g1 oT)) oT) ?_
 refine AX.sD (rgDWV [2, 4, 5, 6, 21, 22, 23] (aI @hl (aI @g1 oT)) (aI cd oT)) ?_
 refine AX.sR (rgAV [2, 4, 6, 21, 22, 23, 39]) ?_
 refine AX.condT ?_
 refine AX.sR (rgAV [2, 3]) ?_
 refine AX.ret ⟨.inl rfl, ?_⟩
 exact Lift.Done.facE fa_lay_fac rfl rfl rfl
end Go.Proofs.YtogpimmcodaljaaGreat
