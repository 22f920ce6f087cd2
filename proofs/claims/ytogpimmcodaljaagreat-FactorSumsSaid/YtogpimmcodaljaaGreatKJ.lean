/- Factors: the program's less, Sum, Most. -/
import Derived.Test.YtogpimmcodaljaaGreatKI
set_option linter.unusedVariables false
set_option maxRecDepth 20000
set_option linter.unusedSimpArgs false
namespace Go.Proofs.YtogpimmcodaljaaGreat
open Go Go.Proofs.YtogpimmcodaljaaGreat.Lift
attribute [local irreducible] Lift.PCall Lift.HCall
theorem pw_ci {l : List Nat} (h : l.Pairwise (· < ·)) : (ci l).Pairwise (· < ·) := List.pairwise_map.2 (h.imp fun {a b} hab => by omega)
theorem tz_mem {t : Nat → Nat} {v : Int} {j : Nat} (hj : j < (vsT t).length) (h : (((vsT t).getD j 0 : Nat) : Int) = v) : tz t v ≠ 0 := by
 rw [← h, tz_at hj]
 exact (vsT_get hj).2
theorem bs_none {t : Nat → Nat} {v : Int} (h : tz t v = 0) (R : Nat) : decide (R < (ci (vsT t)).length ∧ (ci (vsT t)).getD R 0 = v) = false := decide_eq_false fun ⟨h1, h2⟩ => by
 rw [ci_length] at h1
 rw [cast_get] at h2
 exact tz_mem h1 h2 h
theorem bs_some {t : Nat → Nat} {v : Nat} (hv : v < 64) (h0 : t v ≠ 0) : ∃ i, i < (vsT t).length ∧ (vsT t).getD i 0 = v ∧ bsN (ci (vsT t)) v (ci (vsT t)).length 0 (ci (vsT t)).length = i := by
 obtain ⟨s1, s2⟩ := bsN_spec (v := v) (pw_ci (vsT_asc t)) (ci (vsT t)).length 0 (ci (vsT t)).length (by omega) (Nat.zero_le _) (Nat.le_refl _) (fun k hk => absurd hk (Nat.not_lt_zero _)) (fun k h1 h2 => absurd h2 (by omega))
 obtain ⟨i, hi, e⟩ := mem_getD0 (vsT_mem.2 ⟨hv, h0⟩)
 generalize bsN (ci (vsT t)) v (ci (vsT t)).length 0 (ci (vsT t)).length = R at *
 refine ⟨i, hi, e, ?_⟩
 have h1 : ¬ i < R := fun h => by
  have := s1 i h
  rw [cast_get, e] at this
  omega
 have h2 : ¬ R < i := fun h => by
  have h3 := s2 R (Nat.le_refl _) (by rw [ci_length]; omega)
  have h4 := asc_get (vsT_asc t) h hi
  rw [cast_get] at h3
  omega
 omega
theorem bs_dec {t : Nat → Nat} {v i : Nat} (hi : i < (vsT t).length) (e : (vsT t).getD i 0 = v) : decide (i < (ci (vsT t)).length ∧ (ci (vsT t)).getD i 0 = (v : Int)) = true := decide_eq_true ⟨by rw [ci_length]; exact hi, by rw [cast_get, e]⟩
set_option maxHeartbeats 8000000 in
theorem fless_not (arm : Int) (F : Nat) (vs ws : List Int) (xs : List RT) (hv : vs.length < 2 ^ 40) (ha : ws.length < 2 ^ 40) (hl : xs.length < 2 ^ 40) (hx : okX xs) (h : isF vs ws xs = false) (v : Int) : PCall Tryz.prog 24 [fV vs ws xs, .i .i64 v, .fn F []] (.tup [fV [] [] [], .i .i64 1]) [] := by
 have cr := fright_ok vs ws xs hv ha hl hx
 rw [h] at cr
 unfold fV at *
 generalize zl vs = V1 at *
 generalize zl ws = V2 at *
 generalize xs.map fR = V3 at *
 refine PCall.of_ax Tryz.call24 Tryz.func24 rfl (by simp [Tryz.ntmps24]) fun O w0 => ?_
 simp only [Tryz.ntmps24, Tryz.results24, argFr]
 refine AX.sR (rgAV [1, 2, 3, 6]) ?_
 refine AX.seq ?_
 refine AX.sR (rgCV [1, 2, 3, 6, 12] (aI cr oT)) ?_
 refine AX.condT ?_
 refine AX.sR (rgAV [6, 7]) ?_
 refine AX.ret ⟨.inl rfl, ?_⟩
 exact Lift.Done.facE fa_lay_fac rfl rfl rfl
set_option maxHeartbeats 8000000 in
theorem fless_none (arm : Int) (F : Nat) (t : Nat → Nat) (q : Nat → Rat) (ht : okT t) (hq : ∀ k, k < szT t → rL (q k) ≤ 2 ^ 30) (v : Int) (hv : -9223372036854775808 ≤ v ∧ v ≤ 9223372036854775807) (h0 : tz t v = 0) : PCall Tryz.prog 24 [FV t q, .i .i64 v, .fn F []] (.tup [FV t q, .i .i64 0]) [] := by
 have hm := vsT_len t
 have cr := fright_ok (ci (vsT t)) (ci (asT t)) (xsT t q) (by rw [ci_length]; omega) (by rw [ci_length, asT_len]; omega) (by rw [xsT_length]; have := ht.2; omega) (xsT_okY hq).x
 rw [isF_T ht q] at cr
 have cb := fbs_ok (ci (vsT t)) v (by rw [ci_length]; omega) (ci_bd (M := 64) (fun j hj => by have := (vsT_get hj).1; omega) (by omega)) hv
 rw [bs_none h0] at cb
 have cc := fclone_ok t q ht hq
 generalize bsN (ci (vsT t)) v (ci (vsT t)).length 0 (ci (vsT t)).length = R at *
 unfold FV fV at *
 generalize zl (ci (vsT t)) = V1 at *
 generalize zl (ci (asT t)) = V2 at *
 generalize (xsT t q).map fR = V3 at *
 refine PCall.of_ax Tryz.call24 Tryz.func24 rfl (by simp [Tryz.ntmps24]) fun O w0 => ?_
 simp only [Tryz.ntmps24, Tryz.results24, argFr]
 refine AX.sR (rgAV [1, 2, 3, 6]) ?_
 refine AX.seq ?_
 refine AX.sR (rgCV [1, 2, 3, 6, 12] (aI cr oT)) ?_
 refine AX.condF ?_
 refine AX.keepA [1, 2, 3, 6] ?_
 refine AX.skip ?_
 refine nmZ ?_
 refine AX.sR (rgCV [2, 3, 6, 8, 9] (aI cb oT)) ?_
 refine AX.seq ?_
 refine AX.sR (rgAV [2, 3, 6, 8, 22]) ?_
 refine AX.condT ?_
 refine AX.sR (rgCV [6, 7] (aI cc oT)) ?_
 refine AX.ret ⟨.inl rfl, ?_⟩
 exact dnQ5
set_option maxHeartbeats 8000000 in
theorem fless_some (arm : Int) (F : Nat) (t : Nat → Nat) (q : Nat → Rat) (ht : okT t) (hq : ∀ k, k < szT t → rL (q k) ≤ 2 ^ 30) (v : Nat) (hv : v < 64) (h0 : t v ≠ 0) (r : Nat → Rat) (hop : ∀ n, n < szT (updT t v 0) → PCall Tryz.prog F ([.sl ((ql (t v) fun k => q (enT t (updT (deT (updT t v 0) n) v k))).map rV)] ++ []) (rV (r n)) []) :
  PCall Tryz.prog 24 [FV t q, .i .i64 v, .fn F []] (.tup [FV (updT t v 0) r, .i .i64 0]) [] := by
 have hm := vsT_len t
 have cr := fright_ok (ci (vsT t)) (ci (asT t)) (xsT t q) (by rw [ci_length]; omega) (by rw [ci_length, asT_len]; omega) (by rw [xsT_length]; have := ht.2; omega) (xsT_okY hq).x
 rw [isF_T ht q] at cr
 have cb := fbs_ok (ci (vsT t)) v (by rw [ci_length]; omega) (ci_bd (M := 64) (fun j hj => by have := (vsT_get hj).1; omega) (by omega)) (by omega)
 obtain ⟨i, hi, e, hbs⟩ := bs_some hv h0
 rw [hbs, bs_dec hi e] at cb
 have cw := fwithout_ok arm t q ht i hi v e F r hop
 clear hbs e hop
 unfold FV fV at *
 generalize zl (ci (vsT t)) = V1 at *
 generalize zl (ci (asT t)) = V2 at *
 generalize (xsT t q).map fR = V3 at *
 generalize zl (ci (vsT (updT t v 0))) = V4 at *
 generalize zl (ci (asT (updT t v 0))) = V5 at *
 generalize (xsT (updT t v 0) r).map fR = V6 at *
 refine PCall.of_ax Tryz.call24 Tryz.func24 rfl (by simp [Tryz.ntmps24]) fun O w0 => ?_
 simp only [Tryz.ntmps24, Tryz.results24, argFr]
 refine AX.sR (rgAV [1, 2, 3, 6]) ?_
 refine AX.seq ?_
 refine AX.sR (rgCV [1, 2, 3, 6, 12] (aI cr oT)) ?_
 refine AX.condF ?_
 refine AX.keepA [1, 2, 3, 6] ?_
 refine AX.skip ?_
 refine nmZ ?_
 refine AX.sR (rgCV [2, 3, 6, 8, 9] (aI cb oT)) ?_
 refine AX.seq ?_
 refine AX.sR (rgAV [2, 3, 6, 8, 22]) ?_
 refine AX.condF ?_
 refine AX.keepA [2, 3, 6, 8] ?_
 refine AX.skip ?_
 refine nmZ ?_
 refine AX.sR (rgCV [6, 7] (aI cw oT)) ?_
 refine AX.ret ⟨.inl rfl, ?_⟩
 exact dnQ5
set_option maxHeartbeats 8000000 in
theorem flessr_not (arm : Int) (F : Nat) (vs ws : List Int) (xs : List RT) (hv : vs.length < 2 ^ 40) (ha : ws.length < 2 ^ 40) (hl : xs.length < 2 ^ 40) (hx : okX xs) (h : isF vs ws xs = false) (v : Int) : PCall Tryz.prog 24 [fV vs ws xs, .i .i64 v, .fn F [.rp [.i .i64 arm]]] (.tup [fV [] [] [], .i .i64 1]) [] := by
 have cr := fright_ok vs ws xs hv ha hl hx
 rw [h] at cr
 unfold fV at *
 generalize zl vs = V1 at *
 generalize zl ws = V2 at *
 generalize xs.map fR = V3 at *
 refine PCall.of_ax Tryz.call24 Tryz.func24 rfl (by simp [Tryz.ntmps24]) fun O w0 => ?_
 simp only [Tryz.ntmps24, Tryz.results24, argFr]
 refine AX.sR (rgAV [1, 2, 3, 6]) ?_
 refine AX.seq ?_
 refine AX.sR (rgCV [1, 2, 3, 6, 12] (aI cr oT)) ?_
 refine AX.condT ?_
 refine AX.sR (rgAV [6, 7]) ?_
 refine AX.ret ⟨.inl rfl, ?_⟩
 exact Lift.Done.facE fa_lay_fac rfl rfl rfl
set_option maxHeartbeats 8000000 in
theorem flessr_none (arm : Int) (F : Nat) (t : Nat → Nat) (q : Nat → Rat) (ht : okT t) (hq : ∀ k, k < szT t → rL (q k) ≤ 2 ^ 30) (v : Int) (hv : -9223372036854775808 ≤ v ∧ v ≤ 9223372036854775807) (h0 : tz t v = 0) : PCall Tryz.prog 24 [FV t q, .i .i64 v, .fn F [.rp [.i .i64 arm]]] (.tup [FV t q, .i .i64 0]) [] := by
 have hm := vsT_len t
 have cr := fright_ok (ci (vsT t)) (ci (asT t)) (xsT t q) (by rw [ci_length]; omega) (by rw [ci_length, asT_len]; omega) (by rw [xsT_length]; have := ht.2; omega) (xsT_okY hq).x
 rw [isF_T ht q] at cr
 have cb := fbs_ok (ci (vsT t)) v (by rw [ci_length]; omega) (ci_bd (M := 64) (fun j hj => by have := (vsT_get hj).1; omega) (by omega)) hv
 rw [bs_none h0] at cb
 have cc := fclone_ok t q ht hq
 generalize bsN (ci (vsT t)) v (ci (vsT t)).length 0 (ci (vsT t)).length = R at *
 unfold FV fV at *
 generalize zl (ci (vsT t)) = V1 at *
 generalize zl (ci (asT t)) = V2 at *
 generalize (xsT t q).map fR = V3 at *
 refine PCall.of_ax Tryz.call24 Tryz.func24 rfl (by simp [Tryz.ntmps24]) fun O w0 => ?_
 simp only [Tryz.ntmps24, Tryz.results24, argFr]
 refine AX.sR (rgAV [1, 2, 3, 6]) ?_
 refine AX.seq ?_
 refine AX.sR (rgCV [1, 2, 3, 6, 12] (aI cr oT)) ?_
 refine AX.condF ?_
 refine AX.keepA [1, 2, 3, 6] ?_
 refine AX.skip ?_
 refine nmZ ?_
 refine AX.sR (rgCV [2, 3, 6, 8, 9] (aI cb oT)) ?_
 refine AX.seq ?_
 refine AX.sR (rgAV [2, 3, 6, 8, 22]) ?_
 refine AX.condT ?_
 refine AX.sR (rgCV [6, 7] (aI cc oT)) ?_
 refine AX.ret ⟨.inl rfl, ?_⟩
 exact dnQ5
set_option maxHeartbeats 8000000 in
theorem flessr_some (arm : Int) (F : Nat) (t : Nat → Nat) (q : Nat → Rat) (ht : okT t) (hq : ∀ k, k < szT t → rL (q k) ≤ 2 ^ 30) (v : Nat) (hv : v < 64) (h0 : t v ≠ 0) (r : Nat → Rat) (hop : ∀ n, n < szT (updT t v 0) → PCall Tryz.prog F ([.sl ((ql (t v) fun k => q (enT t (updT (deT (updT t v 0) n) v k))).map rV)] ++ [.rp [.i .i64 arm]]) (rV (r n)) []) :
  PCall Tryz.prog 24 [FV t q, .i .i64 v, .fn F [.rp [.i .i64 arm]]] (.tup [FV (updT t v 0) r, .i .i64 0]) [] := by
 have hm := vsT_len t
 have cr := fright_ok (ci (vsT t)) (ci (asT t)) (xsT t q) (by rw [ci_length]; omega) (by rw [ci_length, asT_len]; omega) (by rw [xsT_length]; have := ht.2; omega) (xsT_okY hq).x
 rw [isF_T ht q] at cr
 have cb := fbs_ok (ci (vsT t)) v (by rw [ci_length]; omega) (ci_bd (M := 64) (fun j hj => by have := (vsT_get hj).1; omega) (by omega)) (by omega)
 obtain ⟨i, hi, e, hbs⟩ := bs_some hv h0
 rw [hbs, bs_dec hi e] at cb
 have cw := fwithoutr_ok arm t q ht i hi v e F r hop
 clear hbs e hop
 unfold FV fV at *
 generalize zl (ci (vsT t)) = V1 at *
 generalize zl (ci (asT t)) = V2 at *
 generalize (xsT t q).map fR = V3 at *
 generalize zl (ci (vsT (updT t v 0))) = V4 at *
 generalize zl (ci (asT (updT t v 0))) = V5 at *
 generalize (xsT (updT t v 0) r).map fR = V6 at *
 refine PCall.of_ax Tryz.call24 Tryz.func24 rfl (by simp [Tryz.ntmps24]) fun O w0 => ?_
 simp only [Tryz.ntmps24, Tryz.results24, argFr]
 refine AX.sR (rgAV [1, 2, 3, 6]) ?_
 refine AX.seq ?_
 refine AX.sR (rgCV [1, 2, 3, 6, 12] (aI cr oT)) ?_
 refine AX.condF ?_
 refine AX.keepA [1, 2, 3, 6] ?_
 refine AX.skip ?_
 refine nmZ ?_
 refine AX.sR (rgCV [2, 3, 6, 8, 9] (aI cb oT)) ?_
 refine AX.seq ?_
 refine AX.sR (rgAV [2, 3, 6, 8, 22]) ?_
 refine AX.condF ?_
 refine AX.keepA [2, 3, 6, 8] ?_
 refine AX.skip ?_
 refine nmZ ?_
 refine AX.sR (rgCV [6, 7] (aI cw oT)) ?_
 refine AX.ret ⟨.inl rfl, ?_⟩
 exact dnQ5
set_option maxHeartbeats 16000000 in
theorem fmaxf_ok (n : Nat) (f : Nat → Rat) (hn : 1 ≤ n) (hn2 : n < 2 ^ 40) (L : Nat) (hf : ∀ k, k < n → rL (f k) ≤ L) (hL : L ≤ 2 ^ 30) : PCall Tryz.prog 29 [.sl ((ql n f).map rV), .fn 30 []] (rV (woX 1 0 f n)) [] := by
 have hl : ((ql n f).map rV).length = n := by rw [List.length_map, ql_length]
 have hix := fun (k : Nat) (h : k < n) => fun x y => effIxT (x := x) (y := y) f h
 have h1X : woX 1 0 f 1 = f 0 := if_pos (.inl rfl)
 have hst : ∀ k, 1 ≤ k → woX 1 0 f (k + 1) = if woX 1 0 f k < f k then f k else woX 1 0 f k := fun k hk => by
  show (if k = 0 ∨ 1 = 2 ∧ (k : Int) = 0 then f k else if 1 = 0 then woX 1 0 f k + f k else if 1 = 1 ∧ woX 1 0 f k < f k then f k else woX 1 0 f k) = _
  rw [if_neg (by omega), if_neg (by decide)]
  by_cases h : woX 1 0 f k < f k
  ·rw [if_pos ⟨rfl, h⟩, if_pos h]
  ·rw [if_neg (fun hh => h hh.2), if_neg h]
 have hlm : ∀ k, 1 ≤ k → k ≤ n → rL (woX 1 0 f k) ≤ L := fun k => by
  induction k with
  | zero => intro h; omega
  | succ k ih =>
   intro _ hk
   by_cases h0 : k = 0
   ·rw [h0, h1X]; exact hf 0 (by omega)
   ·rw [hst k (by omega)]
    split
    ·exact hf k (by omega)
    ·exact ih (by omega) (by omega)
 have cc := fun k (hk : k < n) (h1 : 1 ≤ k) => qcmp_ok (IsQ.of (hf k hk)) (IsQ.of (hlm k h1 (by omega))) (by omega)
 refine PCall.of_ax Tryz.call29 Tryz.func29 rfl (by simp [Tryz.ntmps29]) fun O w0 => ?_
 simp only [Tryz.ntmps29, Tryz.results29, argFr]
 have hx0 := hix 0 (by omega)
 rw [show ((0 : Nat) : Int) = 0 from rfl] at hx0
 generalize (ql n f).map rV = X at *
 unfold rV rR at cc
 refine AX.sR (rgAV [0, 1, 4]) ?_
 refine AX.seq ?_
 refine AX.sR (rgWV [0, 1, 4, 9] (aI @hl oT) oT) ?_
 refine AX.condF ?_
 refine AX.keepA [0, 1, 4] ?_
 refine AX.skip ?_
 refine nmZ ?_
 refine AX.sR (rgEV [0, 1, 4, 5] oT oT (aI hx0 oT)) ?_
 refine AX.seq ?_
 refine AX.sR (rgAV [0, 1, 4, 5, 6]) ?_
 refine AX.weaken id (st' := ⟨[(6, .i .i64 (1 : Nat)), (5, .ptr 1 0), (4, .ptr 0 0), (1, .fn 30 []), (0, .sl X)], [(1, ⟨38, [.b (decide ((f 0).num < 0)), dg (digits (f 0).num.natAbs), dg (digits (f 0).den)]⟩), (0, ⟨38, [.b false, .nl, .nl]⟩)], 2⟩)
  ⟨by simp only [ren_q, renL_u, ren_zl, ren_tb, ren_frw, ren_cnq, lt_q, ltL_u, lt_zl, lt_tb, lt_frw, lt_cnq, LeFr, LeHp, lkp, V.ren, V.renL, Row.ren, V.lt, V.ltL, renL_u, ltL_u, List.length_append, List.length_cons, List.length_nil, List.length_set, id_eq, Option.some.injEq, V.i.injEq, V.b.injEq, V.own.injEq, Row.mk.injEq, decide_true, decide_eq_true_eq, true_and, and_true, Bool.and_true, Bool.true_and, if_true, if_false, and_self, Nat.reduceLT, Nat.reduceLeDiff, Nat.reduceEqDiff, Nat.reduceAdd, Nat.reduceSub, Nat.reduceMul, Nat.reducePow, Nat.reduceBEq, Int.reduceLE, Int.reduceLT, Int.reduceToNat, Int.reduceEq, Int.reduceNeg, reduceIte, reduceCtorEq] <;> (first | done | trivial | (and_intros <;> first | trivial | omega | (rfl))), by simp only [ren_q, renL_u, ren_zl, ren_tb, ren_frw, ren_cnq, lt_q, ltL_u, lt_zl, lt_tb, lt_frw, lt_cnq, LeFr, LeHp, lkp, V.ren, V.renL, Row.ren, V.lt, V.ltL, renL_u, ltL_u, List.length_append, List.length_cons, List.length_nil, List.length_set, id_eq, Option.some.injEq, V.i.injEq, V.b.injEq, V.own.injEq, Row.mk.injEq, decide_true, decide_eq_true_eq, true_and, and_true, Bool.and_true, Bool.true_and, if_true, if_false, and_self, Nat.reduceLT, Nat.reduceLeDiff, Nat.reduceEqDiff, Nat.reduceAdd, Nat.reduceSub, Nat.reduceMul, Nat.reducePow, Nat.reduceBEq, Int.reduceLE, Int.reduceLT, Int.reduceToNat, Int.reduceEq, Int.reduceNeg, reduceIte, reduceCtorEq] <;> (first | done | trivial | (and_intros <;> first | trivial | omega | (rfl))), by simp [Apart], by first | exact Nat.zero_le _ | simp, by intro n hn; first | rfl | exact absurd hn (Nat.not_lt_zero _) | (have h0 : n = 0 := Nat.lt_one_iff.1 hn; subst h0; rfl)⟩
  ?_
 refine AX.block ?_
 refine AX.loop (fun N st => ∃ (k : Nat) (m : Rat), 1 ≤ k ∧ k ≤ n ∧ N = n - k ∧ woX 1 0 f k = m ∧ st = ⟨[(6, .i .i64 k), (5, .ptr 1 0), (4, .ptr 0 0), (1, .fn 30 []), (0, .sl X)], [(1, ⟨38, [.b (decide (m.num < 0)), dg (digits m.num.natAbs), dg (digits m.den)]⟩), (0, ⟨38, [.b false, .nl, .nl]⟩)], 2⟩) (n - 1) ⟨1, f 0, Nat.le_refl _, hn, rfl, h1X, rfl⟩ ?_
 rintro N st ⟨k, m, hk1, hk, rfl, hmk, rfl⟩
 refine AX.seq ?_
 by_cases h1 : k < n
 ·have c1 := cc k h1 hk1
  have hx := hix k h1
  have hs := hst k hk1
  rw [hmk] at c1 hs
  have hgt : m < f k → cmpR (f k) m = 1 := fun h => cmpR_gt h
  have hng : ¬ m < f k → ¬ 0 < cmpR (f k) m := fun h => cmpR_ngt h
  have hbd : -1 ≤ cmpR (f k) m ∧ cmpR (f k) m ≤ 1 := by
   unfold cmpR
   split
   ·decide
   ·split <;> decide
  clear cc hix hst hlm hf hx0
  generalize cmpR (f k) m = c at *
  refine AX.sR (rgWV [0, 1, 4, 5, 6, 17] (aI @hl oT) oT) ?_
  refine AX.condT ?_
  refine AX.keepA [0, 1, 4, 5, 6] ?_
  refine AX.skip ?_
  refine nmZ ?_
  refine AX.seq ?_
  refine AX.block ?_
  by_cases h2 : m < f k
  ·obtain rfl := hgt h2
   rw [if_pos h2] at hs
   refine AX.sD (rgDEV [0, 1, 4, 5, 6, 27] oT (aI c1 oT) (aI hx oT)) ?_
   refine AX.condT ?_
   refine AX.rR (rgEV [0, 1, 4, 5, 6] oT oT (aI hx oT)) ?_
   refine nmZ ?_
   refine AX.rR (rgWV [0, 1, 4, 5, 6] (aI @lit_add oT) oT) ?_
   refine nmZ ?_
   refine ⟨_, _, id, ?_,
    leQ5
    , ⟨k + 1, f k, by omega, by omega, rfl, hs, rfl⟩⟩
   omega
  ·have hng := hng h2
   rw [if_neg h2] at hs
   refine AX.sD (rgDEV [0, 1, 4, 5, 6, 27] oT (aI c1 oT) (aI hx oT)) ?_
   refine AX.condF ?_
   refine AX.keepA [0, 1, 4, 5, 6] ?_
   refine AX.skip ?_
   refine nmZ ?_
   refine AX.rR (rgWV [0, 1, 4, 5, 6] (aI @lit_add oT) oT) ?_
   refine nmZ ?_
   refine ⟨_, _, id, ?_,
    leQ5
    , ⟨k + 1, m, by omega, by omega, rfl, hs, rfl⟩⟩
   omega
 ·obtain rfl : k = n := by omega
  rw [hmk]
  refine AX.sR (rgWV [0, 1, 4, 5, 6, 17] (aI @hl oT) oT) ?_
  refine AX.condF ?_
  refine AX.exit ?_
  refine nmZ ?_
  refine AX.sR (rgAV [4]) ?_
  refine AX.ret ⟨.inl rfl, ?_⟩
  exact Done.cell rfl rfl
end Go.Proofs.YtogpimmcodaljaaGreat
/- Factors: the program's Sum, Most, Restrict. -/
set_option linter.unusedVariables false
set_option linter.unusedSimpArgs false
namespace Go.Proofs.YtogpimmcodaljaaGreat
open Go Go.Proofs.YtogpimmcodaljaaGreat.Lift
attribute [local irreducible] Lift.PCall Lift.HCall
theorem sumTo_woX {N : Nat} (arm : Int) (f : Nat → Rat) : ∀ k, k ≤ N → sumTo (ql N f) k = woX 0 arm f k
 | 0, _ => rfl
 | k + 1, h => by
  show sumTo (ql N f) k + (ql N f).getD k 0 = if k = 0 ∨ 0 = 2 ∧ (k : Int) = arm then f k else if 0 = 0 then woX 0 arm f k + f k else _
  rw [ql_get f (by omega), sumTo_woX arm f k (by omega)]
  by_cases h0 : k = 0
  ·subst h0
   rw [if_pos (.inl rfl)]
   exact Rat.zero_add _
  ·rw [if_neg (by omega), if_pos rfl]
theorem hopSum (n : Nat) (f : Nat → Rat) (hn : 1 ≤ n) (hn2 : n ≤ 64) (L : Nat) (hL1 : 1 ≤ L) (hL : L ≤ 2 ^ 26) (hf : ∀ k, k < n → rL (f k) ≤ L) : PCall Tryz.prog 25 ([.sl ((ql n f).map rV)] ++ []) (rV (woX 0 0 f n)) [] := by
 have e : ((ql n f).map rV).length = n := by rw [List.length_map, ql_length]
 have cs := qsum_ok (isQs_ql hf) (by
  rw [e]
  have h2 : n * (L + 1) ≤ 64 * (L + 1) := Nat.mul_le_mul_right _ hn2
  omega) hL1
 rw [e, sumTo_woX 0 f n (Nat.le_refl _)] at cs
 exact cs
set_option maxHeartbeats 4000000 in
theorem hopMost (n : Nat) (f : Nat → Rat) (hn : 1 ≤ n) (hn2 : n ≤ 64) (L : Nat) (hL1 : 1 ≤ L) (hL : L ≤ 2 ^ 26) (hf : ∀ k, k < n → rL (f k) ≤ L) : PCall Tryz.prog 27 ([.sl ((ql n f).map rV)] ++ []) (rV (woX 1 0 f n)) [] := by
 have c1 := fmaxf_ok n f hn (by omega) L hf (by omega)
 have hm := woX_len (what := 1) (arm := 0) hf n (Nat.le_refl _)
 have h2 : n * (L + 1) ≤ 64 * (L + 1) := Nat.mul_le_mul_right _ hn2
 have c2 := fown_ok (IsQ.of (Nat.le_trans hm (show _ ≤ 2 ^ 33 - 1 by omega))) (by omega) (by omega)
 generalize woX 1 0 f n = m at *
 unfold rV rR at *
 rw [List.append_nil]
 refine PCall.of_ax Tryz.call27 Tryz.func27 rfl (by simp [Tryz.ntmps27]) fun O w0 => ?_
 simp only [Tryz.ntmps27, Tryz.results27, argFr]
 generalize (ql n f).map _ = X at *
 refine AX.sR (rgAV [0, 2]) ?_
 refine AX.sR (rgCV [2] (aI c1 (aI c2 oT))) ?_
 refine AX.ret ⟨.inl rfl, ?_⟩
 exact Done.cell rfl rfl
set_option maxHeartbeats 4000000 in
theorem hopRestrict (n : Nat) (f : Nat → Rat) (hn : 1 ≤ n) (hn2 : n ≤ 64) (L : Nat) (hL1 : 1 ≤ L) (hL : L ≤ 2 ^ 26) (hf : ∀ k, k < n → rL (f k) ≤ L) (a : Nat) (ha : a < n) : PCall Tryz.prog 33 ([.sl ((ql n f).map rV)] ++ [.rp [.i .i64 (a : Nat)]]) (rV (woX 2 (a : Int) f n)) [] := by
 have e : ((ql n f).map rV).length = n := by rw [List.length_map, ql_length]
 have hix := fun x y => effIxT (x := x) (y := y) f ha
 have c2 := fown_ok (IsQ.of (hf a ha)) (by omega) hL1
 rw [woX_two n ha]
 generalize f a = m at *
 unfold rV rR at c2 hix ⊢
 show PCall Tryz.prog _ [_, _] _ _
 refine PCall.of_ax Tryz.call33 Tryz.func33 rfl (by simp [Tryz.ntmps33]) fun O w0 => ?_
 simp only [Tryz.ntmps33, Tryz.results33, argFr]
 generalize (ql n f).map _ = X at *
 refine AX.sR (rgAV [0, 1, 3]) ?_
 refine AX.sR (rgEV [3] oT (aI c2 oT) (aI hix oT)) ?_
 refine AX.ret ⟨.inl rfl, ?_⟩
 exact Done.cell rfl rfl
abbrev wSum : Nat := 0
abbrev wMost : Nat := 1
set_option maxHeartbeats 4000000 in
theorem fSum_some (t : Nat → Nat) (q : Nat → Rat) (ht : okT t) (L : Nat) (hL1 : 1 ≤ L) (hL : L ≤ 2 ^ 26) (hq : ∀ k, k < szT t → rL (q k) ≤ L) (v : Nat) (hv : v < 64) (h0 : t v ≠ 0) : PCall Tryz.prog 6 [FV t q, .i .i64 v] (.tup [FV (updT t v 0) (woQ t q v wSum 0), .i .i64 0]) [] := by
 have c1 := fless_some 0 25 t q ht (fun k hk => Nat.le_trans (hq k hk) (by omega)) v hv h0 (woQ t q v wSum 0) (fun n hn => hopSum (t v) _ (Nat.pos_of_ne_zero h0) (ht.1 v) L hL1 hL fun k hk => hq _ (enT_lt (inT_upd hk)))
 unfold FV fV at *
 generalize zl (ci (vsT t)) = V1 at *
 generalize zl (ci (asT t)) = V2 at *
 generalize (xsT t q).map fR = V3 at *
 generalize zl (ci (vsT (updT t v 0))) = V4 at *
 generalize zl (ci (asT (updT t v 0))) = V5 at *
 generalize (xsT (updT t v 0) _).map fR = V6 at *
 refine PCall.of_ax Tryz.call6 Tryz.func6 rfl (by simp [Tryz.ntmps6]) fun O w0 => ?_
 simp only [Tryz.ntmps6, Tryz.results6, argFr]
 refine AX.sR (rgAV [1, 2, 4]) ?_
 refine AX.sR (rgCV [4, 5] (aI c1 oT)) ?_
 refine AX.ret ⟨.inl rfl, ?_⟩
 exact dnQ5
set_option maxHeartbeats 4000000 in
theorem fSum_none (t : Nat → Nat) (q : Nat → Rat) (ht : okT t) (hq : ∀ k, k < szT t → rL (q k) ≤ 2 ^ 30) (v : Int) (hv : -9223372036854775808 ≤ v ∧ v ≤ 9223372036854775807) (h0 : tz t v = 0) : PCall Tryz.prog 6 [FV t q, .i .i64 v] (.tup [FV t q, .i .i64 0]) [] := by
 have c1 := fless_none 0 25 t q ht hq v hv h0
 unfold FV fV at *
 generalize zl (ci (vsT t)) = V1 at *
 generalize zl (ci (asT t)) = V2 at *
 generalize (xsT t q).map fR = V3 at *
 refine PCall.of_ax Tryz.call6 Tryz.func6 rfl (by simp [Tryz.ntmps6]) fun O w0 => ?_
 simp only [Tryz.ntmps6, Tryz.results6, argFr]
 refine AX.sR (rgAV [1, 2, 4]) ?_
 refine AX.sR (rgCV [4, 5] (aI c1 oT)) ?_
 refine AX.ret ⟨.inl rfl, ?_⟩
 exact dnQ5
set_option maxHeartbeats 4000000 in
theorem fSum_not (vs ws : List Int) (xs : List RT) (hv : vs.length < 2 ^ 40) (ha : ws.length < 2 ^ 40) (hl : xs.length < 2 ^ 40) (hx : okX xs) (h : isF vs ws xs = false) (v : Int) : PCall Tryz.prog 6 [fV vs ws xs, .i .i64 v] (.tup [fV [] [] [], .i .i64 1]) [] := by
 have c1 := fless_not 0 25 vs ws xs hv ha hl hx h v
 unfold fV at *
 generalize zl vs = V1 at *
 generalize zl ws = V2 at *
 generalize xs.map fR = V3 at *
 refine PCall.of_ax Tryz.call6 Tryz.func6 rfl (by simp [Tryz.ntmps6]) fun O w0 => ?_
 simp only [Tryz.ntmps6, Tryz.results6, argFr]
 refine AX.sR (rgAV [1, 2, 4]) ?_
 refine AX.sR (rgCV [4, 5] (aI c1 oT)) ?_
 refine AX.ret ⟨.inl rfl, ?_⟩
 exact dnQ5
set_option maxHeartbeats 4000000 in
theorem fMost_some (t : Nat → Nat) (q : Nat → Rat) (ht : okT t) (L : Nat) (hL1 : 1 ≤ L) (hL : L ≤ 2 ^ 26) (hq : ∀ k, k < szT t → rL (q k) ≤ L) (v : Nat) (hv : v < 64) (h0 : t v ≠ 0) : PCall Tryz.prog 8 [FV t q, .i .i64 v] (.tup [FV (updT t v 0) (woQ t q v wMost 0), .i .i64 0]) [] := by
 have c1 := fless_some 0 27 t q ht (fun k hk => Nat.le_trans (hq k hk) (by omega)) v hv h0 (woQ t q v wMost 0) (fun n hn => hopMost (t v) _ (Nat.pos_of_ne_zero h0) (ht.1 v) L hL1 hL fun k hk => hq _ (enT_lt (inT_upd hk)))
 unfold FV fV at *
 generalize zl (ci (vsT t)) = V1 at *
 generalize zl (ci (asT t)) = V2 at *
 generalize (xsT t q).map fR = V3 at *
 generalize zl (ci (vsT (updT t v 0))) = V4 at *
 generalize zl (ci (asT (updT t v 0))) = V5 at *
 generalize (xsT (updT t v 0) _).map fR = V6 at *
 refine PCall.of_ax Tryz.call8 Tryz.func8 rfl (by simp [Tryz.ntmps8]) fun O w0 => ?_
 simp only [Tryz.ntmps8, Tryz.results8, argFr]
 refine AX.sR (rgAV [1, 2, 4]) ?_
 refine AX.sR (rgCV [4, 5] (aI c1 oT)) ?_
 refine AX.ret ⟨.inl rfl, ?_⟩
 exact dnQ5
set_option maxHeartbeats 4000000 in
theorem fMost_none (t : Nat → Nat) (q : Nat → Rat) (ht : okT t) (hq : ∀ k, k < szT t → rL (q k) ≤ 2 ^ 30) (v : Int) (hv : -9223372036854775808 ≤ v ∧ v ≤ 9223372036854775807) (h0 : tz t v = 0) : PCall Tryz.prog 8 [FV t q, .i .i64 v] (.tup [FV t q, .i .i64 0]) [] := by
 have c1 := fless_none 0 27 t q ht hq v hv h0
 unfold FV fV at *
 generalize zl (ci (vsT t)) = V1 at *
 generalize zl (ci (asT t)) = V2 at *
 generalize (xsT t q).map fR = V3 at *
 refine PCall.of_ax Tryz.call8 Tryz.func8 rfl (by simp [Tryz.ntmps8]) fun O w0 => ?_
 simp only [Tryz.ntmps8, Tryz.results8, argFr]
 refine AX.sR (rgAV [1, 2, 4]) ?_
 refine AX.sR (rgCV [4, 5] (aI c1 oT)) ?_
 refine AX.ret ⟨.inl rfl, ?_⟩
 exact dnQ5
set_option maxHeartbeats 4000000 in
theorem fMost_not (vs ws : List Int) (xs : List RT) (hv : vs.length < 2 ^ 40) (ha : ws.length < 2 ^ 40) (hl : xs.length < 2 ^ 40) (hx : okX xs) (h : isF vs ws xs = false) (v : Int) : PCall Tryz.prog 8 [fV vs ws xs, .i .i64 v] (.tup [fV [] [] [], .i .i64 1]) [] := by
 have c1 := fless_not 0 27 vs ws xs hv ha hl hx h v
 unfold fV at *
 generalize zl vs = V1 at *
 generalize zl ws = V2 at *
 generalize xs.map fR = V3 at *
 refine PCall.of_ax Tryz.call8 Tryz.func8 rfl (by simp [Tryz.ntmps8]) fun O w0 => ?_
 simp only [Tryz.ntmps8, Tryz.results8, argFr]
 refine AX.sR (rgAV [1, 2, 4]) ?_
 refine AX.sR (rgCV [4, 5] (aI c1 oT)) ?_
 refine AX.ret ⟨.inl rfl, ?_⟩
 exact dnQ5
end Go.Proofs.YtogpimmcodaljaaGreat
