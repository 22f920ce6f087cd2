/- Factors: the reference's without, where it has the variable. -/
import Derived.Test.YtogpimmcodaljaaGreatFaG
set_option linter.unusedVariables false
set_option maxRecDepth 20000
set_option linter.unusedSimpArgs false
namespace Go.Proofs.YtogpimmcodaljaaGreat
open Go Go.Proofs.YtogpimmcodaljaaGreat.Lift
attribute [local irreducible] Lift.PCall Lift.HCall
set_option maxHeartbeats 32000000 in
theorem fwo_some (t : Nat → Nat) (q : Nat → Rat) (ht : okT t) (L : Nat) (hq : ∀ k, k < szT t → rL (q k) ≤ L) (hL : 64 * (L + 1) + 1 ≤ 2 ^ 29) (v : Nat) (hv : v < 64) (h0 : t v ≠ 0) (what : Nat) (hw : what ≤ 2) (arm : Int) (harm : -9223372036854775808 ≤ arm ∧ arm ≤ 9223372036854775807) :
  PCall Tryz.prog 26 [FV t q, .i .i64 v, .i .i64 what, .i .i64 arm] (.tup [FV (updT t v 0) (woQ t q v what arm), .i .i64 0]) [] := by
 have hm := vsT_len t
 have hm' := vsT_len (updT t v 0)
 have hk64 := ht.1 v
 have cr := fright26_ok (ci (vsT t)) (ci (asT t)) (xsT t q) (by rw [ci_length]; omega) (by rw [ci_length, asT_len]; omega) (by rw [xsT_length]; have := ht.2; omega) (xsT_okY fun k hk => by have := hq k hk; omega).x
 rw [isF_T ht q] at cr
 have ca := fun X => farms_ok t X ht.1 v (by omega)
 have etz : tz t v = t v := by
  unfold tz
  rw [if_pos ⟨by omega, by omega⟩, Int.toNat_natCast]
 rw [etz] at ca
 have ctb := fun X => ftable_ok t X ht.1
 have ht' := okT_del ht v
 have cov := fover_ok (updT t v 0) ht'.1
 have ccl := fcells_ok (ci (asT (updT t v 0))) (by rw [ci_length, asT_len]; omega) (fun j hj => by
  rw [ci_length, asT_len] at hj
  have := (okV_T ht'.1 hj).2.2.2
  exact this)
 have ece : ceZ (ci (asT (updT t v 0))) = szT (updT t v 0) := by
  unfold ceZ
  rw [prZ_sz, if_pos ht'.2]
 rw [ece] at ccl
 have cpl := fun (i : Nat) (hi : i ≤ 4096) => fplace26_ok (updT t v 0) ht'.1 i hi
 have cat := fun (n k : Nat) (hk : k < t v) => fat26_g t q ht (updT (deT (updT t v 0) n) v k) (inT_upd hk)
 have hset : (tb t).set v (.i .i64 0) = tb (updT t v 0) := tb_set t 0 hv
 have eupd : ∀ (n k k' : Nat), updT (updT (deT (updT t v 0) n) v k') v k = updT (deT (updT t v 0) n) v k := fun n k k' => by
  funext u
  by_cases e : u = v
  ·rw [e, updT_same, updT_same]
  ·rw [updT_ne _ _ e, updT_ne _ _ e, updT_ne _ _ e]
 have hfl : ∀ n k, k < t v → rL (q (enT t (updT (deT (updT t v 0) n) v k))) ≤ L := fun n k hk => hq _ (enT_lt (inT_upd hk))
 have hxl : ∀ n k, k ≤ t v → rL (woX what arm (fun k => q (enT t (updT (deT (updT t v 0) n) v k))) k) ≤ 2 ^ 29 := fun n k hk => by
  have h1 := woX_len (what := what) (arm := arm) (f := fun k => q (enT t (updT (deT (updT t v 0) n) v k))) (m := t v) (fun k hk => hfl n k hk) k hk
  have h2 : k * (L + 1) ≤ 64 * (L + 1) := Nat.mul_le_mul_right _ (by omega)
  omega
 have hsz := ht'.2
 obtain ⟨S, hS⟩ : ∃ S, szT (updT t v 0) = S := ⟨_, rfl⟩
 have hres : FV (updT t v 0) (woQ t q v what arm) = .agg [.sl (zl (ci (vsT (updT t v 0)))), .sl (zl (ci (asT (updT t v 0)))), .sl ((ql S (woQ t q v what arm)).map rV)] := by
  unfold FV fV
  rw [xsT_map, hS]
 rw [hres]
 rw [hS] at ccl hsz
 have hwo : ∀ n, woQ t q v what arm n = woX what arm (fun k => q (enT t (updT (deT (updT t v 0) n) v k))) (t v) := fun n => rfl
 generalize woQ t q v what arm = W at *
 have hWl : ∀ n, rL (W n) ≤ 2 ^ 29 := fun n => by rw [hwo n]; exact hxl n (t v) (Nat.le_refl _)
 have hS0 := szT_pos (updT t v 0)
 rw [hS] at hS0
 have hL2 : L ≤ 2 ^ 29 := by omega
 clear hres hm' ht' hq hL
 unfold FV fV at *
 rw [xsT_map] at *
 generalize zl (ci (vsT t)) = Vs at *
 generalize zl (ci (asT t)) = As at *
 generalize (ql (szT t) q).map rV = X at *
 generalize zl (ci (vsT (updT t v 0))) = V1 at *
 generalize zl (ci (asT (updT t v 0))) = V2 at *
 have ca := ca X
 have ctb := ctb X
 obtain ⟨k, hk⟩ : ∃ k, t v = k := ⟨_, rfl⟩
 rw [hk] at hk64 h0 ca hxl hwo cat hfl
 have hlt := tb_length t
 have hlt' := tb_length (updT t v 0)
 have htk := tb_take (updT t v 0)
 have hk0 : ¬ (k : Int) = 0 := by omega
 have h0' : k ≠ 0 := h0
 have hw3 : what = 0 ∨ what = 1 ∨ what = 2 := by omega
 refine PCall.of_ax Tryz.call26 Tryz.func26 rfl (by simp [Tryz.ntmps26]) fun O w0 => ?_
 simp only [Tryz.ntmps26, Tryz.results26, argFr]
 refine AX.sR (rgAV [1, 2, 3, 4, 8]) ?_
 refine AX.seq ?_
 refine AX.sR (rgCV [1, 2, 3, 4, 8, 20] (aI cr oT)) ?_
 refine AX.condF ?_
 refine AX.keepA [1, 2, 3, 4, 8] ?_
 refine AX.skip ?_
 refine nmZ ?_
 refine AX.sR (rgCV [1, 2, 3, 4, 8, 10] (aI ca oT)) ?_
 refine AX.seq ?_
 refine AX.sR (rgWV [1, 2, 3, 4, 8, 10, 26] (aI @hk0 oT) oT) ?_
 refine AX.condF ?_
 refine AX.keepA [1, 2, 3, 4, 8, 10] ?_
 refine AX.skip ?_
 refine nmZ ?_
 refine AX.sR (rgWV [1, 2, 3, 4, 8, 10, 11] (aI @ren_tb (aI @tb_length (aI @tb_flat (aI @tb_setR oT)))) (aI ctb oT)) ?_
 refine AX.sR (rgWV [1, 2, 3, 4, 8, 10, 11] (aI @hlt oT) oT) ?_
 rw [hset]
 refine AX.sR (rgWV [1, 2, 3, 4, 8, 10, 12] (aI @hlt' (aI @htk oT)) (aI cov oT)) ?_
 refine AX.seq ?_
 refine AX.sR (rgAV [1, 2, 3, 4, 8, 10, 12, 13]) ?_
 refine AX.weaken id (st' := ⟨[(13, .i .i64 (0 : Nat)), (12, .ptr 4 0), (10, .i .i64 k), (8, .ptr 1 0), (4, .ptr 0 0), (3, .i .i64 arm), (2, .i .i64 what), (1, .i .i64 v)], [(4, ⟨30, [.sl V1, .sl V2, .own 3 0 (0 : Nat) 3]⟩), (3, ⟨38, qrow (ql 0 W)⟩), (1, ⟨30, [.nl, .nl, .nl]⟩), (0, ⟨30, [.sl Vs, .sl As, .sl X]⟩)], 5⟩)
  ⟨by simp only [ren_q, renL_u, ren_zl, ren_tb, lt_q, ltL_u, lt_zl, lt_tb, LeFr, LeHp, lkp, V.ren, V.renL, Row.ren, V.lt, V.ltL, renL_u, ltL_u, List.length_append, List.length_cons, List.length_nil, List.length_set, id_eq, Option.some.injEq, V.i.injEq, V.b.injEq, V.own.injEq, Row.mk.injEq, decide_true, decide_eq_true_eq, true_and, and_true, Bool.and_true, Bool.true_and, if_true, if_false, and_self, Nat.reduceLT, Nat.reduceLeDiff, Nat.reduceEqDiff, Nat.reduceAdd, Nat.reduceSub, Nat.reduceMul, Nat.reducePow, Nat.reduceBEq, Int.reduceLE, Int.reduceLT, Int.reduceToNat, Int.reduceEq, Int.reduceNeg, reduceIte, reduceCtorEq] <;> (first | done | trivial | (and_intros <;> first | trivial | omega | (rfl))), by simp only [ren_q, renL_u, ren_zl, ren_tb, lt_q, ltL_u, lt_zl, lt_tb, LeFr, LeHp, lkp, V.ren, V.renL, Row.ren, V.lt, V.ltL, renL_u, ltL_u, List.length_append, List.length_cons, List.length_nil, List.length_set, id_eq, Option.some.injEq, V.i.injEq, V.b.injEq, V.own.injEq, Row.mk.injEq, decide_true, decide_eq_true_eq, true_and, and_true, Bool.and_true, Bool.true_and, if_true, if_false, and_self, Nat.reduceLT, Nat.reduceLeDiff, Nat.reduceEqDiff, Nat.reduceAdd, Nat.reduceSub, Nat.reduceMul, Nat.reducePow, Nat.reduceBEq, Int.reduceLE, Int.reduceLT, Int.reduceToNat, Int.reduceEq, Int.reduceNeg, reduceIte, reduceCtorEq] <;> (first | done | trivial | (and_intros <;> first | trivial | omega | (rfl))), by simp [Apart], by first | exact Nat.zero_le _ | simp, by intro n hn; first | rfl | exact absurd hn (Nat.not_lt_zero _) | (have h0 : n = 0 := Nat.lt_one_iff.1 hn; subst h0; rfl)⟩
  ?_
 refine AX.block ?_
 refine AX.loop (fun N st => ∃ (i : Nat) (xs : List Rat), i ≤ S ∧ N = S - i ∧ xs = ql i W ∧ st = ⟨[(13, .i .i64 i), (12, .ptr 4 0), (10, .i .i64 k), (8, .ptr 1 0), (4, .ptr 0 0), (3, .i .i64 arm), (2, .i .i64 what), (1, .i .i64 v)], [(4, ⟨30, [.sl V1, .sl V2, .own 3 0 i 3]⟩), (3, ⟨38, qrow xs⟩), (1, ⟨30, [.nl, .nl, .nl]⟩), (0, ⟨30, [.sl Vs, .sl As, .sl X]⟩)], 5⟩) S ⟨0, _, Nat.zero_le _, rfl, rfl, rfl⟩ ?_
 rintro N st ⟨i, xs, hi, rfl, hxs, rfl⟩
 refine AX.seq ?_
 by_cases h1 : i < S
 ·have cpi := cpl i (by omega)
  obtain ⟨D, hD⟩ : ∃ D, deT (updT t v 0) i = D := ⟨_, rfl⟩
  have cai := cat i
  have hfi := hfl i
  have hxi := hxl i
  have hwi := hwo i
  have eui := eupd i
  rw [hD] at cpi
  simp only [hD] at cai hfi hxi hwi eui
  clear hD cat hfl hxl hwo eupd cr ca ctb cov cpl
  refine AX.sR (rgCV [1, 2, 3, 4, 8, 10, 12, 13, 38] (aI ccl oT)) ?_
  refine AX.condT ?_
  refine AX.keepA [1, 2, 3, 4, 8, 10, 12, 13] ?_
  refine AX.skip ?_
  refine nmZ ?_
  refine AX.seq ?_
  refine AX.block ?_
  apply AX.sreg [1, 2, 3, 4, 8, 10, 12, 13, 14] (by simp only [pq]; rfl)
  ·repeat (first
  |(apply RunO.op rfl; · rfl
    ·(simp only [opsOf, valsOf, valOf, lkp, ofConst, ofCell, Array.toList, Option.toList, List.map_cons, List.map_nil, List.cons_append, List.nil_append, List.append_nil, Nat.reduceEqDiff, Nat.reducePow, Nat.reduceLT, Nat.reduceLeDiff, reduceIte, if_true, if_false, IntKind.min, IntKind.max, IntKind.bits, IntKind.signed, Int.reduceLE, Int.reduceNeg, Int.reducePow, Int.reduceSub, and_self, Bool.false_eq_true, Nat.reduceSub]; rfl)
    iterate 2 (· (simp (disch := omega) only [go_sem, i64_of, u32_of, u64_of, Nat.reduceLT, Nat.reduceLeDiff, Nat.reduceEqDiff, Nat.reduceAdd, Nat.reduceSub, Nat.reduceMul, Nat.reducePow, Nat.reduceBEq, Int.reduceLE, Int.reduceLT, Int.reduceToNat, Int.reduceEq, Int.reduceNeg, reduceIte, reduceCtorEq, ren_tb]; rfl))
    ·(simp only [pb, Nat.reduceLT, Nat.reduceAdd, reduceIte]; rfl))
  |(apply RunO.callJ 41 (.agg [.sl V1, .sl V2, .junk]) jk3 rfl rfl; · rfl
    ·(simp only [opsOf, valsOf, valOf, lkp, ofConst, ofCell, Array.toList, Option.toList, List.map_cons, List.map_nil, List.cons_append, List.nil_append, List.append_nil, Nat.reduceEqDiff, Nat.reducePow, Nat.reduceLT, Nat.reduceLeDiff, reduceIte, if_true, if_false, IntKind.min, IntKind.max, IntKind.bits, IntKind.signed, Int.reduceLE, Int.reduceNeg, Int.reducePow, Int.reduceSub, and_self, Bool.false_eq_true, Nat.reduceSub]; rfl)
    ·(simp (disch := omega) only [go_sem, i64_of, u32_of, u64_of, Nat.reduceLT, Nat.reduceLeDiff, Nat.reduceEqDiff, Nat.reduceAdd, Nat.reduceSub, Nat.reduceMul, Nat.reducePow, Nat.reduceBEq, Int.reduceLE, Int.reduceLT, Int.reduceToNat, Int.reduceEq, Int.reduceNeg, reduceIte, reduceCtorEq, ren_tb]; rfl)
    ·rfl
    ·exact cpi
    ·(simp (disch := omega) only [go_sem, i64_of, u32_of, u64_of, Nat.reduceLT, Nat.reduceLeDiff, Nat.reduceEqDiff, Nat.reduceAdd, Nat.reduceSub, Nat.reduceMul, Nat.reducePow, Nat.reduceBEq, Int.reduceLE, Int.reduceLT, Int.reduceToNat, Int.reduceEq, Int.reduceNeg, reduceIte, reduceCtorEq, ren_tb]; rfl)
    ·(simp only [pb, Nat.reduceLT, Nat.reduceAdd, reduceIte]; rfl))
  |(apply RunO.skip; · rfl
    ·(simp only [pb, Nat.reduceLT, Nat.reduceAdd, reduceIte]; rfl)))
   exact RunO.nil
  ·repeat (first | exact Keep.nil | (apply Keep.take; · rfl) | (apply Keep.drop; · rfl))
  refine AX.sR (rgAV [1, 2, 3, 4, 8, 10, 12, 13, 14, 15]) ?_
  refine AX.cut (fun st => Le 0 id ⟨[(15, .ptr 6 0), (13, .i .i64 i), (12, .ptr 4 0), (10, .i .i64 k), (8, .ptr 1 0), (4, .ptr 0 0), (3, .i .i64 arm), (2, .i .i64 what), (1, .i .i64 v)], [(6, ⟨38, [.b (decide ((W i).num < 0)), dg (digits (W i).num.natAbs), dg (digits (W i).den)]⟩), (4, ⟨30, [.sl V1, .sl V2, .own 3 0 i 3]⟩), (3, ⟨38, qrow xs⟩), (1, ⟨30, [.nl, .nl, .nl]⟩), (0, ⟨30, [.sl Vs, .sl As, .sl X]⟩)], 7⟩ st) ?_ ?_
  ·refine AX.sR (rgAV [1, 2, 3, 4, 8, 10, 12, 13, 14, 15, 16]) ?_
   refine AX.weaken id (st' := ⟨[(16, .i .i64 (0 : Nat)), (15, .ptr 6 0), (14, .own 5 0 64 1), (13, .i .i64 i), (12, .ptr 4 0), (10, .i .i64 k), (8, .ptr 1 0), (4, .ptr 0 0), (3, .i .i64 arm), (2, .i .i64 what), (1, .i .i64 v)], [(6, ⟨38, [.b false, .nl, .nl]⟩), (5, ⟨3, tb D⟩), (4, ⟨30, [.sl V1, .sl V2, .own 3 0 i 3]⟩), (3, ⟨38, qrow xs⟩), (1, ⟨30, [.nl, .nl, .nl]⟩), (0, ⟨30, [.sl Vs, .sl As, .sl X]⟩)], 7⟩)
    ⟨by simp only [ren_q, renL_u, ren_zl, ren_tb, lt_q, ltL_u, lt_zl, lt_tb, LeFr, LeHp, lkp, V.ren, V.renL, Row.ren, V.lt, V.ltL, renL_u, ltL_u, List.length_append, List.length_cons, List.length_nil, List.length_set, id_eq, Option.some.injEq, V.i.injEq, V.b.injEq, V.own.injEq, Row.mk.injEq, decide_true, decide_eq_true_eq, true_and, and_true, Bool.and_true, Bool.true_and, if_true, if_false, and_self, Nat.reduceLT, Nat.reduceLeDiff, Nat.reduceEqDiff, Nat.reduceAdd, Nat.reduceSub, Nat.reduceMul, Nat.reducePow, Nat.reduceBEq, Int.reduceLE, Int.reduceLT, Int.reduceToNat, Int.reduceEq, Int.reduceNeg, reduceIte, reduceCtorEq] <;> (first | done | trivial | (and_intros <;> first | trivial | omega | (rfl))), by simp only [ren_q, renL_u, ren_zl, ren_tb, lt_q, ltL_u, lt_zl, lt_tb, LeFr, LeHp, lkp, V.ren, V.renL, Row.ren, V.lt, V.ltL, renL_u, ltL_u, List.length_append, List.length_cons, List.length_nil, List.length_set, id_eq, Option.some.injEq, V.i.injEq, V.b.injEq, V.own.injEq, Row.mk.injEq, decide_true, decide_eq_true_eq, true_and, and_true, Bool.and_true, Bool.true_and, if_true, if_false, and_self, Nat.reduceLT, Nat.reduceLeDiff, Nat.reduceEqDiff, Nat.reduceAdd, Nat.reduceSub, Nat.reduceMul, Nat.reducePow, Nat.reduceBEq, Int.reduceLE, Int.reduceLT, Int.reduceToNat, Int.reduceEq, Int.reduceNeg, reduceIte, reduceCtorEq] <;> (first | done | trivial | (and_intros <;> first | trivial | omega | (rfl))), by simp [Apart], by first | exact Nat.zero_le _ | simp, by intro n hn; first | rfl | exact absurd hn (Nat.not_lt_zero _) | (have h0 : n = 0 := Nat.lt_one_iff.1 hn; subst h0; rfl)⟩
    ?_
   refine AX.block ?_
   refine AX.loop (fun N st => ∃ (j : Nat) (G : Nat → Nat) (Xc : List V), j ≤ k ∧ N = k - j ∧ (∀ k', updT G v k' = updT D v k') ∧ Xc = xcV what arm (fun k => q (enT t (updT D v k))) j ∧ st = ⟨[(16, .i .i64 j), (15, .ptr 6 0), (14, .own 5 0 64 1), (13, .i .i64 i), (12, .ptr 4 0), (10, .i .i64 k), (8, .ptr 1 0), (4, .ptr 0 0), (3, .i .i64 arm), (2, .i .i64 what), (1, .i .i64 v)], [(6, ⟨38, Xc⟩), (5, ⟨3, tb G⟩), (4, ⟨30, [.sl V1, .sl V2, .own 3 0 i 3]⟩), (3, ⟨38, qrow xs⟩), (1, ⟨30, [.nl, .nl, .nl]⟩), (0, ⟨30, [.sl Vs, .sl As, .sl X]⟩)], 7⟩) k ⟨0, D, _, Nat.zero_le _, rfl, fun _ => rfl, rfl, rfl⟩ ?_
   rintro N st ⟨j, G, Xc, hj, rfl, hG, hXc, rfl⟩
   refine AX.seq ?_
   by_cases h2 : j < k
   ·have hset4 := tb_set G j hv
    rw [hG j] at hset4
    have hG' : ∀ k', updT (updT D v j) v k' = updT D v k' := fun k' => eui k' j
    have c1 := cai j h2
    have hlG := tb_length G
    have hlG' := tb_length (updT D v j)
    have ly := hfi j h2
    have lx := hxi j hj
    have n1 : (j = 0 ∨ what = 2 ∧ (j : Int) = arm) → woX what arm (fun k => q (enT t (updT D v k))) (j + 1) = q (enT t (updT D v j)) := fun h => if_pos h
    have n2 : ¬ (j = 0 ∨ what = 2 ∧ (j : Int) = arm) → what = 0 → woX what arm (fun k => q (enT t (updT D v k))) (j + 1) = woX what arm (fun k => q (enT t (updT D v k))) j + q (enT t (updT D v j)) := fun h h' => (if_neg h).trans (if_pos h')
    have n3 : ¬ (j = 0 ∨ what = 2 ∧ (j : Int) = arm) → what ≠ 0 → (what = 1 ∧ woX what arm (fun k => q (enT t (updT D v k))) j < q (enT t (updT D v j))) → woX what arm (fun k => q (enT t (updT D v k))) (j + 1) = q (enT t (updT D v j)) := fun h h' h3 => (if_neg h).trans ((if_neg h').trans (if_pos h3))
    have n4 : ¬ (j = 0 ∨ what = 2 ∧ (j : Int) = arm) → what ≠ 0 → ¬ (what = 1 ∧ woX what arm (fun k => q (enT t (updT D v k))) j < q (enT t (updT D v j))) → woX what arm (fun k => q (enT t (updT D v k))) (j + 1) = woX what arm (fun k => q (enT t (updT D v k))) j := fun h h' h3 => (if_neg h).trans ((if_neg h').trans (if_neg h3))
    have hx1 := xcV_pos (what := what) (arm := arm) (f := fun k => q (enT t (updT D v k))) (Nat.succ_ne_zero j)
    have hx0 : j ≠ 0 → Xc = [.b (decide ((woX what arm (fun k => q (enT t (updT D v k))) j).num < 0)), dg (digits (woX what arm (fun k => q (enT t (updT D v k))) j).num.natAbs), dg (digits (woX what arm (fun k => q (enT t (updT D v k))) j).den)] := fun h => hXc.trans (xcV_pos h)
    have hx00 : j = 0 → Xc = [.b false, .nl, .nl] := fun h => hXc.trans (if_pos h)
    obtain ⟨w1, hw1⟩ : ∃ w, woX what arm (fun k => q (enT t (updT D v k))) (j + 1) = w := ⟨_, rfl⟩
    rw [hw1] at n1 n2 n3 n4
    have hx1 : xcV what arm (fun k => q (enT t (updT D v k))) (j + 1) = [.b (decide ((w1).num < 0)), dg (digits (w1).num.natAbs), dg (digits (w1).den)] := by rw [← hw1]; exact hx1
    clear hw1 hXc cai hfi hxi hwi eui hG
    generalize woX what arm (fun k => q (enT t (updT D v k))) j = w at *
    generalize q (enT t (updT D v j)) = y at *
    obtain ⟨G2, hG2⟩ : ∃ G2, updT D v j = G2 := ⟨_, rfl⟩
    rw [hG2] at hset4 hG' c1 hlG'
    have cad : PCall Tryz.prog 57 [.agg [.b (decide ((w).num < 0)), dg (digits (w).num.natAbs), dg (digits (w).den)], .agg [.b (decide ((y).num < 0)), dg (digits (y).num.natAbs), dg (digits (y).den)]] (.agg [.b (decide ((w + y).num < 0)), dg (digits (w + y).num.natAbs), dg (digits (w + y).den)]) [] := padd_ok (L := 2 ^ 29) (IsQ.of lx) (IsQ.of (by omega)) (by decide) (by decide)
    have ccm : PCall Tryz.prog 40 [.agg [.b (decide ((y).num < 0)), dg (digits (y).num.natAbs), dg (digits (y).den)], .agg [.b (decide ((w).num < 0)), dg (digits (w).num.natAbs), dg (digits (w).den)]] (.i .i64 (cmpR y w)) [] := pcmp_ok (L := 2 ^ 29) (IsQ.of (by omega)) (IsQ.of lx) (by decide) (by decide)
    refine AX.sR (rgAV [1, 2, 3, 4, 8, 10, 12, 13, 14, 15, 16, 46]) ?_
    refine AX.condT ?_
    refine AX.keepA [1, 2, 3, 4, 8, 10, 12, 13, 14, 15, 16] ?_
    refine AX.skip ?_
    refine nmZ ?_
    refine AX.seq ?_
    refine AX.block ?_
    refine AX.sR (rgWV [1, 2, 3, 4, 8, 10, 12, 13, 14, 15, 16] (aI @hlG oT) oT) ?_
    rw [hset4]
    apply AX.sreg [1, 2, 3, 4, 8, 10, 12, 13, 14, 15, 16, 17] (by simp only [pq]; rfl)
    ·repeat (first
    |(apply RunO.op rfl; · rfl
      ·(simp only [opsOf, valsOf, valOf, lkp, ofConst, ofCell, Array.toList, Option.toList, List.map_cons, List.map_nil, List.cons_append, List.nil_append, List.append_nil, Nat.reduceEqDiff, Nat.reducePow, Nat.reduceLT, Nat.reduceLeDiff, reduceIte, if_true, if_false, IntKind.min, IntKind.max, IntKind.bits, IntKind.signed, Int.reduceLE, Int.reduceNeg, Int.reducePow, Int.reduceSub, and_self, Bool.false_eq_true, Nat.reduceSub]; rfl)
      iterate 2 (· (simp (disch := omega) only [go_sem, i64_of, u32_of, u64_of, Nat.reduceLT, Nat.reduceLeDiff, Nat.reduceEqDiff, Nat.reduceAdd, Nat.reduceSub, Nat.reduceMul, Nat.reducePow, Nat.reduceBEq, Int.reduceLE, Int.reduceLT, Int.reduceToNat, Int.reduceEq, Int.reduceNeg, reduceIte, reduceCtorEq]; rfl))
      ·(simp only [pb, Nat.reduceLT, Nat.reduceAdd, reduceIte]; rfl))
    |(apply RunO.gcall [5] rfl; · rfl
      ·(simp only [opsOf, valsOf, valOf, lkp, ofConst, ofCell, Array.toList, Option.toList, List.map_cons, List.map_nil, List.cons_append, List.nil_append, List.append_nil, Nat.reduceEqDiff, Nat.reducePow, Nat.reduceLT, Nat.reduceLeDiff, reduceIte, if_true, if_false, IntKind.min, IntKind.max, IntKind.bits, IntKind.signed, Int.reduceLE, Int.reduceNeg, Int.reducePow, Int.reduceSub, and_self, Bool.false_eq_true, Nat.reduceSub]; rfl)
      ·exact c1
      ·first | rfl | (simp only [Row.ren, V.ren, V.renL, renS, ren_q, renL_u, ren_zl, ren_tb]; rfl)
      ·first | rfl | (simp only [V.lt, V.ltL, ltS, lt_q, ltL_u, lt_zl, lt_tb]; rfl)
      ·decide
      ·repeat' (first | exact trivial | rfl | (simp only [Row.ren, V.ren, V.renL, renS, ren_q, renL_u, ren_zl, ren_tb]; done) | (simp only [Row.ren, V.ren, V.renL, renS, ren_q, renL_u, ren_zl, ren_tb]; rfl) | (simp only [V.lt, V.ltL, ltS, lt_q, ltL_u, lt_zl, lt_tb]; done) | apply And.intro)
      ·first | rfl | (simp only [Row.ren, V.ren, V.renL, renS, ren_q, renL_u, ren_zl, ren_tb]; rfl)
      ·(simp only [setRows, setL, Row.ren, V.ren, V.renL, renS, ren_q, renL_u, ren_zl, ren_tb, pb, Nat.reduceLT, Nat.reduceAdd, Nat.reduceEqDiff, reduceIte]; rfl))
    |(apply RunO.skip; · rfl
      ·(simp only [pb, Nat.reduceLT, Nat.reduceAdd, reduceIte]; rfl)))
     exact RunO.nil
    ·repeat (first | exact Keep.nil | (apply Keep.take; · rfl) | (apply Keep.drop; · rfl))
    refine AX.block ?_
    by_cases k1 : j = 0
    ·have ej : (j : Int) = 0 := by omega
     have e9 := n1 (.inl k1)
     obtain rfl := hx00 k1
     subst e9
     clear n1 n2 n3 n4 ly lx c1 hx0 hx00 cad ccm
     refine AX.sR (rgWV [1, 2, 3, 4, 8, 10, 12, 13, 14, 15, 16, 17, 56] (aI @ej oT) oT) ?_
     refine AX.condT ?_
     refine AX.rR (rgAV [1, 2, 3, 4, 8, 10, 12, 13, 14, 15, 16]) ?_
     refine nmZ ?_
     refine AX.rR (rgWV [1, 2, 3, 4, 8, 10, 12, 13, 14, 15, 16] (aI @lit_add oT) oT) ?_
     refine nmZ ?_
     refine ⟨_, _, id, ?_,
      leQ3
      , ⟨j + 1, _, _, by omega, rfl, hG', hx1.symm, rfl⟩⟩
     omega
    ·have ej : ¬ (j : Int) = 0 := by omega
     obtain rfl := hx0 k1
     rcases hw3 with e | e | e
     ·have ew : (what : Int) = 0 := by omega
      have e9 := n2 (by omega) e
      rw [← e9] at cad
      clear e9
      clear n1 n2 n3 n4 ly lx c1 hx00 ccm
      refine AX.sR (rgWV [1, 2, 3, 4, 8, 10, 12, 13, 14, 15, 16, 17, 56] (aI @ej (aI @ew oT)) oT) ?_
      refine AX.condF ?_
      refine AX.sR (rgWV [1, 2, 3, 4, 8, 10, 12, 13, 14, 15, 16, 17, 69] (aI @ew oT) oT) ?_
      refine AX.condT ?_
      refine AX.rR (rgCV [1, 2, 3, 4, 8, 10, 12, 13, 14, 15, 16] (aI cad oT)) ?_
      refine nmZ ?_
      refine AX.rR (rgWV [1, 2, 3, 4, 8, 10, 12, 13, 14, 15, 16] (aI @lit_add oT) oT) ?_
      refine nmZ ?_
      refine ⟨_, _, id, ?_,
       leQ3
       , ⟨j + 1, _, _, by omega, rfl, hG', hx1.symm, rfl⟩⟩
      omega
     ·have ew : (what : Int) = 1 := by omega
      by_cases k2 : w < y
      ·have e9 := n3 (by omega) (by omega) ⟨e, k2⟩
       subst e9
       rw [cmpR_gt k2] at ccm
       clear n1 n2 n3 n4 ly lx c1 hx00 cad
       refine AX.sR (rgWV [1, 2, 3, 4, 8, 10, 12, 13, 14, 15, 16, 17, 56] (aI @ej (aI @ew oT)) oT) ?_
       refine AX.condF ?_
       refine AX.sR (rgWV [1, 2, 3, 4, 8, 10, 12, 13, 14, 15, 16, 17, 69] (aI @ew oT) oT) ?_
       refine AX.condF ?_
       refine AX.sR (rgWV [1, 2, 3, 4, 8, 10, 12, 13, 14, 15, 16, 17, 75] (aI @ew oT) (aI ccm oT)) ?_
       refine AX.condT ?_
       refine AX.rR (rgAV [1, 2, 3, 4, 8, 10, 12, 13, 14, 15, 16]) ?_
       refine nmZ ?_
       refine AX.rR (rgWV [1, 2, 3, 4, 8, 10, 12, 13, 14, 15, 16] (aI @lit_add oT) oT) ?_
       refine nmZ ?_
       refine ⟨_, _, id, ?_,
        leQ3
        , ⟨j + 1, _, _, by omega, rfl, hG', hx1.symm, rfl⟩⟩
       omega
      ·have e9 := n4 (by omega) (by omega) (fun h => k2 h.2)
       subst e9
       have hng : ¬ 0 < cmpR y w1 := cmpR_ngt k2
       clear n1 n2 n3 n4 ly lx c1 hx00 cad
       generalize cmpR y w1 = cg at *
       refine AX.sR (rgWV [1, 2, 3, 4, 8, 10, 12, 13, 14, 15, 16, 17, 56] (aI @ej (aI @ew oT)) oT) ?_
       refine AX.condF ?_
       refine AX.sR (rgWV [1, 2, 3, 4, 8, 10, 12, 13, 14, 15, 16, 17, 69] (aI @ew oT) oT) ?_
       refine AX.condF ?_
       refine AX.sR (rgWV [1, 2, 3, 4, 8, 10, 12, 13, 14, 15, 16, 17, 75] (aI @ew (aI @hng oT)) (aI ccm oT)) ?_
       refine AX.condF ?_
       refine AX.keepA [1, 2, 3, 4, 8, 10, 12, 13, 14, 15, 16] ?_
       refine AX.skip ?_
       refine nmZ ?_
       refine AX.rR (rgWV [1, 2, 3, 4, 8, 10, 12, 13, 14, 15, 16] (aI @lit_add oT) oT) ?_
       refine nmZ ?_
       refine ⟨_, _, id, ?_,
        leQ3
        , ⟨j + 1, _, _, by omega, rfl, hG', hx1.symm, rfl⟩⟩
       omega
     ·have ew : (what : Int) = 2 := by omega
      by_cases k2 : (j : Int) = arm
      ·have e9 := n1 (.inr ⟨e, k2⟩)
       subst e9
       clear n1 n2 n3 n4 ly lx c1 hx00 cad ccm
       refine AX.sR (rgWV [1, 2, 3, 4, 8, 10, 12, 13, 14, 15, 16, 17, 56] (aI @ej (aI @ew (aI @k2 oT))) oT) ?_
       refine AX.condT ?_
       refine AX.rR (rgAV [1, 2, 3, 4, 8, 10, 12, 13, 14, 15, 16]) ?_
       refine nmZ ?_
       refine AX.rR (rgWV [1, 2, 3, 4, 8, 10, 12, 13, 14, 15, 16] (aI @lit_add oT) oT) ?_
       refine nmZ ?_
       refine ⟨_, _, id, ?_,
        leQ3
        , ⟨j + 1, _, _, by omega, rfl, hG', hx1.symm, rfl⟩⟩
       omega
      ·have e9 := n4 (by omega) (by omega) (by omega)
       subst e9
       clear n1 n2 n3 n4 ly lx c1 hx00 cad ccm
       refine AX.sR (rgWV [1, 2, 3, 4, 8, 10, 12, 13, 14, 15, 16, 17, 56] (aI @ej (aI @ew (aI @k2 oT))) oT) ?_
       refine AX.condF ?_
       refine AX.sR (rgWV [1, 2, 3, 4, 8, 10, 12, 13, 14, 15, 16, 17, 69] (aI @ew oT) oT) ?_
       refine AX.condF ?_
       refine AX.sR (rgWV [1, 2, 3, 4, 8, 10, 12, 13, 14, 15, 16, 17, 75] (aI @ew oT) oT) ?_
       refine AX.condF ?_
       refine AX.keepA [1, 2, 3, 4, 8, 10, 12, 13, 14, 15, 16] ?_
       refine AX.skip ?_
       refine nmZ ?_
       refine AX.rR (rgWV [1, 2, 3, 4, 8, 10, 12, 13, 14, 15, 16] (aI @lit_add oT) oT) ?_
       refine nmZ ?_
       refine ⟨_, _, id, ?_,
        leQ3
        , ⟨j + 1, _, _, by omega, rfl, hG', hx1.symm, rfl⟩⟩
       omega
   ·obtain rfl : j = k := by omega
    have hx9 := hXc.trans (xcV_pos h0')
    rw [← hwi] at hx9
    subst hx9
    refine AX.sR (rgAV [1, 2, 3, 4, 8, 10, 12, 13, 14, 15, 16, 46]) ?_
    refine AX.condF ?_
    refine AX.exit ?_
    refine nmZ ?_
    exact ⟨by first | exact trivial | rfl,
     leQ3
     ⟩
  ·rintro st hle
   refine AX.weaken id hle ?_
   clear hle
   have hlq : (qrow xs).length = i * 3 := by rw [qrow_length, hxs, ql_length]
   have ea : qrow xs ++ [.b (decide ((W i).num < 0)), dg (digits (W i).num.natAbs), dg (digits (W i).den)] = qrow (ql (i + 1) W) := by rw [ql_succ, qrow_app, qrow_one, hxs]
   generalize W i = wi at *
   refine AX.rR (rgWV [1, 2, 3, 4, 8, 10, 12, 13] (aI @hlq (aI @flat_q (aI @zerosV_1 (aI @tkS (aI @tk0 oT))))) oT) ?_
   refine nmZ ?_
   rw [ea]
   refine AX.rR (rgWV [1, 2, 3, 4, 8, 10, 12, 13] (aI @lit_add oT) oT) ?_
   refine nmZ ?_
   refine ⟨_, _, fun n => if n = 3 then 8 else n, ?_,
    leQ3
    , ⟨i + 1, _, by omega, rfl, rfl, rfl⟩⟩
   omega
 ·obtain rfl : i = S := by omega
  subst hxs
  refine AX.sR (rgCV [1, 2, 3, 4, 8, 10, 12, 13, 38] (aI ccl oT)) ?_
  refine AX.condF ?_
  refine AX.exit ?_
  refine nmZ ?_
  refine AX.sR (rgAV [8, 9]) ?_
  refine AX.ret ⟨.inl rfl, ?_⟩
  exact Done.facS fa_lay_fac26 rfl rfl rfl rfl (ql_length _ _).symm
end Go.Proofs.YtogpimmcodaljaaGreat
