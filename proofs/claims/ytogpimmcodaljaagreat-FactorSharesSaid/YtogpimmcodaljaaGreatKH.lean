/- Factors: the cells of a product or sum; the cells without a variable. -/
import Derived.Test.YtogpimmcodaljaaGreatKG
set_option linter.unusedVariables false
set_option maxRecDepth 20000
set_option linter.unusedSimpArgs false
namespace Go.Proofs.YtogpimmcodaljaaGreat
open Go Go.Proofs.YtogpimmcodaljaaGreat.Lift
attribute [local irreducible] Lift.PCall Lift.HCall
set_option maxHeartbeats 8000000 in
theorem fboth1_g (tf tg : Nat → Nat) (qf qg : Nat → Rat) (hf : okT tf) (hg : okT tg) (G : Nat → Nat) (hGf : inT tf G) (hGg : inT tg G) (F : Nat) (r : Rat) (hop : PCall Tryz.prog F [rV (qf (enT tf G)), rV (qg (enT tg G))] (rV r) []) :
  GCall Tryz.prog 80 [.ptr 0 0, .rp [.fn F []], .rp [.sl (zl (ci (vsT tf))), .sl (zl (ci (asT tf))), .sl ((ql (szT tf) qf).map rV)], .rp [.sl (zl (ci (vsT tg))), .sl (zl (ci (asT tg))), .sl ((ql (szT tg) qg).map rV)]]
   [⟨76, tb G⟩] [⟨76, tb G⟩] (.agg [.b (decide (r.num < 0)), dg (digits r.num.natAbs), dg (digits r.den)]) := by
 have c1 := fat_g tf qf hf G hGf
 have c2 := fat_g tg qg hg G hGg
 refine GCall.of_ax rfl Tryz.call80 Tryz.func80 rfl (by simp [Tryz.ntmps80]) fun O M w0 E0 => ?_
 simp only [Tryz.ntmps80, Tryz.results80, argFr, rowsFr, List.length_cons, List.length_nil, Nat.zero_add, Nat.reduceAdd]
 generalize zl (ci (vsT tf)) = V1 at *
 generalize zl (ci (asT tf)) = A1 at *
 generalize (ql (szT tf) qf).map rV = X1 at *
 generalize zl (ci (vsT tg)) = V2 at *
 generalize zl (ci (asT tg)) = A2 at *
 generalize (ql (szT tg) qg).map rV = X2 at *
 generalize qf (enT tf G) = rf at *
 generalize qg (enT tg G) = rg at *
 refine AX.sR (rgAV [0, 1, 2, 3, 5]) ?_
 apply AX.sdreg [5] (by kernel_rfl) (by simp only [pq]; rfl)
 ·repeat (first
 |(apply RunD.op rfl; · rfl
   ·(simp only [opsOf, valsOf, valOf, lkp, ofConst, ofCell, Array.toList, Option.toList, List.map_cons, List.map_nil, List.cons_append, List.nil_append, List.append_nil, Nat.reduceEqDiff, Nat.reducePow, Nat.reduceLT, Nat.reduceLeDiff, reduceIte, if_true, if_false, IntKind.min, IntKind.max, IntKind.bits, IntKind.signed, Int.reduceLE, Int.reduceNeg, Int.reducePow, Int.reduceSub, and_self, Bool.false_eq_true, Nat.reduceSub]; rfl)
   iterate 2 (· (simp (disch := omega) only [go_sem, i64_of, u32_of, u64_of, Nat.reduceLT, Nat.reduceLeDiff, Nat.reduceEqDiff, Nat.reduceAdd, Nat.reduceSub, Nat.reduceMul, Nat.reducePow, Nat.reduceBEq, Int.reduceLE, Int.reduceLT, Int.reduceToNat, Int.reduceEq, Int.reduceNeg, reduceIte, reduceCtorEq]; rfl))
   ·(simp only [pb, Nat.reduceLT, Nat.reduceAdd, reduceIte]; rfl)
   ·rfl)
 |(apply RunD.call rfl; · rfl
   ·(simp only [opsOf, valsOf, valOf, lkp, ofConst, ofCell, Array.toList, Option.toList, List.map_cons, List.map_nil, List.cons_append, List.nil_append, List.append_nil, Nat.reduceEqDiff, Nat.reducePow, Nat.reduceLT, Nat.reduceLeDiff, reduceIte, if_true, if_false, IntKind.min, IntKind.max, IntKind.bits, IntKind.signed, Int.reduceLE, Int.reduceNeg, Int.reducePow, Int.reduceSub, and_self, Bool.false_eq_true, Nat.reduceSub]; rfl)
   ·first | rfl | (simp only [List.cons_append, List.nil_append, V.hfL, V.hf, Bool.true_and]; assumption)
   ·(first | (simp only [cnlL, cnl, List.append_nil, List.cons_append, List.nil_append]; first | exact hop) | (first | exact hop))
   ·rfl
   ·(simp only [pb, Nat.reduceLT, Nat.reduceAdd, reduceIte]; rfl)
   ·rfl)
 |(apply RunD.gcall [0] rfl; · rfl
   ·(simp only [opsOf, valsOf, valOf, lkp, ofConst, ofCell, Array.toList, Option.toList, List.map_cons, List.map_nil, List.cons_append, List.nil_append, List.append_nil, Nat.reduceEqDiff, Nat.reducePow, Nat.reduceLT, Nat.reduceLeDiff, reduceIte, if_true, if_false, IntKind.min, IntKind.max, IntKind.bits, IntKind.signed, Int.reduceLE, Int.reduceNeg, Int.reducePow, Int.reduceSub, and_self, Bool.false_eq_true, Nat.reduceSub]; rfl)
   ·exact c1
   ·first | rfl | (simp only [Row.ren, V.ren, V.renL, renS, ren_q, renL_u, ren_zl, ren_tb, ren_frw, ren_cnq]; rfl)
   ·first | rfl | (simp only [V.lt, V.ltL, ltS, lt_q, ltL_u, lt_zl, lt_tb, lt_frw, lt_cnq]; rfl)
   ·decide
   ·repeat' (first | exact trivial | rfl | (simp only [Row.ren, V.ren, V.renL, renS, ren_q, renL_u, ren_zl, ren_tb, ren_frw, ren_cnq]; done) | (simp only [Row.ren, V.ren, V.renL, renS, ren_q, renL_u, ren_zl, ren_tb, ren_frw, ren_cnq]; rfl) | (simp only [V.lt, V.ltL, ltS, lt_q, ltL_u, lt_zl, lt_tb, lt_frw, lt_cnq]; done) | apply And.intro)
   ·first | rfl | (simp only [Row.ren, V.ren, V.renL, renS, ren_q, renL_u, ren_zl, ren_tb, ren_frw, ren_cnq]; rfl)
   ·(simp only [setRows, setL, Row.ren, V.ren, V.renL, renS, ren_q, renL_u, ren_zl, ren_tb, ren_frw, ren_cnq, pb, Nat.reduceLT, Nat.reduceAdd, Nat.reduceEqDiff, reduceIte]; rfl)
   ·rfl)
 |(apply RunD.gcall [0] rfl; · rfl
   ·(simp only [opsOf, valsOf, valOf, lkp, ofConst, ofCell, Array.toList, Option.toList, List.map_cons, List.map_nil, List.cons_append, List.nil_append, List.append_nil, Nat.reduceEqDiff, Nat.reducePow, Nat.reduceLT, Nat.reduceLeDiff, reduceIte, if_true, if_false, IntKind.min, IntKind.max, IntKind.bits, IntKind.signed, Int.reduceLE, Int.reduceNeg, Int.reducePow, Int.reduceSub, and_self, Bool.false_eq_true, Nat.reduceSub]; rfl)
   ·exact c2
   ·first | rfl | (simp only [Row.ren, V.ren, V.renL, renS, ren_q, renL_u, ren_zl, ren_tb, ren_frw, ren_cnq]; rfl)
   ·first | rfl | (simp only [V.lt, V.ltL, ltS, lt_q, ltL_u, lt_zl, lt_tb, lt_frw, lt_cnq]; rfl)
   ·decide
   ·repeat' (first | exact trivial | rfl | (simp only [Row.ren, V.ren, V.renL, renS, ren_q, renL_u, ren_zl, ren_tb, ren_frw, ren_cnq]; done) | (simp only [Row.ren, V.ren, V.renL, renS, ren_q, renL_u, ren_zl, ren_tb, ren_frw, ren_cnq]; rfl) | (simp only [V.lt, V.ltL, ltS, lt_q, ltL_u, lt_zl, lt_tb, lt_frw, lt_cnq]; done) | apply And.intro)
   ·first | rfl | (simp only [Row.ren, V.ren, V.renL, renS, ren_q, renL_u, ren_zl, ren_tb, ren_frw, ren_cnq]; rfl)
   ·(simp only [setRows, setL, Row.ren, V.ren, V.renL, renS, ren_q, renL_u, ren_zl, ren_tb, ren_frw, ren_cnq, pb, Nat.reduceLT, Nat.reduceAdd, Nat.reduceEqDiff, reduceIte]; rfl)
   ·rfl)
 |(apply RunD.skip; · rfl
   ·(simp only [pb, Nat.reduceLT, Nat.reduceAdd, reduceIte]; rfl)
   ·rfl))
  exact RunD.nil
 ·repeat (first | exact Keep.nil | (apply Keep.take; · rfl) | (apply Keep.drop; · rfl))
 ·kernel_rfl
 refine AX.ret ⟨.inl rfl, ?_⟩
 exact DoneG.cellT rfl rfl rfl
theorem inT_put {t G : Nat → Nat} {v k : Nat} (hG : inT (updT t v 0) G) (hk : k < t v) : inT t (updT G v k) := fun u hu h0 => by
 by_cases e : u = v
 ·rw [e, updT_same]; exact hk
 ·rw [updT_ne _ _ e]
  have := hG u hu (by rw [updT_ne _ _ e]; exact h0)
  rwa [updT_ne _ _ e] at this
theorem updT_updT (G : Nat → Nat) (v x y : Nat) : updT (updT G v x) v y = updT G v y := funext fun u => by
 by_cases e : u = v
 ·rw [e, updT_same, updT_same]
 ·rw [updT_ne _ _ e, updT_ne _ _ e, updT_ne _ _ e]
theorem updT_id {G : Nat → Nat} {v : Nat} (h : G v = 0) : updT G v 0 = G := funext fun u => by
 by_cases e : u = v
 ·rw [e, updT_same, h]
 ·rw [updT_ne _ _ e]
set_option maxHeartbeats 16000000 in
theorem fwith1_g (arm : Int) (t : Nat → Nat) (q : Nat → Rat) (ht : okT t) (v : Nat) (hv : v < 64) (G : Nat → Nat) (hG : inT (updT t v 0) G) (h0 : G v = 0) (F : Nat) (r : Rat) (hop : PCall Tryz.prog F ([.sl ((ql (t v) fun k => q (enT t (updT G v k))).map rV)] ++ []) (rV r) []) :
  GCall Tryz.prog 85 [.ptr 0 0, .rp [.i .i64 (t v : Nat)], .rp [.i .i64 (v : Nat)], .rp [.sl (zl (ci (vsT t))), .sl (zl (ci (asT t))), .sl ((ql (szT t) q).map rV)], .rp [.fn F []]]
   [⟨76, tb G⟩] [⟨76, tb G⟩] (.agg [.b (decide (r.num < 0)), dg (digits r.num.natAbs), dg (digits r.den)]) := by
 have cat := fun k (hk : k < t v) => fat_g t q ht (updT G v k) (inT_put hG hk)
 have hb := ht.1 v
 obtain ⟨f, hf⟩ : ∃ f : Nat → Rat, (fun k => q (enT t (updT G v k))) = f := ⟨_, rfl⟩
 have hfk : ∀ k, q (enT t (updT G v k)) = f k := fun k => by rw [← hf]
 rw [hf] at hop
 simp only [hfk] at cat
 clear hf hfk
 refine GCall.of_ax rfl Tryz.call85 Tryz.func85 rfl (by simp [Tryz.ntmps85]) fun O M w0 E0 => ?_
 simp only [Tryz.ntmps85, Tryz.results85, argFr, rowsFr, List.length_cons, List.length_nil, Nat.zero_add, Nat.reduceAdd]
 generalize zl (ci (vsT t)) = V1 at *
 generalize zl (ci (asT t)) = A1 at *
 generalize (ql (szT t) q).map rV = X1 at *
 generalize t v = n at *
 refine AX.sR (rgAV [0, 1, 2, 3, 4, 6]) ?_
 refine AX.sR (rgAV [0, 1, 2, 3, 4, 6, 7]) ?_
 refine AX.own0 7 38 3 rfl ?_
 refine AX.seq ?_
 refine AX.sR (rgAV [0, 2, 3, 4, 6, 7, 9, 10]) ?_
 refine AX.weaken id (st' := ⟨[(10, .i .i64 (0 : Nat)), (9, .i .i64 n), (7, .own 2 0 (0 : Nat) 3), (6, .ptr 1 0), (4, .rp [.fn F []]), (3, .rp [.sl V1, .sl A1, .sl X1]), (2, .rp [.i .i64 v]), (0, .ptr 0 0)], [(2, ⟨38, qrow (ql 0 f)⟩), (1, ⟨38, [.b false, .nl, .nl]⟩), (0, ⟨76, tb G⟩)], 3⟩)
  ⟨by simp only [ren_q, renL_u, ren_zl, ren_tb, ren_frw, ren_cnq, lt_q, ltL_u, lt_zl, lt_tb, lt_frw, lt_cnq, LeFr, LeHp, lkp, V.ren, V.renL, Row.ren, V.lt, V.ltL, renL_u, ltL_u, List.length_append, List.length_cons, List.length_nil, List.length_set, id_eq, Option.some.injEq, V.i.injEq, V.b.injEq, V.own.injEq, Row.mk.injEq, decide_true, decide_eq_true_eq, true_and, and_true, Bool.and_true, Bool.true_and, if_true, if_false, and_self, Nat.reduceLT, Nat.reduceLeDiff, Nat.reduceEqDiff, Nat.reduceAdd, Nat.reduceSub, Nat.reduceMul, Nat.reducePow, Nat.reduceBEq, Int.reduceLE, Int.reduceLT, Int.reduceToNat, Int.reduceEq, Int.reduceNeg, reduceIte, reduceCtorEq] <;> (first | done | trivial | (and_intros <;> first | trivial | omega | (rfl))), by simp only [ren_q, renL_u, ren_zl, ren_tb, ren_frw, ren_cnq, lt_q, ltL_u, lt_zl, lt_tb, lt_frw, lt_cnq, LeFr, LeHp, lkp, V.ren, V.renL, Row.ren, V.lt, V.ltL, renL_u, ltL_u, List.length_append, List.length_cons, List.length_nil, List.length_set, id_eq, Option.some.injEq, V.i.injEq, V.b.injEq, V.own.injEq, Row.mk.injEq, decide_true, decide_eq_true_eq, true_and, and_true, Bool.and_true, Bool.true_and, if_true, if_false, and_self, Nat.reduceLT, Nat.reduceLeDiff, Nat.reduceEqDiff, Nat.reduceAdd, Nat.reduceSub, Nat.reduceMul, Nat.reducePow, Nat.reduceBEq, Int.reduceLE, Int.reduceLT, Int.reduceToNat, Int.reduceEq, Int.reduceNeg, reduceIte, reduceCtorEq] <;> (first | done | trivial | (and_intros <;> first | trivial | omega | (rfl))), by simp [Apart], by first | exact Nat.zero_le _ | simp, by intro n hn; first | rfl | exact absurd hn (Nat.not_lt_zero _) | (have h0 : n = 0 := Nat.lt_one_iff.1 hn; subst h0; rfl)⟩
  ?_
 refine AX.block ?_
 refine AX.loop (fun N st => ∃ (k : Nat) (zs : List Rat) (A : Nat → Nat), k ≤ n ∧ N = n - k ∧ zs = ql k f ∧ (∀ x, updT A v x = updT G v x) ∧ st = ⟨[(10, .i .i64 k), (9, .i .i64 n), (7, .own 2 0 k 3), (6, .ptr 1 0), (4, .rp [.fn F []]), (3, .rp [.sl V1, .sl A1, .sl X1]), (2, .rp [.i .i64 v]), (0, .ptr 0 0)], [(2, ⟨38, qrow zs⟩), (1, ⟨38, [.b false, .nl, .nl]⟩), (0, ⟨76, tb A⟩)], 3⟩) n ⟨0, _, _, Nat.zero_le _, rfl, rfl, fun _ => rfl, rfl⟩ ?_
 rintro N st ⟨k, zs, A, hk, rfl, hzs, hA, rfl⟩
 have hl := tb_length A
 by_cases h1 : k < n
 ·have hset := tb_set A k hv
  rw [hA k] at hset
  have c1 := cat k h1
  have hlq : (qrow zs).length = k * 3 := by rw [qrow_length, hzs, ql_length]
  have ea : qrow zs ++ [.b (decide ((f k).num < 0)), dg (digits (f k).num.natAbs), dg (digits (f k).den)] = qrow (ql (k + 1) f) := by rw [ql_succ, qrow_app, qrow_one, hzs]
  have hA' : ∀ x, updT (updT G v k) v x = updT G v x := fun x => updT_updT G v k x
  clear cat hop hA
  obtain ⟨G', hG'⟩ : ∃ G', updT G v k = G' := ⟨_, rfl⟩
  rw [hG'] at hset c1 hA'
  generalize decide ((f k).num < 0) = s at *
  generalize digits (f k).num.natAbs = a at *
  generalize digits (f k).den = b at *
  refine AX.sR (rgAV [0, 2, 3, 4, 6, 7, 9, 10, 11]) ?_
  refine AX.seq ?_
  refine AX.condT ?_
  refine AX.keepA [0, 2, 3, 4, 6, 7, 9, 10] ?_
  refine AX.skip ?_
  refine nmZ ?_
  refine AX.seq ?_
  refine AX.block ?_
  refine AX.sR (rgAV [0, 2, 3, 4, 6, 7, 8, 9, 10]) ?_
  refine AX.sD (rgDWV [0, 2, 3, 4, 6, 7, 8, 9, 10] (aI @hl oT) oT) ?_
  rw [hset]
  apply AX.reg [0, 2, 3, 4, 6, 7, 9, 10] (by simp only [pq]; rfl)
  ·repeat (first
  |(apply RunO.op rfl; · rfl
    ·(simp only [opsOf, valsOf, valOf, lkp, ofConst, ofCell, Array.toList, Option.toList, List.map_cons, List.map_nil, List.cons_append, List.nil_append, List.append_nil, Nat.reduceEqDiff, Nat.reducePow, Nat.reduceLT, Nat.reduceLeDiff, reduceIte, if_true, if_false, IntKind.min, IntKind.max, IntKind.bits, IntKind.signed, Int.reduceLE, Int.reduceNeg, Int.reducePow, Int.reduceSub, and_self, Bool.false_eq_true, Nat.reduceSub]; rfl)
    iterate 2 (· (simp (disch := omega) only [go_sem, i64_of, u32_of, u64_of, Nat.reduceLT, Nat.reduceLeDiff, Nat.reduceEqDiff, Nat.reduceAdd, Nat.reduceSub, Nat.reduceMul, Nat.reducePow, Nat.reduceBEq, Int.reduceLE, Int.reduceLT, Int.reduceToNat, Int.reduceEq, Int.reduceNeg, reduceIte, reduceCtorEq, hlq, flat_q, zerosV_1, tkS, tk0]; rfl))
    ·(simp only [pb, Nat.reduceLT, Nat.reduceAdd, reduceIte]; rfl))
  |(apply RunO.gcall [0] rfl; · rfl
    ·(simp only [opsOf, valsOf, valOf, lkp, ofConst, ofCell, Array.toList, Option.toList, List.map_cons, List.map_nil, List.cons_append, List.nil_append, List.append_nil, Nat.reduceEqDiff, Nat.reducePow, Nat.reduceLT, Nat.reduceLeDiff, reduceIte, if_true, if_false, IntKind.min, IntKind.max, IntKind.bits, IntKind.signed, Int.reduceLE, Int.reduceNeg, Int.reducePow, Int.reduceSub, and_self, Bool.false_eq_true, Nat.reduceSub]; rfl)
    ·exact c1
    ·first | rfl | (simp only [Row.ren, V.ren, V.renL, renS, ren_q, renL_u, ren_zl, ren_tb, ren_frw, ren_cnq]; rfl)
    ·first | rfl | (simp only [V.lt, V.ltL, ltS, lt_q, ltL_u, lt_zl, lt_tb, lt_frw, lt_cnq]; rfl)
    ·decide
    ·repeat' (first | exact trivial | rfl | (simp only [Row.ren, V.ren, V.renL, renS, ren_q, renL_u, ren_zl, ren_tb, ren_frw, ren_cnq]; done) | (simp only [Row.ren, V.ren, V.renL, renS, ren_q, renL_u, ren_zl, ren_tb, ren_frw, ren_cnq]; rfl) | (simp only [V.lt, V.ltL, ltS, lt_q, ltL_u, lt_zl, lt_tb, lt_frw, lt_cnq]; done) | apply And.intro)
    ·first | rfl | (simp only [Row.ren, V.ren, V.renL, renS, ren_q, renL_u, ren_zl, ren_tb, ren_frw, ren_cnq]; rfl)
    ·(simp only [setRows, setL, Row.ren, V.ren, V.renL, renS, ren_q, renL_u, ren_zl, ren_tb, ren_frw, ren_cnq, pb, Nat.reduceLT, Nat.reduceAdd, Nat.reduceEqDiff, reduceIte]; rfl))
  |(apply RunO.skip; · rfl
    ·(simp only [pb, Nat.reduceLT, Nat.reduceAdd, reduceIte]; rfl)))
   exact RunO.nil
  ·repeat (first | exact Keep.nil | (apply Keep.take; · rfl) | (apply Keep.drop; · rfl))
  refine nmZ ?_
  rw [ea]
  refine AX.rR (rgWV [0, 2, 3, 4, 6, 7, 9, 10] (aI @lit_add oT) oT) ?_
  refine nmZ ?_
  refine ⟨_, _, fun n => if n = 2 then 4 else n, ?_,
   leQ5
   , ⟨k + 1, _, G', by omega, rfl, rfl, hA', rfl⟩⟩
  omega
 ·obtain rfl : k = n := by omega
  have hset : (tb A).set v (V.i .i64 0) = tb G := by
   have h := tb_set A 0 hv
   rw [hA 0, updT_id h0] at h
   exact h
  have z1 := okFrz_q (ql k f)
  have z2 := take_q (ql k f)
  have z3 := chunks_q (ql k f)
  rw [ql_length] at z1 z2 z3
  clear cat
  subst hzs
  refine AX.sR (rgAV [0, 2, 3, 4, 6, 7, 9, 10, 11]) ?_
  refine AX.seq ?_
  refine AX.condF ?_
  refine AX.exit ?_
  refine nmZ ?_
  refine AX.sD (rgDWV [4, 6, 7] (aI @hl oT) oT) ?_
  rw [hset]
  refine AX.frozen 7 ((ql k f).map rV) rfl rfl z1 (by rw [z2, z3]) ?_
  refine AX.sR (rgCV [6] (aI hop oT)) ?_
  refine AX.ret ⟨.inl rfl, ?_⟩
  exact DoneG.cellT rfl rfl rfl
set_option maxHeartbeats 16000000 in
theorem fwith1r_g (arm : Int) (t : Nat → Nat) (q : Nat → Rat) (ht : okT t) (v : Nat) (hv : v < 64) (G : Nat → Nat) (hG : inT (updT t v 0) G) (h0 : G v = 0) (F : Nat) (r : Rat) (hop : PCall Tryz.prog F ([.sl ((ql (t v) fun k => q (enT t (updT G v k))).map rV)] ++ [.rp [.i .i64 arm]]) (rV r) []) :
  GCall Tryz.prog 85 [.ptr 0 0, .rp [.i .i64 (t v : Nat)], .rp [.i .i64 (v : Nat)], .rp [.sl (zl (ci (vsT t))), .sl (zl (ci (asT t))), .sl ((ql (szT t) q).map rV)], .rp [.fn F [.rp [.i .i64 arm]]]]
   [⟨76, tb G⟩] [⟨76, tb G⟩] (.agg [.b (decide (r.num < 0)), dg (digits r.num.natAbs), dg (digits r.den)]) := by
 have cat := fun k (hk : k < t v) => fat_g t q ht (updT G v k) (inT_put hG hk)
 have hb := ht.1 v
 obtain ⟨f, hf⟩ : ∃ f : Nat → Rat, (fun k => q (enT t (updT G v k))) = f := ⟨_, rfl⟩
 have hfk : ∀ k, q (enT t (updT G v k)) = f k := fun k => by rw [← hf]
 rw [hf] at hop
 simp only [hfk] at cat
 clear hf hfk
 refine GCall.of_ax rfl Tryz.call85 Tryz.func85 rfl (by simp [Tryz.ntmps85]) fun O M w0 E0 => ?_
 simp only [Tryz.ntmps85, Tryz.results85, argFr, rowsFr, List.length_cons, List.length_nil, Nat.zero_add, Nat.reduceAdd]
 generalize zl (ci (vsT t)) = V1 at *
 generalize zl (ci (asT t)) = A1 at *
 generalize (ql (szT t) q).map rV = X1 at *
 generalize t v = n at *
 refine AX.sR (rgAV [0, 1, 2, 3, 4, 6]) ?_
 refine AX.sR (rgAV [0, 1, 2, 3, 4, 6, 7]) ?_
 refine AX.own0 7 38 3 rfl ?_
 refine AX.seq ?_
 refine AX.sR (rgAV [0, 2, 3, 4, 6, 7, 9, 10]) ?_
 refine AX.weaken id (st' := ⟨[(10, .i .i64 (0 : Nat)), (9, .i .i64 n), (7, .own 2 0 (0 : Nat) 3), (6, .ptr 1 0), (4, .rp [.fn F [.rp [.i .i64 arm]]]), (3, .rp [.sl V1, .sl A1, .sl X1]), (2, .rp [.i .i64 v]), (0, .ptr 0 0)], [(2, ⟨38, qrow (ql 0 f)⟩), (1, ⟨38, [.b false, .nl, .nl]⟩), (0, ⟨76, tb G⟩)], 3⟩)
  ⟨by simp only [ren_q, renL_u, ren_zl, ren_tb, ren_frw, ren_cnq, lt_q, ltL_u, lt_zl, lt_tb, lt_frw, lt_cnq, LeFr, LeHp, lkp, V.ren, V.renL, Row.ren, V.lt, V.ltL, renL_u, ltL_u, List.length_append, List.length_cons, List.length_nil, List.length_set, id_eq, Option.some.injEq, V.i.injEq, V.b.injEq, V.own.injEq, Row.mk.injEq, decide_true, decide_eq_true_eq, true_and, and_true, Bool.and_true, Bool.true_and, if_true, if_false, and_self, Nat.reduceLT, Nat.reduceLeDiff, Nat.reduceEqDiff, Nat.reduceAdd, Nat.reduceSub, Nat.reduceMul, Nat.reducePow, Nat.reduceBEq, Int.reduceLE, Int.reduceLT, Int.reduceToNat, Int.reduceEq, Int.reduceNeg, reduceIte, reduceCtorEq] <;> (first | done | trivial | (and_intros <;> first | trivial | omega | (rfl))), by simp only [ren_q, renL_u, ren_zl, ren_tb, ren_frw, ren_cnq, lt_q, ltL_u, lt_zl, lt_tb, lt_frw, lt_cnq, LeFr, LeHp, lkp, V.ren, V.renL, Row.ren, V.lt, V.ltL, renL_u, ltL_u, List.length_append, List.length_cons, List.length_nil, List.length_set, id_eq, Option.some.injEq, V.i.injEq, V.b.injEq, V.own.injEq, Row.mk.injEq, decide_true, decide_eq_true_eq, true_and, and_true, Bool.and_true, Bool.true_and, if_true, if_false, and_self, Nat.reduceLT, Nat.reduceLeDiff, Nat.reduceEqDiff, Nat.reduceAdd, Nat.reduceSub, Nat.reduceMul, Nat.reducePow, Nat.reduceBEq, Int.reduceLE, Int.reduceLT, Int.reduceToNat, Int.reduceEq, Int.reduceNeg, reduceIte, reduceCtorEq] <;> (first | done | trivial | (and_intros <;> first | trivial | omega | (rfl))), by simp [Apart], by first | exact Nat.zero_le _ | simp, by intro n hn; first | rfl | exact absurd hn (Nat.not_lt_zero _) | (have h0 : n = 0 := Nat.lt_one_iff.1 hn; subst h0; rfl)⟩
  ?_
 refine AX.block ?_
 refine AX.loop (fun N st => ∃ (k : Nat) (zs : List Rat) (A : Nat → Nat), k ≤ n ∧ N = n - k ∧ zs = ql k f ∧ (∀ x, updT A v x = updT G v x) ∧ st = ⟨[(10, .i .i64 k), (9, .i .i64 n), (7, .own 2 0 k 3), (6, .ptr 1 0), (4, .rp [.fn F [.rp [.i .i64 arm]]]), (3, .rp [.sl V1, .sl A1, .sl X1]), (2, .rp [.i .i64 v]), (0, .ptr 0 0)], [(2, ⟨38, qrow zs⟩), (1, ⟨38, [.b false, .nl, .nl]⟩), (0, ⟨76, tb A⟩)], 3⟩) n ⟨0, _, _, Nat.zero_le _, rfl, rfl, fun _ => rfl, rfl⟩ ?_
 rintro N st ⟨k, zs, A, hk, rfl, hzs, hA, rfl⟩
 have hl := tb_length A
 by_cases h1 : k < n
 ·have hset := tb_set A k hv
  rw [hA k] at hset
  have c1 := cat k h1
  have hlq : (qrow zs).length = k * 3 := by rw [qrow_length, hzs, ql_length]
  have ea : qrow zs ++ [.b (decide ((f k).num < 0)), dg (digits (f k).num.natAbs), dg (digits (f k).den)] = qrow (ql (k + 1) f) := by rw [ql_succ, qrow_app, qrow_one, hzs]
  have hA' : ∀ x, updT (updT G v k) v x = updT G v x := fun x => updT_updT G v k x
  clear cat hop hA
  obtain ⟨G', hG'⟩ : ∃ G', updT G v k = G' := ⟨_, rfl⟩
  rw [hG'] at hset c1 hA'
  generalize decide ((f k).num < 0) = s at *
  generalize digits (f k).num.natAbs = a at *
  generalize digits (f k).den = b at *
  refine AX.sR (rgAV [0, 2, 3, 4, 6, 7, 9, 10, 11]) ?_
  refine AX.seq ?_
  refine AX.condT ?_
  refine AX.keepA [0, 2, 3, 4, 6, 7, 9, 10] ?_
  refine AX.skip ?_
  refine nmZ ?_
  refine AX.seq ?_
  refine AX.block ?_
  refine AX.sR (rgAV [0, 2, 3, 4, 6, 7, 8, 9, 10]) ?_
  refine AX.sD (rgDWV [0, 2, 3, 4, 6, 7, 8, 9, 10] (aI @hl oT) oT) ?_
  rw [hset]
  apply AX.reg [0, 2, 3, 4, 6, 7, 9, 10] (by simp only [pq]; rfl)
  ·repeat (first
  |(apply RunO.op rfl; · rfl
    ·(simp only [opsOf, valsOf, valOf, lkp, ofConst, ofCell, Array.toList, Option.toList, List.map_cons, List.map_nil, List.cons_append, List.nil_append, List.append_nil, Nat.reduceEqDiff, Nat.reducePow, Nat.reduceLT, Nat.reduceLeDiff, reduceIte, if_true, if_false, IntKind.min, IntKind.max, IntKind.bits, IntKind.signed, Int.reduceLE, Int.reduceNeg, Int.reducePow, Int.reduceSub, and_self, Bool.false_eq_true, Nat.reduceSub]; rfl)
    iterate 2 (· (simp (disch := omega) only [go_sem, i64_of, u32_of, u64_of, Nat.reduceLT, Nat.reduceLeDiff, Nat.reduceEqDiff, Nat.reduceAdd, Nat.reduceSub, Nat.reduceMul, Nat.reducePow, Nat.reduceBEq, Int.reduceLE, Int.reduceLT, Int.reduceToNat, Int.reduceEq, Int.reduceNeg, reduceIte, reduceCtorEq, hlq, flat_q, zerosV_1, tkS, tk0]; rfl))
    ·(simp only [pb, Nat.reduceLT, Nat.reduceAdd, reduceIte]; rfl))
  |(apply RunO.gcall [0] rfl; · rfl
    ·(simp only [opsOf, valsOf, valOf, lkp, ofConst, ofCell, Array.toList, Option.toList, List.map_cons, List.map_nil, List.cons_append, List.nil_append, List.append_nil, Nat.reduceEqDiff, Nat.reducePow, Nat.reduceLT, Nat.reduceLeDiff, reduceIte, if_true, if_false, IntKind.min, IntKind.max, IntKind.bits, IntKind.signed, Int.reduceLE, Int.reduceNeg, Int.reducePow, Int.reduceSub, and_self, Bool.false_eq_true, Nat.reduceSub]; rfl)
    ·exact c1
    ·first | rfl | (simp only [Row.ren, V.ren, V.renL, renS, ren_q, renL_u, ren_zl, ren_tb, ren_frw, ren_cnq]; rfl)
    ·first | rfl | (simp only [V.lt, V.ltL, ltS, lt_q, ltL_u, lt_zl, lt_tb, lt_frw, lt_cnq]; rfl)
    ·decide
    ·repeat' (first | exact trivial | rfl | (simp only [Row.ren, V.ren, V.renL, renS, ren_q, renL_u, ren_zl, ren_tb, ren_frw, ren_cnq]; done) | (simp only [Row.ren, V.ren, V.renL, renS, ren_q, renL_u, ren_zl, ren_tb, ren_frw, ren_cnq]; rfl) | (simp only [V.lt, V.ltL, ltS, lt_q, ltL_u, lt_zl, lt_tb, lt_frw, lt_cnq]; done) | apply And.intro)
    ·first | rfl | (simp only [Row.ren, V.ren, V.renL, renS, ren_q, renL_u, ren_zl, ren_tb, ren_frw, ren_cnq]; rfl)
    ·(simp only [setRows, setL, Row.ren, V.ren, V.renL, renS, ren_q, renL_u, ren_zl, ren_tb, ren_frw, ren_cnq, pb, Nat.reduceLT, Nat.reduceAdd, Nat.reduceEqDiff, reduceIte]; rfl))
  |(apply RunO.skip; · rfl
    ·(simp only [pb, Nat.reduceLT, Nat.reduceAdd, reduceIte]; rfl)))
   exact RunO.nil
  ·repeat (first | exact Keep.nil | (apply Keep.take; · rfl) | (apply Keep.drop; · rfl))
  refine nmZ ?_
  rw [ea]
  refine AX.rR (rgWV [0, 2, 3, 4, 6, 7, 9, 10] (aI @lit_add oT) oT) ?_
  refine nmZ ?_
  refine ⟨_, _, fun n => if n = 2 then 4 else n, ?_,
   leQ5
   , ⟨k + 1, _, G', by omega, rfl, rfl, hA', rfl⟩⟩
  omega
 ·obtain rfl : k = n := by omega
  have hset : (tb A).set v (V.i .i64 0) = tb G := by
   have h := tb_set A 0 hv
   rw [hA 0, updT_id h0] at h
   exact h
  have z1 := okFrz_q (ql k f)
  have z2 := take_q (ql k f)
  have z3 := chunks_q (ql k f)
  rw [ql_length] at z1 z2 z3
  clear cat
  subst hzs
  refine AX.sR (rgAV [0, 2, 3, 4, 6, 7, 9, 10, 11]) ?_
  refine AX.seq ?_
  refine AX.condF ?_
  refine AX.exit ?_
  refine nmZ ?_
  refine AX.sD (rgDWV [4, 6, 7] (aI @hl oT) oT) ?_
  rw [hset]
  refine AX.frozen 7 ((ql k f).map rV) rfl rfl z1 (by rw [z2, z3]) ?_
  refine AX.sR (rgCV [6] (aI hop oT)) ?_
  refine AX.ret ⟨.inl rfl, ?_⟩
  exact DoneG.cellT rfl rfl rfl
end Go.Proofs.YtogpimmcodaljaaGreat
/- Lists of whole numbers: the library's binary search. -/
set_option linter.unusedVariables false
set_option linter.unusedSimpArgs false
namespace Go.Proofs.YtogpimmcodaljaaGreat
open Go Go.Proofs.YtogpimmcodaljaaGreat.Lift
attribute [local irreducible] Lift.PCall Lift.HCall
def bsN (l : List Int) (v : Int) : Nat → Nat → Nat → Nat
 | 0, i, _ => i
 | f + 1, i, j => if i < j then (if l.getD ((i + j) / 2) 0 < v then bsN l v f ((i + j) / 2 + 1) j else bsN l v f i ((i + j) / 2)) else i
theorem bsN_end {l : List Int} {v : Int} {f i j : Nat} (h : ¬ i < j) : bsN l v f i j = i := by
 cases f with
 | zero => rfl
 | succ f => exact if_neg h
theorem bsN_le {l : List Int} {v : Int} : ∀ (f i j : Nat), i ≤ j → bsN l v f i j ≤ j
 | 0, i, j, h => h
 | f + 1, i, j, h => by
  unfold bsN
  split
  ·split
   ·exact bsN_le f _ _ (by omega)
   ·exact Nat.le_trans (bsN_le f _ _ (by omega)) (by omega)
  ·exact h
theorem bsN_spec {l : List Int} {v : Int} (hs : l.Pairwise (· < ·)) : ∀ (f i j : Nat), j - i ≤ f → i ≤ j → j ≤ l.length → (∀ k, k < i → l.getD k 0 < v) → (∀ k, j ≤ k → k < l.length → v ≤ l.getD k 0) →
  (∀ k, k < bsN l v f i j → l.getD k 0 < v) ∧ (∀ k, bsN l v f i j ≤ k → k < l.length → v ≤ l.getD k 0)
 | 0, i, j, hf, hij, hj, h1, h2 => by
  obtain rfl : i = j := by omega
  exact ⟨h1, h2⟩
 | f + 1, i, j, hf, hij, hj, h1, h2 => by
  have hget : ∀ a b, a < b → b < l.length → l.getD a 0 < l.getD b 0 := fun a b hab hb => by
   rw [List.getD_eq_getElem?_getD, List.getD_eq_getElem?_getD, List.getElem?_eq_getElem (by omega), List.getElem?_eq_getElem hb]
   exact List.pairwise_iff_getElem.1 hs a b (by omega) hb hab
  unfold bsN
  split
  ·split
   ·rename_i hlt
    refine bsN_spec hs f _ _ (by omega) (by omega) hj (fun k hk => ?_) h2
    by_cases e : k = (i + j) / 2
    ·rw [e]; exact hlt
    ·exact Int.lt_trans (hget k _ (by omega) (by omega)) hlt
   ·rename_i hlt
    refine bsN_spec hs f _ _ (by omega) (by omega) (by omega) h1 fun k hk hkl => ?_
    by_cases e : k = (i + j) / 2
    ·rw [e]; omega
    ·have := hget ((i + j) / 2) k (by omega) hkl
     omega
  ·obtain rfl : i = j := by omega
   exact ⟨h1, h2⟩
theorem isnanc_ok (x : Int) (hx : -9223372036854775808 ≤ x ∧ x ≤ 9223372036854775807) : PCall Tryz.prog 90 [.i .i64 x] (.b false) [] := by
 refine PCall.of_ax Tryz.call90 Tryz.func90 rfl (by simp [Tryz.ntmps90]) fun O w0 => ?_
 simp only [Tryz.ntmps90, Tryz.results90, argFr]
 refine AX.sR (rgAV [0]) ?_
 refine AX.sR (rgAV [2]) ?_
 refine AX.ret ⟨.inl rfl, ?_⟩
 exact Done.one rfl rfl rfl rfl
theorem isnans_ok (x : Int) (hx : -9223372036854775808 ≤ x ∧ x ≤ 9223372036854775807) : PCall Tryz.prog 62 [.i .i64 x] (.b false) [] := by
 refine PCall.of_ax Tryz.call62 Tryz.func62 rfl (by simp [Tryz.ntmps62]) fun O w0 => ?_
 simp only [Tryz.ntmps62, Tryz.results62, argFr]
 refine AX.sR (rgAV [0]) ?_
 refine AX.sR (rgAV [2]) ?_
 refine AX.ret ⟨.inl rfl, ?_⟩
 exact Done.one rfl rfl rfl rfl
theorem cless_ok (x y : Int) (hx : -9223372036854775808 ≤ x ∧ x ≤ 9223372036854775807) (hy : -9223372036854775808 ≤ y ∧ y ≤ 9223372036854775807) : PCall Tryz.prog 61 [.i .i64 x, .i .i64 y] (.b (decide (x < y))) [] := by
 have c1 := isnanc_ok x hx
 have c2 := isnanc_ok y hy
 refine PCall.of_ax Tryz.call61 Tryz.func61 rfl (by simp [Tryz.ntmps61]) fun O w0 => ?_
 simp only [Tryz.ntmps61, Tryz.results61, argFr]
 refine AX.sR (rgAV [0, 1]) ?_
 refine AX.sR (rgCV [4] (aI c1 (aI c2 oT))) ?_
 refine AX.ret ⟨.inl rfl, ?_⟩
 exact Done.one rfl rfl rfl rfl
set_option maxHeartbeats 8000000 in
theorem fbs_ok (l : List Int) (v : Int) (hl : l.length < 2 ^ 40) (hb : ∀ k, k < l.length → -9223372036854775808 ≤ l.getD k 0 ∧ l.getD k 0 ≤ 9223372036854775807) (hv : -9223372036854775808 ≤ v ∧ v ≤ 9223372036854775807) :
  PCall Tryz.prog 31 [.sl (zl l), .i .i64 v] (.tup [.i .i64 (bsN l v l.length 0 l.length : Nat), .b (decide (bsN l v l.length 0 l.length < l.length ∧ l.getD (bsN l v l.length 0 l.length) 0 = v))]) [] := by
 have hzl := zl_length l
 have hg := fun j (hj : j < l.length) => zl_get hj
 have cl := fun j (hj : j < l.length) => cless_ok (l.getD j 0) v (hb j hj) hv
 have cn := fun j (hj : j < l.length) => isnans_ok (l.getD j 0) (hb j hj)
 obtain ⟨R, hR⟩ : ∃ R, bsN l v l.length 0 l.length = R := ⟨_, rfl⟩
 rw [hR]
 refine PCall.of_ax Tryz.call31 Tryz.func31 rfl (by simp [Tryz.ntmps31]) fun O w0 => ?_
 simp only [Tryz.ntmps31, Tryz.results31, argFr]
 generalize zl l = Z at *
 refine AX.sR (rgAV [0, 1]) ?_
 refine AX.sR (rgWV [0, 1, 6] (aI @hzl oT) oT) ?_
 refine AX.sR (rgAV [0, 1, 6, 7, 8]) ?_
 refine AX.seq ?_
 refine AX.weaken id (st' := ⟨[(8, .i .i64 l.length), (7, .i .i64 (0 : Nat)), (6, .i .i64 l.length), (1, .i .i64 v), (0, .sl Z)], [], 0⟩)
  leQ5
  ?_
 refine AX.block ?_
 refine AX.loop (fun N st => ∃ (i j f : Nat), i ≤ j ∧ j ≤ l.length ∧ N = j - i ∧ j - i ≤ f ∧ bsN l v f i j = R ∧ st = ⟨[(8, .i .i64 j), (7, .i .i64 i), (6, .i .i64 l.length), (1, .i .i64 v), (0, .sl Z)], [], 0⟩) l.length ⟨0, l.length, l.length, Nat.zero_le _, Nat.le_refl _, rfl, Nat.le_refl _, hR, rfl⟩ ?_
 rintro N st ⟨i, j, f, hij, hj, rfl, hf, hbs, rfl⟩
 refine AX.seq ?_
 by_cases h1 : i < j
 ·obtain ⟨f, rfl⟩ : ∃ f', f = f' + 1 := ⟨f - 1, by omega⟩
  obtain ⟨h, hh⟩ : ∃ h, (i + j) / 2 = h := ⟨_, rfl⟩
  have hb1 : i ≤ h ∧ h < j := by omega
  have g1 := hg h (by omega)
  have c1 := cl h (by omega)
  have hbs' : (if l.getD h 0 < v then bsN l v f (h + 1) j else bsN l v f i h) = R := by
   rw [← hbs, ← hh]
   show _ = if i < j then _ else _
   rw [if_pos h1]
  have b3 := hb h (by omega)
  clear hg cl cn hbs hR hb
  generalize l.getD h 0 = y at *
  refine AX.sR (rgAV [0, 1, 6, 7, 8, 15]) ?_
  refine AX.condT ?_
  refine AX.keepA [0, 1, 6, 7, 8] ?_
  refine AX.skip ?_
  refine nmZ ?_
  refine AX.block ?_
  refine AX.sR (rgWV [0, 1, 6, 7, 8, 9] (aI @cAdd (aI @shr1 (aI @hh oT))) oT) ?_
  by_cases h2 : y < v
  ·rw [if_pos h2] at hbs'
   refine AX.sR (rgWV [0, 1, 6, 7, 8, 9, 27] (aI @hzl (aI @g1 oT)) (aI c1 oT)) ?_
   refine AX.condT ?_
   refine AX.rR (rgWV [0, 1, 6, 7, 8] (aI @lit_add oT) oT) ?_
   refine nmZ ?_
   refine ⟨_, _, id, ?_,
    leQ5
    , ⟨h + 1, j, f, by omega, hj, rfl, by omega, hbs', rfl⟩⟩
   omega
  ·rw [if_neg h2] at hbs'
   refine AX.sR (rgWV [0, 1, 6, 7, 8, 9, 27] (aI @hzl (aI @g1 oT)) (aI c1 oT)) ?_
   refine AX.condF ?_
   refine AX.rR (rgAV [0, 1, 6, 7, 8]) ?_
   refine nmZ ?_
   refine ⟨_, _, id, ?_,
    leQ5
    , ⟨i, h, f, by omega, by omega, rfl, by omega, hbs', rfl⟩⟩
   omega
 ·have hRi : i = R := by rw [← hbs, bsN_end h1]
  subst hRi
  refine AX.sR (rgAV [0, 1, 6, 7, 8, 15]) ?_
  refine AX.condF ?_
  refine AX.exit ?_
  refine nmZ ?_
  by_cases h2 : i < l.length
  ·have g1 := hg i h2
   have c1 := cn i h2
   have b3 := hb i h2
   have e1 : decide (i < l.length ∧ l.getD i 0 = v) = decide (l.getD i 0 = v) := by simp [h2]
   rw [e1]
   clear hg cl cn hR hb e1 hbs
   generalize l.getD i 0 = y at *
   by_cases h3 : y = v
   ·subst h3
    rw [show decide (y = y) = true from decide_eq_true rfl]
    refine AX.sR (rgWV [4, 5] (aI @hzl (aI @g1 oT)) (aI c1 oT)) ?_
    refine AX.ret ⟨.inl rfl, ?_⟩
    exact dnQ5
   ·rw [show decide (y = v) = false from decide_eq_false h3]
    refine AX.sR (rgWV [4, 5] (aI @hzl (aI @g1 (aI @h3 oT))) (aI c1 oT)) ?_
    refine AX.ret ⟨.inl rfl, ?_⟩
    exact dnQ5
  ·have e1 : decide (i < l.length ∧ l.getD i 0 = v) = false := decide_eq_false fun h => h2 h.1
   rw [e1]
   refine AX.sR (rgWV [4, 5] (aI @hzl oT) oT) ?_
   refine AX.ret ⟨.inl rfl, ?_⟩
   exact dnQ5
end Go.Proofs.YtogpimmcodaljaaGreat
