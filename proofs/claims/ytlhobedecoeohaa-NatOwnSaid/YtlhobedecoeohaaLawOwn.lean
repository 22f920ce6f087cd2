/- The law NatOwn (printed by mklawown.py). -/
import Derived.Test.YtlhobedecoeohaaNatO4
import Derived.Test.YtlhobedecoeohaaLaw1
import Derived.Test.YtlhobedecoeohaaGN
import Derived.Test.YtlhobedecoeohaaGW
set_option linter.unusedVariables false
set_option linter.unusedSimpArgs false
namespace Go.Proofs.Ytlhobedecoeohaa
open Go Go.Proofs.Ytlhobedecoeohaa.Lift
attribute [local irreducible] Lift.PCall Lift.HCall
theorem rep3 : List.replicate 3 V.nl = [.nl, .nl, .nl] := rfl
theorem rep4 : List.replicate 4 V.nl = [.nl, .nl, .nl, .nl] := rfl
theorem tkz (l : List V) : List.take 0 l = [] := rfl
theorem tkn (n : Nat) (a : V) (l : List V) : List.take (n + 1) (a :: l) = a :: List.take n l := rfl
theorem flatO (h o n E : Nat) : V.flat (.own h o n E) = true := rfl
attribute [go_sem] List.set_cons_zero List.set_cons_succ rep3 rep4 tkz tkn flatO
theorem lown_ok (a : List Nat) (hl : a.length < 2 ^ 40) : PCall Try.prog 44 [dg a] (dg a) [] := by
 refine PCall.of_ax Try.call44 Try.func44 rfl (by simp [Try.ntmps44]) fun O w => ?_
 simp only [Try.ntmps44, Try.results44, argFr]
 refine AX.sR (rgAV [0]) ?_
 refine AX.sR (rgAV [2]) ?_
 refine AX.ret ⟨.inl rfl, ?_⟩
 exact Done.own (l := a) rfl rfl (by simp) rfl
theorem lis_ok (b : List Nat) (hb : Dg b) (hl : b.length < 2 ^ 38) : PCall Try.prog 45 [nv (val b), dg b] (.b true) [] := by
 have hn := digits_length_val hb
 have cR := right_n (val b) (by omega)
 have cA := radd_ok b [] hb Dg_nil (by omega) (by decide)
 rw [show val ([] : List Nat) = 0 from rfl, Nat.add_zero] at cA
 have cA1 : PCall Try.prog 31 [dg b, .sl []] (nv (val b)) [] := cA
 have cS := same_true (digits (val b)) (by omega)
 clear cA
 generalize val b = m at *
 refine PCall.of_ax Try.call45 Try.func45 rfl (by simp [Try.ntmps45]) fun O w => ?_
 simp only [Try.ntmps45, Try.results45, argFr]
 refine AX.sR (rgAV [0, 1]) ?_
 refine AX.sR (rgCV [4] (aI cR (aI cA1 (aI cS oT)))) ?_
 refine AX.ret ⟨.inl rfl, ?_⟩
 exact Done.one rfl rfl rfl rfl
def xr (x : Nat) : Nat := (BitVec.ofInt 32 (x : Int) ^^^ BitVec.ofInt 32 1431655765).toNat
theorem xr_lt (x : Nat) : xr x < 4294967296 := BitVec.isLt _
theorem xr_eq (x : Nat) : xorI .u32 (x : Int) 1431655765 = ((xr x : Nat) : Int) := rfl
set_option maxRecDepth 20000 in
set_option maxHeartbeats 16000000 in
theorem natOwn_core (a b : List Nat) (ha : a.length < 2 ^ 40) (hb : b.length < 2 ^ 40) (m : Nat) (A0 M0 G0 Q0 R0 D0 P0 : List Nat) (nA nM nG nQ nR nD nP : Nat) (e1 e2 : Int)
  (kA : nA ≤ A0.length) (kM : nM ≤ M0.length) (kG : nG ≤ G0.length) (kQ : nQ ≤ Q0.length) (kR : nR ≤ R0.length) (kD : nD ≤ D0.length) (kP : nP ≤ P0.length) (LA : A0.length < 2 ^ 40) (LM : M0.length < 2 ^ 40) (LG : G0.length < 2 ^ 40) (LQ : Q0.length < 2 ^ 40) (LR : R0.length < 2 ^ 40) (LD : D0.length < 2 ^ 40) (LP : P0.length < 2 ^ 40)
  (cf : PCall Try.prog 15 [.i .i64 60, .sl [dg a, dg b]] (.b true) [])
  (cA : PCall Try.prog 30 [dg a, dg b] (.own 0 0 nA 1) [⟨50, A0.map u⟩]) (cM : PCall Try.prog 32 [dg a, dg b] (.own 0 0 nM 1) [⟨50, M0.map u⟩]) (cG : PCall Try.prog 36 [dg a, dg b] (.own 0 0 nG 1) [⟨50, G0.map u⟩])
  (cD : PCall Try.prog 34 [dg a, dg b] (.tup [.own 0 0 nQ 1, .own 1 0 nR 1, .i .i64 e1]) [⟨50, Q0.map u⟩, ⟨50, R0.map u⟩]) (cS : PCall Try.prog 28 [dg a, dg b] (.tup [.own 0 0 nD 1, .i .i64 e2]) [⟨50, D0.map u⟩]) (cP : PCall Try.prog 38 [dg a, .i .i64 1] (.tup [.own 0 0 nP 1, .i .i64 0]) [⟨50, P0.map u⟩])
  (c0 : PCall Try.prog 30 [dg a, .sl []] (nv m) []) (ci : PCall Try.prog 45 [nv m, dg a] (.b true) []) : PCall Try.prog 14 [dg a, dg b] (.b true) [] := by
 have caw := awake_ok
 have co1 := lown_ok a ha
 have co2 := lown_ok b hb
 have cs1 := same_true a ha
 have cs2 := same_true b hb
 refine PCall.of_ax Try.call14 Try.func14 rfl (by simp [Try.ntmps14]) fun O w => ?_
 simp only [Try.ntmps14, Try.results14, argFr]
 refine AX.sR (rgAV [0, 1]) ?_
 refine AX.seq ?_
 refine AX.sR (rgCV [0, 1, 21] (aI cf oT)) ?_
 refine AX.condF ?_
 refine AX.keepA [0, 1] ?_
 refine AX.skip ?_
 refine nmZ ?_
 refine AX.sR (rgCV [0, 1, 5, 6] (aI co1 (aI co2 oT))) ?_
 clear cf co1 co2
 refine AX.sR (rgCV [0, 1, 5, 6, 7] (aI cA (aI cM (aI cG oT)))) ?_
 refine AX.sR (rgCV [0, 1, 5, 6, 7, 8, 9] (aI cD oT)) ?_
 refine AX.sR (rgCV [0, 1, 5, 6, 7, 8, 9, 11] (aI cS oT)) ?_
 refine AX.sR (rgCV [0, 1, 5, 6, 7, 8, 9, 11, 13] (aI cP oT)) ?_
 refine AX.sR (rgAV [0, 1, 5, 6, 7] (h := by
   apply RunO.op rfl
   ·rfl
   ·(simp only [opsOf, valsOf, valOf, lkp, ofConst, ofCell, Array.toList, Option.toList, List.map_cons, List.map_nil, List.cons_append, List.nil_append, List.append_nil, Nat.reduceEqDiff, Nat.reducePow, Nat.reduceLT, Nat.reduceLeDiff, reduceIte, if_true, if_false, IntKind.min, IntKind.max, IntKind.bits, IntKind.signed, Int.reduceLE, Int.reduceNeg, Int.reducePow, Int.reduceSub, and_self, Bool.false_eq_true, Nat.reduceSub]; rfl)
   iterate 2 (· (simp (disch := omega) only [go_sem, i64_of, u32_of, u64_of, ]; rfl))
   ·(simp only [pb, Nat.reduceLT, Nat.reduceAdd, reduceIte]; rfl)
   apply RunO.op rfl
   ·rfl
   ·(simp only [opsOf, valsOf, valOf, lkp, ofConst, ofCell, Array.toList, Option.toList, List.map_cons, List.map_nil, List.cons_append, List.nil_append, List.append_nil, Nat.reduceEqDiff, Nat.reducePow, Nat.reduceLT, Nat.reduceLeDiff, reduceIte, if_true, if_false, IntKind.min, IntKind.max, IntKind.bits, IntKind.signed, Int.reduceLE, Int.reduceNeg, Int.reducePow, Int.reduceSub, and_self, Bool.false_eq_true, Nat.reduceSub]; rfl)
   iterate 2 (· (simp (disch := omega) only [go_sem, i64_of, u32_of, u64_of, ]; rfl))
   ·(simp only [pb, Nat.reduceLT, Nat.reduceAdd, reduceIte]; rfl)
   apply RunO.op rfl
   ·rfl
   ·(simp only [opsOf, valsOf, valOf, lkp, ofConst, ofCell, Array.toList, Option.toList, List.map_cons, List.map_nil, List.cons_append, List.nil_append, List.append_nil, Nat.reduceEqDiff, Nat.reducePow, Nat.reduceLT, Nat.reduceLeDiff, reduceIte, if_true, if_false, IntKind.min, IntKind.max, IntKind.bits, IntKind.signed, Int.reduceLE, Int.reduceNeg, Int.reducePow, Int.reduceSub, and_self, Bool.false_eq_true, Nat.reduceSub]; rfl)
   iterate 2 (· (simp (disch := omega) only [go_sem, i64_of, u32_of, u64_of, ]; rfl))
   ·(simp only [pb, Nat.reduceLT, Nat.reduceAdd, reduceIte]; rfl)
   apply RunO.op rfl
   ·rfl
   ·(simp only [opsOf, valsOf, valOf, lkp, ofConst, ofCell, Array.toList, Option.toList, List.map_cons, List.map_nil, List.cons_append, List.nil_append, List.append_nil, Nat.reduceEqDiff, Nat.reducePow, Nat.reduceLT, Nat.reduceLeDiff, reduceIte, if_true, if_false, IntKind.min, IntKind.max, IntKind.bits, IntKind.signed, Int.reduceLE, Int.reduceNeg, Int.reducePow, Int.reduceSub, and_self, Bool.false_eq_true, Nat.reduceSub]; rfl)
   iterate 2 (· (simp (disch := omega) only [go_sem, i64_of, u32_of, u64_of, ]; rfl))
   ·(simp only [pb, Nat.reduceLT, Nat.reduceAdd, reduceIte]; rfl)
   apply RunO.op rfl
   ·rfl
   ·(simp only [opsOf, valsOf, valOf, lkp, ofConst, ofCell, Array.toList, Option.toList, List.map_cons, List.map_nil, List.cons_append, List.nil_append, List.append_nil, Nat.reduceEqDiff, Nat.reducePow, Nat.reduceLT, Nat.reduceLeDiff, reduceIte, if_true, if_false, IntKind.min, IntKind.max, IntKind.bits, IntKind.signed, Int.reduceLE, Int.reduceNeg, Int.reducePow, Int.reduceSub, and_self, Bool.false_eq_true, Nat.reduceSub]; rfl)
   iterate 2 (· (simp (disch := omega) only [go_sem, i64_of, u32_of, u64_of, ]; rfl))
   ·(simp only [pb, Nat.reduceLT, Nat.reduceAdd, reduceIte]; rfl)
   apply RunO.op rfl
   ·rfl
   ·(simp only [opsOf, valsOf, valOf, lkp, ofConst, ofCell, Array.toList, Option.toList, List.map_cons, List.map_nil, List.cons_append, List.nil_append, List.append_nil, Nat.reduceEqDiff, Nat.reducePow, Nat.reduceLT, Nat.reduceLeDiff, reduceIte, if_true, if_false, IntKind.min, IntKind.max, IntKind.bits, IntKind.signed, Int.reduceLE, Int.reduceNeg, Int.reducePow, Int.reduceSub, and_self, Bool.false_eq_true, Nat.reduceSub]; rfl)
   iterate 2 (· (simp (disch := omega) only [go_sem, i64_of, u32_of, u64_of, ]; rfl))
   ·(simp only [pb, Nat.reduceLT, Nat.reduceAdd, reduceIte]; rfl)
   apply RunO.op rfl
   ·rfl
   ·(simp only [opsOf, valsOf, valOf, lkp, ofConst, ofCell, Array.toList, Option.toList, List.map_cons, List.map_nil, List.cons_append, List.nil_append, List.append_nil, Nat.reduceEqDiff, Nat.reducePow, Nat.reduceLT, Nat.reduceLeDiff, reduceIte, if_true, if_false, IntKind.min, IntKind.max, IntKind.bits, IntKind.signed, Int.reduceLE, Int.reduceNeg, Int.reducePow, Int.reduceSub, and_self, Bool.false_eq_true, Nat.reduceSub]; rfl)
   ·(simp (disch := omega) only [go_sem, i64_of, u32_of, u64_of, ]; rfl)
   ·rfl
   ·(simp only [pb, Nat.reduceLT, Nat.reduceAdd, reduceIte]; rfl)
   apply RunO.op rfl
   ·rfl
   ·(simp only [opsOf, valsOf, valOf, lkp, ofConst, ofCell, Array.toList, Option.toList, List.map_cons, List.map_nil, List.cons_append, List.nil_append, List.append_nil, Nat.reduceEqDiff, Nat.reducePow, Nat.reduceLT, Nat.reduceLeDiff, reduceIte, if_true, if_false, IntKind.min, IntKind.max, IntKind.bits, IntKind.signed, Int.reduceLE, Int.reduceNeg, Int.reducePow, Int.reduceSub, and_self, Bool.false_eq_true, Nat.reduceSub]; rfl)
   iterate 2 (· (simp (disch := omega) only [go_sem, i64_of, u32_of, u64_of, ]; rfl))
   ·(simp only [pb, Nat.reduceLT, Nat.reduceAdd, reduceIte]; rfl)
   exact RunO.nil)) ?_
 clear cA cM cG cD cS cP
 refine AX.seq ?_
 refine AX.sR (rgAV [0, 1, 5, 6, 7, 15]) ?_
 refine AX.weaken id (st' := ⟨[(15, .i .i64 (0 : Nat)), (7, .own 10 0 7 1), (6, dg b), (5, dg a), (1, dg b), (0, dg a)], [(10, ⟨23, [.own 1 0 nA 1, .own 2 0 nM 1, .own 3 0 nG 1, .own 5 0 nQ 1, .own 6 0 nR 1, .own 7 0 nD 1, .own 8 0 nP 1]⟩), (8, ⟨50, P0.map u⟩), (7, ⟨50, D0.map u⟩), (6, ⟨50, R0.map u⟩), (5, ⟨50, Q0.map u⟩), (3, ⟨50, G0.map u⟩), (2, ⟨50, M0.map u⟩), (1, ⟨50, A0.map u⟩)], 11⟩)
  leQ0
  ?_
 refine AX.block ?_
 refine AX.loop (fun N st => ∃ (i : Nat) (A M G Q R D P : List Nat), i ≤ 7 ∧ N = 7 - i ∧ (nA ≤ A.length ∧ nM ≤ M.length ∧ nG ≤ G.length ∧ nQ ≤ Q.length ∧ nR ≤ R.length ∧ nD ≤ D.length ∧ nP ≤ P.length) ∧ (A.length < 2 ^ 40 ∧ M.length < 2 ^ 40 ∧ G.length < 2 ^ 40 ∧ Q.length < 2 ^ 40 ∧ R.length < 2 ^ 40 ∧ D.length < 2 ^ 40 ∧ P.length < 2 ^ 40) ∧ st = ⟨[(15, .i .i64 i), (7, .own 10 0 7 1), (6, dg b), (5, dg a), (1, dg b), (0, dg a)], [(10, ⟨23, [.own 1 0 nA 1, .own 2 0 nM 1, .own 3 0 nG 1, .own 5 0 nQ 1, .own 6 0 nR 1, .own 7 0 nD 1, .own 8 0 nP 1]⟩), (8, ⟨50, P.map u⟩), (7, ⟨50, D.map u⟩), (6, ⟨50, R.map u⟩), (5, ⟨50, Q.map u⟩), (3, ⟨50, G.map u⟩), (2, ⟨50, M.map u⟩), (1, ⟨50, A.map u⟩)], 11⟩) 7 ⟨0, A0, M0, G0, Q0, R0, D0, P0, by omega, rfl, ⟨kA, kM, kG, kQ, kR, kD, kP⟩, ⟨LA, LM, LG, LQ, LR, LD, LP⟩, rfl⟩ ?_
 clear kA kM kG kQ kR kD kP LA LM LG LQ LR LD LP
 clear A0 M0 G0 Q0 R0 D0 P0
 rintro N st ⟨i, A, M, G, Q, R, D, P, hi, rfl, ⟨kA, kM, kG, kQ, kR, kD, kP⟩, ⟨LA, LM, LG, LQ, LR, LD, LP⟩, rfl⟩
 match i, hi with
 | 0, _ =>
  refine AX.seq ?_
  refine AX.sR (rgAV [0, 1, 5, 6, 7, 15, 65]) ?_
  refine AX.condT ?_
  refine AX.keepA [0, 1, 5, 6, 7, 15] ?_
  refine AX.skip ?_
  refine nmZ ?_
  refine AX.seq ?_
  refine AX.block ?_
  refine AX.sR (rgAV [0, 1, 5, 6, 7, 15, 16]) ?_
  refine AX.weaken id (st' := ⟨[(16, .i .i64 (0 : Nat)), (15, .i .i64 (0 : Nat)), (7, .own 10 0 7 1), (6, dg b), (5, dg a), (1, dg b), (0, dg a)], [(10, ⟨23, [.own 1 0 nA 1, .own 2 0 nM 1, .own 3 0 nG 1, .own 5 0 nQ 1, .own 6 0 nR 1, .own 7 0 nD 1, .own 8 0 nP 1]⟩), (8, ⟨50, P.map u⟩), (7, ⟨50, D.map u⟩), (6, ⟨50, R.map u⟩), (5, ⟨50, Q.map u⟩), (3, ⟨50, G.map u⟩), (2, ⟨50, M.map u⟩), (1, ⟨50, A.map u⟩)], 11⟩)
   leQ0
   ?_
  refine AX.block ?_
  refine AX.loop (fun N st => ∃ (k : Nat) (Z : List Nat), k ≤ nA ∧ N = nA - k ∧ nA ≤ Z.length ∧ Z.length < 2 ^ 40 ∧ st = ⟨[(16, .i .i64 k), (15, .i .i64 (0 : Nat)), (7, .own 10 0 7 1), (6, dg b), (5, dg a), (1, dg b), (0, dg a)], [(10, ⟨23, [.own 1 0 nA 1, .own 2 0 nM 1, .own 3 0 nG 1, .own 5 0 nQ 1, .own 6 0 nR 1, .own 7 0 nD 1, .own 8 0 nP 1]⟩), (8, ⟨50, P.map u⟩), (7, ⟨50, D.map u⟩), (6, ⟨50, R.map u⟩), (5, ⟨50, Q.map u⟩), (3, ⟨50, G.map u⟩), (2, ⟨50, M.map u⟩), (1, ⟨50, Z.map u⟩)], 11⟩) nA ⟨0, A, Nat.zero_le _, rfl, kA, LA, rfl⟩ ?_
  rintro N st ⟨k, Z, hk, rfl, hZ, hZL, rfl⟩
  refine AX.seq ?_
  by_cases h3 : k < nA
  ·have hx := xr_eq (Z.getD k 0)
   have hxl := xr_lt (Z.getD k 0)
   generalize hzz : Z.getD k 0 = z at *
   generalize xr z = z' at *
   refine AX.sR (rgAV [0, 1, 5, 6, 7, 15, 16, 74]) ?_
   refine AX.condT ?_
   refine AX.keepA [0, 1, 5, 6, 7, 15, 16] ?_
   refine AX.skip ?_
   refine nmZ ?_
   refine AX.seq ?_
   refine AX.block ?_
   refine AX.rD (rgDWV [0, 1, 5, 6, 7, 15, 16] (aI @hzz (aI @hx oT)) oT) ?_
   refine nmZ ?_
   refine AX.rR (rgWV [0, 1, 5, 6, 7, 15, 16] (aI @lit_add oT) oT) ?_
   refine nmZ ?_
   refine ⟨_, _, id, ?_,
    leQ0
    , ⟨k + 1, Z.set k z', by omega, rfl, by rw [List.length_set]; exact hZ, by rw [List.length_set]; exact hZL, rfl⟩⟩
   omega
  ·refine AX.sR (rgAV [0, 1, 5, 6, 7, 15, 16, 74]) ?_
   refine AX.condF ?_
   refine AX.keepA [0, 1, 5, 6, 7, 15] ?_
   refine AX.exit ?_
   refine nmZ ?_
   refine AX.rR (rgWV [0, 1, 5, 6, 7, 15] (aI @lit_add oT) oT) ?_
   refine nmZ ?_
   refine ⟨_, _, id, ?_,
    leQ0
    , ⟨1, Z, M, G, Q, R, D, P, by omega, rfl, ⟨hZ, kM, kG, kQ, kR, kD, kP⟩, ⟨hZL, LM, LG, LQ, LR, LD, LP⟩, rfl⟩⟩
   omega
 | 1, _ =>
  refine AX.seq ?_
  refine AX.sR (rgAV [0, 1, 5, 6, 7, 15, 65]) ?_
  refine AX.condT ?_
  refine AX.keepA [0, 1, 5, 6, 7, 15] ?_
  refine AX.skip ?_
  refine nmZ ?_
  refine AX.seq ?_
  refine AX.block ?_
  refine AX.sR (rgAV [0, 1, 5, 6, 7, 15, 16]) ?_
  refine AX.weaken id (st' := ⟨[(16, .i .i64 (0 : Nat)), (15, .i .i64 (1 : Nat)), (7, .own 10 0 7 1), (6, dg b), (5, dg a), (1, dg b), (0, dg a)], [(10, ⟨23, [.own 1 0 nA 1, .own 2 0 nM 1, .own 3 0 nG 1, .own 5 0 nQ 1, .own 6 0 nR 1, .own 7 0 nD 1, .own 8 0 nP 1]⟩), (8, ⟨50, P.map u⟩), (7, ⟨50, D.map u⟩), (6, ⟨50, R.map u⟩), (5, ⟨50, Q.map u⟩), (3, ⟨50, G.map u⟩), (2, ⟨50, M.map u⟩), (1, ⟨50, A.map u⟩)], 11⟩)
   leQ0
   ?_
  refine AX.block ?_
  refine AX.loop (fun N st => ∃ (k : Nat) (Z : List Nat), k ≤ nM ∧ N = nM - k ∧ nM ≤ Z.length ∧ Z.length < 2 ^ 40 ∧ st = ⟨[(16, .i .i64 k), (15, .i .i64 (1 : Nat)), (7, .own 10 0 7 1), (6, dg b), (5, dg a), (1, dg b), (0, dg a)], [(10, ⟨23, [.own 1 0 nA 1, .own 2 0 nM 1, .own 3 0 nG 1, .own 5 0 nQ 1, .own 6 0 nR 1, .own 7 0 nD 1, .own 8 0 nP 1]⟩), (8, ⟨50, P.map u⟩), (7, ⟨50, D.map u⟩), (6, ⟨50, R.map u⟩), (5, ⟨50, Q.map u⟩), (3, ⟨50, G.map u⟩), (2, ⟨50, Z.map u⟩), (1, ⟨50, A.map u⟩)], 11⟩) nM ⟨0, M, Nat.zero_le _, rfl, kM, LM, rfl⟩ ?_
  rintro N st ⟨k, Z, hk, rfl, hZ, hZL, rfl⟩
  refine AX.seq ?_
  by_cases h3 : k < nM
  ·have hx := xr_eq (Z.getD k 0)
   have hxl := xr_lt (Z.getD k 0)
   generalize hzz : Z.getD k 0 = z at *
   generalize xr z = z' at *
   refine AX.sR (rgAV [0, 1, 5, 6, 7, 15, 16, 74]) ?_
   refine AX.condT ?_
   refine AX.keepA [0, 1, 5, 6, 7, 15, 16] ?_
   refine AX.skip ?_
   refine nmZ ?_
   refine AX.seq ?_
   refine AX.block ?_
   refine AX.rD (rgDWV [0, 1, 5, 6, 7, 15, 16] (aI @hzz (aI @hx oT)) oT) ?_
   refine nmZ ?_
   refine AX.rR (rgWV [0, 1, 5, 6, 7, 15, 16] (aI @lit_add oT) oT) ?_
   refine nmZ ?_
   refine ⟨_, _, id, ?_,
    leQ0
    , ⟨k + 1, Z.set k z', by omega, rfl, by rw [List.length_set]; exact hZ, by rw [List.length_set]; exact hZL, rfl⟩⟩
   omega
  ·refine AX.sR (rgAV [0, 1, 5, 6, 7, 15, 16, 74]) ?_
   refine AX.condF ?_
   refine AX.keepA [0, 1, 5, 6, 7, 15] ?_
   refine AX.exit ?_
   refine nmZ ?_
   refine AX.rR (rgWV [0, 1, 5, 6, 7, 15] (aI @lit_add oT) oT) ?_
   refine nmZ ?_
   refine ⟨_, _, id, ?_,
    leQ0
    , ⟨2, A, Z, G, Q, R, D, P, by omega, rfl, ⟨kA, hZ, kG, kQ, kR, kD, kP⟩, ⟨LA, hZL, LG, LQ, LR, LD, LP⟩, rfl⟩⟩
   omega
 | 2, _ =>
  refine AX.seq ?_
  refine AX.sR (rgAV [0, 1, 5, 6, 7, 15, 65]) ?_
  refine AX.condT ?_
  refine AX.keepA [0, 1, 5, 6, 7, 15] ?_
  refine AX.skip ?_
  refine nmZ ?_
  refine AX.seq ?_
  refine AX.block ?_
  refine AX.sR (rgAV [0, 1, 5, 6, 7, 15, 16]) ?_
  refine AX.weaken id (st' := ⟨[(16, .i .i64 (0 : Nat)), (15, .i .i64 (2 : Nat)), (7, .own 10 0 7 1), (6, dg b), (5, dg a), (1, dg b), (0, dg a)], [(10, ⟨23, [.own 1 0 nA 1, .own 2 0 nM 1, .own 3 0 nG 1, .own 5 0 nQ 1, .own 6 0 nR 1, .own 7 0 nD 1, .own 8 0 nP 1]⟩), (8, ⟨50, P.map u⟩), (7, ⟨50, D.map u⟩), (6, ⟨50, R.map u⟩), (5, ⟨50, Q.map u⟩), (3, ⟨50, G.map u⟩), (2, ⟨50, M.map u⟩), (1, ⟨50, A.map u⟩)], 11⟩)
   leQ0
   ?_
  refine AX.block ?_
  refine AX.loop (fun N st => ∃ (k : Nat) (Z : List Nat), k ≤ nG ∧ N = nG - k ∧ nG ≤ Z.length ∧ Z.length < 2 ^ 40 ∧ st = ⟨[(16, .i .i64 k), (15, .i .i64 (2 : Nat)), (7, .own 10 0 7 1), (6, dg b), (5, dg a), (1, dg b), (0, dg a)], [(10, ⟨23, [.own 1 0 nA 1, .own 2 0 nM 1, .own 3 0 nG 1, .own 5 0 nQ 1, .own 6 0 nR 1, .own 7 0 nD 1, .own 8 0 nP 1]⟩), (8, ⟨50, P.map u⟩), (7, ⟨50, D.map u⟩), (6, ⟨50, R.map u⟩), (5, ⟨50, Q.map u⟩), (3, ⟨50, Z.map u⟩), (2, ⟨50, M.map u⟩), (1, ⟨50, A.map u⟩)], 11⟩) nG ⟨0, G, Nat.zero_le _, rfl, kG, LG, rfl⟩ ?_
  rintro N st ⟨k, Z, hk, rfl, hZ, hZL, rfl⟩
  refine AX.seq ?_
  by_cases h3 : k < nG
  ·have hx := xr_eq (Z.getD k 0)
   have hxl := xr_lt (Z.getD k 0)
   generalize hzz : Z.getD k 0 = z at *
   generalize xr z = z' at *
   refine AX.sR (rgAV [0, 1, 5, 6, 7, 15, 16, 74]) ?_
   refine AX.condT ?_
   refine AX.keepA [0, 1, 5, 6, 7, 15, 16] ?_
   refine AX.skip ?_
   refine nmZ ?_
   refine AX.seq ?_
   refine AX.block ?_
   refine AX.rD (rgDWV [0, 1, 5, 6, 7, 15, 16] (aI @hzz (aI @hx oT)) oT) ?_
   refine nmZ ?_
   refine AX.rR (rgWV [0, 1, 5, 6, 7, 15, 16] (aI @lit_add oT) oT) ?_
   refine nmZ ?_
   refine ⟨_, _, id, ?_,
    leQ0
    , ⟨k + 1, Z.set k z', by omega, rfl, by rw [List.length_set]; exact hZ, by rw [List.length_set]; exact hZL, rfl⟩⟩
   omega
  ·refine AX.sR (rgAV [0, 1, 5, 6, 7, 15, 16, 74]) ?_
   refine AX.condF ?_
   refine AX.keepA [0, 1, 5, 6, 7, 15] ?_
   refine AX.exit ?_
   refine nmZ ?_
   refine AX.rR (rgWV [0, 1, 5, 6, 7, 15] (aI @lit_add oT) oT) ?_
   refine nmZ ?_
   refine ⟨_, _, id, ?_,
    leQ0
    , ⟨3, A, M, Z, Q, R, D, P, by omega, rfl, ⟨kA, kM, hZ, kQ, kR, kD, kP⟩, ⟨LA, LM, hZL, LQ, LR, LD, LP⟩, rfl⟩⟩
   omega
 | 3, _ =>
  refine AX.seq ?_
  refine AX.sR (rgAV [0, 1, 5, 6, 7, 15, 65]) ?_
  refine AX.condT ?_
  refine AX.keepA [0, 1, 5, 6, 7, 15] ?_
  refine AX.skip ?_
  refine nmZ ?_
  refine AX.seq ?_
  refine AX.block ?_
  refine AX.sR (rgAV [0, 1, 5, 6, 7, 15, 16]) ?_
  refine AX.weaken id (st' := ⟨[(16, .i .i64 (0 : Nat)), (15, .i .i64 (3 : Nat)), (7, .own 10 0 7 1), (6, dg b), (5, dg a), (1, dg b), (0, dg a)], [(10, ⟨23, [.own 1 0 nA 1, .own 2 0 nM 1, .own 3 0 nG 1, .own 5 0 nQ 1, .own 6 0 nR 1, .own 7 0 nD 1, .own 8 0 nP 1]⟩), (8, ⟨50, P.map u⟩), (7, ⟨50, D.map u⟩), (6, ⟨50, R.map u⟩), (5, ⟨50, Q.map u⟩), (3, ⟨50, G.map u⟩), (2, ⟨50, M.map u⟩), (1, ⟨50, A.map u⟩)], 11⟩)
   leQ0
   ?_
  refine AX.block ?_
  refine AX.loop (fun N st => ∃ (k : Nat) (Z : List Nat), k ≤ nQ ∧ N = nQ - k ∧ nQ ≤ Z.length ∧ Z.length < 2 ^ 40 ∧ st = ⟨[(16, .i .i64 k), (15, .i .i64 (3 : Nat)), (7, .own 10 0 7 1), (6, dg b), (5, dg a), (1, dg b), (0, dg a)], [(10, ⟨23, [.own 1 0 nA 1, .own 2 0 nM 1, .own 3 0 nG 1, .own 5 0 nQ 1, .own 6 0 nR 1, .own 7 0 nD 1, .own 8 0 nP 1]⟩), (8, ⟨50, P.map u⟩), (7, ⟨50, D.map u⟩), (6, ⟨50, R.map u⟩), (5, ⟨50, Z.map u⟩), (3, ⟨50, G.map u⟩), (2, ⟨50, M.map u⟩), (1, ⟨50, A.map u⟩)], 11⟩) nQ ⟨0, Q, Nat.zero_le _, rfl, kQ, LQ, rfl⟩ ?_
  rintro N st ⟨k, Z, hk, rfl, hZ, hZL, rfl⟩
  refine AX.seq ?_
  by_cases h3 : k < nQ
  ·have hx := xr_eq (Z.getD k 0)
   have hxl := xr_lt (Z.getD k 0)
   generalize hzz : Z.getD k 0 = z at *
   generalize xr z = z' at *
   refine AX.sR (rgAV [0, 1, 5, 6, 7, 15, 16, 74]) ?_
   refine AX.condT ?_
   refine AX.keepA [0, 1, 5, 6, 7, 15, 16] ?_
   refine AX.skip ?_
   refine nmZ ?_
   refine AX.seq ?_
   refine AX.block ?_
   refine AX.rD (rgDWV [0, 1, 5, 6, 7, 15, 16] (aI @hzz (aI @hx oT)) oT) ?_
   refine nmZ ?_
   refine AX.rR (rgWV [0, 1, 5, 6, 7, 15, 16] (aI @lit_add oT) oT) ?_
   refine nmZ ?_
   refine ⟨_, _, id, ?_,
    leQ0
    , ⟨k + 1, Z.set k z', by omega, rfl, by rw [List.length_set]; exact hZ, by rw [List.length_set]; exact hZL, rfl⟩⟩
   omega
  ·refine AX.sR (rgAV [0, 1, 5, 6, 7, 15, 16, 74]) ?_
   refine AX.condF ?_
   refine AX.keepA [0, 1, 5, 6, 7, 15] ?_
   refine AX.exit ?_
   refine nmZ ?_
   refine AX.rR (rgWV [0, 1, 5, 6, 7, 15] (aI @lit_add oT) oT) ?_
   refine nmZ ?_
   refine ⟨_, _, id, ?_,
    leQ0
    , ⟨4, A, M, G, Z, R, D, P, by omega, rfl, ⟨kA, kM, kG, hZ, kR, kD, kP⟩, ⟨LA, LM, LG, hZL, LR, LD, LP⟩, rfl⟩⟩
   omega
 | 4, _ =>
  refine AX.seq ?_
  refine AX.sR (rgAV [0, 1, 5, 6, 7, 15, 65]) ?_
  refine AX.condT ?_
  refine AX.keepA [0, 1, 5, 6, 7, 15] ?_
  refine AX.skip ?_
  refine nmZ ?_
  refine AX.seq ?_
  refine AX.block ?_
  refine AX.sR (rgAV [0, 1, 5, 6, 7, 15, 16]) ?_
  refine AX.weaken id (st' := ⟨[(16, .i .i64 (0 : Nat)), (15, .i .i64 (4 : Nat)), (7, .own 10 0 7 1), (6, dg b), (5, dg a), (1, dg b), (0, dg a)], [(10, ⟨23, [.own 1 0 nA 1, .own 2 0 nM 1, .own 3 0 nG 1, .own 5 0 nQ 1, .own 6 0 nR 1, .own 7 0 nD 1, .own 8 0 nP 1]⟩), (8, ⟨50, P.map u⟩), (7, ⟨50, D.map u⟩), (6, ⟨50, R.map u⟩), (5, ⟨50, Q.map u⟩), (3, ⟨50, G.map u⟩), (2, ⟨50, M.map u⟩), (1, ⟨50, A.map u⟩)], 11⟩)
   leQ0
   ?_
  refine AX.block ?_
  refine AX.loop (fun N st => ∃ (k : Nat) (Z : List Nat), k ≤ nR ∧ N = nR - k ∧ nR ≤ Z.length ∧ Z.length < 2 ^ 40 ∧ st = ⟨[(16, .i .i64 k), (15, .i .i64 (4 : Nat)), (7, .own 10 0 7 1), (6, dg b), (5, dg a), (1, dg b), (0, dg a)], [(10, ⟨23, [.own 1 0 nA 1, .own 2 0 nM 1, .own 3 0 nG 1, .own 5 0 nQ 1, .own 6 0 nR 1, .own 7 0 nD 1, .own 8 0 nP 1]⟩), (8, ⟨50, P.map u⟩), (7, ⟨50, D.map u⟩), (6, ⟨50, Z.map u⟩), (5, ⟨50, Q.map u⟩), (3, ⟨50, G.map u⟩), (2, ⟨50, M.map u⟩), (1, ⟨50, A.map u⟩)], 11⟩) nR ⟨0, R, Nat.zero_le _, rfl, kR, LR, rfl⟩ ?_
  rintro N st ⟨k, Z, hk, rfl, hZ, hZL, rfl⟩
  refine AX.seq ?_
  by_cases h3 : k < nR
  ·have hx := xr_eq (Z.getD k 0)
   have hxl := xr_lt (Z.getD k 0)
   generalize hzz : Z.getD k 0 = z at *
   generalize xr z = z' at *
   refine AX.sR (rgAV [0, 1, 5, 6, 7, 15, 16, 74]) ?_
   refine AX.condT ?_
   refine AX.keepA [0, 1, 5, 6, 7, 15, 16] ?_
   refine AX.skip ?_
   refine nmZ ?_
   refine AX.seq ?_
   refine AX.block ?_
   refine AX.rD (rgDWV [0, 1, 5, 6, 7, 15, 16] (aI @hzz (aI @hx oT)) oT) ?_
   refine nmZ ?_
   refine AX.rR (rgWV [0, 1, 5, 6, 7, 15, 16] (aI @lit_add oT) oT) ?_
   refine nmZ ?_
   refine ⟨_, _, id, ?_,
    leQ0
    , ⟨k + 1, Z.set k z', by omega, rfl, by rw [List.length_set]; exact hZ, by rw [List.length_set]; exact hZL, rfl⟩⟩
   omega
  ·refine AX.sR (rgAV [0, 1, 5, 6, 7, 15, 16, 74]) ?_
   refine AX.condF ?_
   refine AX.keepA [0, 1, 5, 6, 7, 15] ?_
   refine AX.exit ?_
   refine nmZ ?_
   refine AX.rR (rgWV [0, 1, 5, 6, 7, 15] (aI @lit_add oT) oT) ?_
   refine nmZ ?_
   refine ⟨_, _, id, ?_,
    leQ0
    , ⟨5, A, M, G, Q, Z, D, P, by omega, rfl, ⟨kA, kM, kG, kQ, hZ, kD, kP⟩, ⟨LA, LM, LG, LQ, hZL, LD, LP⟩, rfl⟩⟩
   omega
 | 5, _ =>
  refine AX.seq ?_
  refine AX.sR (rgAV [0, 1, 5, 6, 7, 15, 65]) ?_
  refine AX.condT ?_
  refine AX.keepA [0, 1, 5, 6, 7, 15] ?_
  refine AX.skip ?_
  refine nmZ ?_
  refine AX.seq ?_
  refine AX.block ?_
  refine AX.sR (rgAV [0, 1, 5, 6, 7, 15, 16]) ?_
  refine AX.weaken id (st' := ⟨[(16, .i .i64 (0 : Nat)), (15, .i .i64 (5 : Nat)), (7, .own 10 0 7 1), (6, dg b), (5, dg a), (1, dg b), (0, dg a)], [(10, ⟨23, [.own 1 0 nA 1, .own 2 0 nM 1, .own 3 0 nG 1, .own 5 0 nQ 1, .own 6 0 nR 1, .own 7 0 nD 1, .own 8 0 nP 1]⟩), (8, ⟨50, P.map u⟩), (7, ⟨50, D.map u⟩), (6, ⟨50, R.map u⟩), (5, ⟨50, Q.map u⟩), (3, ⟨50, G.map u⟩), (2, ⟨50, M.map u⟩), (1, ⟨50, A.map u⟩)], 11⟩)
   leQ0
   ?_
  refine AX.block ?_
  refine AX.loop (fun N st => ∃ (k : Nat) (Z : List Nat), k ≤ nD ∧ N = nD - k ∧ nD ≤ Z.length ∧ Z.length < 2 ^ 40 ∧ st = ⟨[(16, .i .i64 k), (15, .i .i64 (5 : Nat)), (7, .own 10 0 7 1), (6, dg b), (5, dg a), (1, dg b), (0, dg a)], [(10, ⟨23, [.own 1 0 nA 1, .own 2 0 nM 1, .own 3 0 nG 1, .own 5 0 nQ 1, .own 6 0 nR 1, .own 7 0 nD 1, .own 8 0 nP 1]⟩), (8, ⟨50, P.map u⟩), (7, ⟨50, Z.map u⟩), (6, ⟨50, R.map u⟩), (5, ⟨50, Q.map u⟩), (3, ⟨50, G.map u⟩), (2, ⟨50, M.map u⟩), (1, ⟨50, A.map u⟩)], 11⟩) nD ⟨0, D, Nat.zero_le _, rfl, kD, LD, rfl⟩ ?_
  rintro N st ⟨k, Z, hk, rfl, hZ, hZL, rfl⟩
  refine AX.seq ?_
  by_cases h3 : k < nD
  ·have hx := xr_eq (Z.getD k 0)
   have hxl := xr_lt (Z.getD k 0)
   generalize hzz : Z.getD k 0 = z at *
   generalize xr z = z' at *
   refine AX.sR (rgAV [0, 1, 5, 6, 7, 15, 16, 74]) ?_
   refine AX.condT ?_
   refine AX.keepA [0, 1, 5, 6, 7, 15, 16] ?_
   refine AX.skip ?_
   refine nmZ ?_
   refine AX.seq ?_
   refine AX.block ?_
   refine AX.rD (rgDWV [0, 1, 5, 6, 7, 15, 16] (aI @hzz (aI @hx oT)) oT) ?_
   refine nmZ ?_
   refine AX.rR (rgWV [0, 1, 5, 6, 7, 15, 16] (aI @lit_add oT) oT) ?_
   refine nmZ ?_
   refine ⟨_, _, id, ?_,
    leQ0
    , ⟨k + 1, Z.set k z', by omega, rfl, by rw [List.length_set]; exact hZ, by rw [List.length_set]; exact hZL, rfl⟩⟩
   omega
  ·refine AX.sR (rgAV [0, 1, 5, 6, 7, 15, 16, 74]) ?_
   refine AX.condF ?_
   refine AX.keepA [0, 1, 5, 6, 7, 15] ?_
   refine AX.exit ?_
   refine nmZ ?_
   refine AX.rR (rgWV [0, 1, 5, 6, 7, 15] (aI @lit_add oT) oT) ?_
   refine nmZ ?_
   refine ⟨_, _, id, ?_,
    leQ0
    , ⟨6, A, M, G, Q, R, Z, P, by omega, rfl, ⟨kA, kM, kG, kQ, kR, hZ, kP⟩, ⟨LA, LM, LG, LQ, LR, hZL, LP⟩, rfl⟩⟩
   omega
 | 6, _ =>
  refine AX.seq ?_
  refine AX.sR (rgAV [0, 1, 5, 6, 7, 15, 65]) ?_
  refine AX.condT ?_
  refine AX.keepA [0, 1, 5, 6, 7, 15] ?_
  refine AX.skip ?_
  refine nmZ ?_
  refine AX.seq ?_
  refine AX.block ?_
  refine AX.sR (rgAV [0, 1, 5, 6, 7, 15, 16]) ?_
  refine AX.weaken id (st' := ⟨[(16, .i .i64 (0 : Nat)), (15, .i .i64 (6 : Nat)), (7, .own 10 0 7 1), (6, dg b), (5, dg a), (1, dg b), (0, dg a)], [(10, ⟨23, [.own 1 0 nA 1, .own 2 0 nM 1, .own 3 0 nG 1, .own 5 0 nQ 1, .own 6 0 nR 1, .own 7 0 nD 1, .own 8 0 nP 1]⟩), (8, ⟨50, P.map u⟩), (7, ⟨50, D.map u⟩), (6, ⟨50, R.map u⟩), (5, ⟨50, Q.map u⟩), (3, ⟨50, G.map u⟩), (2, ⟨50, M.map u⟩), (1, ⟨50, A.map u⟩)], 11⟩)
   leQ0
   ?_
  refine AX.block ?_
  refine AX.loop (fun N st => ∃ (k : Nat) (Z : List Nat), k ≤ nP ∧ N = nP - k ∧ nP ≤ Z.length ∧ Z.length < 2 ^ 40 ∧ st = ⟨[(16, .i .i64 k), (15, .i .i64 (6 : Nat)), (7, .own 10 0 7 1), (6, dg b), (5, dg a), (1, dg b), (0, dg a)], [(10, ⟨23, [.own 1 0 nA 1, .own 2 0 nM 1, .own 3 0 nG 1, .own 5 0 nQ 1, .own 6 0 nR 1, .own 7 0 nD 1, .own 8 0 nP 1]⟩), (8, ⟨50, Z.map u⟩), (7, ⟨50, D.map u⟩), (6, ⟨50, R.map u⟩), (5, ⟨50, Q.map u⟩), (3, ⟨50, G.map u⟩), (2, ⟨50, M.map u⟩), (1, ⟨50, A.map u⟩)], 11⟩) nP ⟨0, P, Nat.zero_le _, rfl, kP, LP, rfl⟩ ?_
  rintro N st ⟨k, Z, hk, rfl, hZ, hZL, rfl⟩
  refine AX.seq ?_
  by_cases h3 : k < nP
  ·have hx := xr_eq (Z.getD k 0)
   have hxl := xr_lt (Z.getD k 0)
   generalize hzz : Z.getD k 0 = z at *
   generalize xr z = z' at *
   refine AX.sR (rgAV [0, 1, 5, 6, 7, 15, 16, 74]) ?_
   refine AX.condT ?_
   refine AX.keepA [0, 1, 5, 6, 7, 15, 16] ?_
   refine AX.skip ?_
   refine nmZ ?_
   refine AX.seq ?_
   refine AX.block ?_
   refine AX.rD (rgDWV [0, 1, 5, 6, 7, 15, 16] (aI @hzz (aI @hx oT)) oT) ?_
   refine nmZ ?_
   refine AX.rR (rgWV [0, 1, 5, 6, 7, 15, 16] (aI @lit_add oT) oT) ?_
   refine nmZ ?_
   refine ⟨_, _, id, ?_,
    leQ0
    , ⟨k + 1, Z.set k z', by omega, rfl, by rw [List.length_set]; exact hZ, by rw [List.length_set]; exact hZL, rfl⟩⟩
   omega
  ·refine AX.sR (rgAV [0, 1, 5, 6, 7, 15, 16, 74]) ?_
   refine AX.condF ?_
   refine AX.keepA [0, 1, 5, 6, 7, 15] ?_
   refine AX.exit ?_
   refine nmZ ?_
   refine AX.rR (rgWV [0, 1, 5, 6, 7, 15] (aI @lit_add oT) oT) ?_
   refine nmZ ?_
   refine ⟨_, _, id, ?_,
    leQ0
    , ⟨7, A, M, G, Q, R, D, Z, by omega, rfl, ⟨kA, kM, kG, kQ, kR, kD, hZ⟩, ⟨LA, LM, LG, LQ, LR, LD, hZL⟩, rfl⟩⟩
   omega
 | 7, _ =>
  refine AX.seq ?_
  refine AX.sR (rgAV [0, 1, 5, 6, 7, 15, 65]) ?_
  refine AX.condF ?_
  refine AX.exit ?_
  refine nmZ ?_
  refine AX.sR (rgCV [4] (aI cs1 (aI cs2 (aI c0 (aI ci (aI caw oT)))))) ?_
  refine AX.ret ⟨.inl rfl, ?_⟩
  exact Done.one rfl rfl rfl rfl
 | k + 8, h => exact absurd h (by omega)
theorem own_le {K v : Nat} (h : v < 4294967296 ^ K) : (digits v).length ≤ (padD K v).length := by rw [padD_len]; exact digits_length_le h
theorem kq_le (m n : Nat) : (digits (m / n)).length ≤ (padD (kqN m n) (m / n)).length := by
 rw [padD_len]
 unfold kqN
 split
 ·rename_i h
  have h0 : m / n = 0 := by
   rcases h with rfl | h
   ·exact Nat.div_zero m
   ·exact Nat.div_eq_of_lt h
  rw [h0, digits_zero]
  exact Nat.zero_le _
 ·rename_i h
  have hn0 : n ≠ 0 := fun e => h (.inl e)
  have hl : (digits n).length ≤ (digits m).length := digits_len_mono (by omega)
  have hL : (digits n).length ≠ 0 := fun e => hn0 (digits_len_zero.1 e)
  have h1 := pow_le_digits hn0
  have h2 := lt_pow_digits m
  refine digits_length_le ?_
  rw [Nat.div_lt_iff_lt_mul (Nat.pos_of_ne_zero hn0)]
  have e : 4294967296 ^ (digits m).length = 4294967296 ^ ((digits m).length + 1 - (digits n).length) * 4294967296 ^ ((digits n).length - 1) := by
   rw [← Nat.pow_add]
   congr 1
   omega
  rw [e] at h2
  exact Nat.lt_of_lt_of_le h2 (Nat.mul_le_mul_left _ h1)
theorem kr_le (m n : Nat) : (digits (remN m n)).length ≤ (padD (krN m n) (remN m n)).length := by
 rw [padD_len]
 unfold krN remN
 split
 ·rw [digits_zero]; exact Nat.le_refl _
 ·rename_i hn
  split
  ·rename_i h
   rw [Nat.mod_eq_of_lt h]
   exact Nat.le_refl _
  ·split
   ·exact Nat.le_refl _
   ·exact digits_len_mono (Nat.le_of_lt (Nat.mod_lt _ (Nat.pos_of_ne_zero hn)))
theorem kq_b {m n : Nat} {N : Nat} (h : (digits m).length ≤ N) : kqN m n ≤ N + 1 := by
 unfold kqN
 split <;> omega
theorem kr_b {m n : Nat} {N : Nat} (h1 : (digits m).length ≤ N) (h2 : (digits n).length ≤ N) : krN m n ≤ N := by
 unfold krN
 split
 ·exact Nat.zero_le _
 ·rename_i hn
  split
  ·exact h1
  ·split
   ·exact Nat.le_trans (digits_len_mono (Nat.le_of_lt (Nat.mod_lt _ (Nat.pos_of_ne_zero hn)))) h2
   ·exact h2
theorem add_le (m k : Nat) : (digits (m + k)).length ≤ (padD (max (digits m).length (digits k).length + 1) (m + k)).length := by
 refine own_le ?_
 have h1 := lt_pow_digits m
 have h2 := lt_pow_digits k
 have h3 : 4294967296 ^ (digits m).length ≤ 4294967296 ^ max (digits m).length (digits k).length := Nat.pow_le_pow_right (by decide) (by omega)
 have h4 : 4294967296 ^ (digits k).length ≤ 4294967296 ^ max (digits m).length (digits k).length := Nat.pow_le_pow_right (by decide) (by omega)
 rw [Nat.pow_succ]
 omega
theorem mul_le (m k : Nat) : (digits (m * k)).length ≤ (padD ((digits m).length + (digits k).length) (m * k)).length := by
 refine own_le ?_
 have h1 := lt_pow_digits m
 have h2 := lt_pow_digits k
 rw [Nat.pow_add]
 exact Nat.mul_lt_mul_of_lt_of_le h1 (Nat.le_of_lt h2) (Nat.pow_pos (by decide))
theorem sub_le (m k : Nat) : (digits (m - k)).length ≤ (padD (if m < k then 0 else (digits m).length) (m - k)).length := by
 rw [padD_len]
 split
 ·rw [show m - k = 0 by omega, digits_zero]; exact Nat.le_refl _
 ·exact digits_len_mono (Nat.sub_le _ _)
set_option maxHeartbeats 4000000 in
theorem natOwn_ok (a b : List Nat) (ha : Dg a) (hb : Dg b) (hla : a.length < 2 ^ 62) (hlb : b.length < 2 ^ 62) : PCall Try.prog 14 [dg a, dg b] (.b true) [] := by
 have cf := few2 60 (by omega) a b hla hlb
 by_cases h : a.length ≤ 60 ∧ b.length ≤ 60
 ·rw [decide_eq_true h.1, decide_eq_true h.2] at cf
  obtain ⟨h1, h2⟩ := h
  obtain ⟨lP, nP, kP, LP, cP⟩ := power1_o a ha h1
  have hma := digits_length_val ha
  have hmb := digits_length_val hb
  have cA := add_o a b ha hb (by omega) (by omega)
  have cM := mul_o a b ha hb (by omega) (by omega)
  have cG := gcd_o a b ha hb (by omega) (by omega)
  have cD := div_o a b ha hb (by omega) (by omega)
  have cS := sub_o a b ha hb (by omega) (by omega)
  have c0 := add_ok a [] ha Dg_nil (by omega) (by decide)
  rw [show val ([] : List Nat) = 0 from rfl, Nat.add_zero] at c0
  have ci := lis_ok a ha (by omega)
  have hg : (digits (Nat.gcd (val a) (val b))).length ≤ 60 := by
   by_cases hz : val b = 0
   ·rw [hz, Nat.gcd_zero_right]; omega
   ·exact Nat.le_trans (digits_len_mono (Nat.gcd_le_right _ (Nat.pos_of_ne_zero hz))) (by omega)
  have b1 := kq_b (n := val b) (show (digits (val a)).length ≤ 60 by omega)
  have b2 := kr_b (show (digits (val a)).length ≤ 60 by omega) (show (digits (val b)).length ≤ 60 by omega)
  exact natOwn_core a b (by omega) (by omega) (val a) _ _ _ _ _ _ _ _ _ _ _ _ _ _ _ _ (add_le _ _) (mul_le _ _) (Nat.le_refl _) (kq_le _ _) (kr_le _ _) (sub_le _ _) kP (by rw [padD_len]; omega) (by rw [padD_len]; omega) (by omega) (by rw [padD_len]; omega) (by rw [padD_len]; omega) (by rw [padD_len]; split <;> omega) LP cf cA cM cG cD cS cP c0 ci
 ·have hf : (decide (a.length ≤ 60) && decide (b.length ≤ 60)) = false := by
   rw [Bool.and_eq_false_iff, decide_eq_false_iff_not, decide_eq_false_iff_not]
   omega
  rw [hf] at cf
  have caw := awake_ok
  refine PCall.of_ax Try.call14 Try.func14 rfl (by simp [Try.ntmps14]) fun O w => ?_
  simp only [Try.ntmps14, Try.results14, argFr]
  refine AX.sR (rgAV [0, 1]) ?_
  refine AX.seq ?_
  refine AX.sR (rgCV [0, 1, 21] (aI cf oT)) ?_
  refine AX.condT ?_
  refine AX.sR (rgCV [4] (aI caw oT)) ?_
  refine AX.ret ⟨.inl rfl, ?_⟩
  exact Done.one rfl rfl rfl rfl
end Go.Proofs.Ytlhobedecoeohaa
