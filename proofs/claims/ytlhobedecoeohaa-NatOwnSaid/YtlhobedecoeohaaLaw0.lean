/- The fixed calls of awake. -/
import Derived.Test.YtlhobedecoeohaaNatV3
set_option linter.unusedVariables false
set_option linter.unusedSimpArgs false
namespace Go.Proofs.Ytlhobedecoeohaa
open Go Go.Proofs.Ytlhobedecoeohaa.Lift
attribute [local irreducible] Lift.PCall Lift.HCall
theorem powLim34 : ¬ powLim 3 4 := by
 have h : blen 3 = 2 := (blen_iff (by omega)).2 (by decide)
 unfold powLim
 rw [h]
 decide
theorem powN34 : powN 3 4 = 81 := by
 unfold powN
 rw [if_neg (by decide), if_neg powLim34]
 rfl
theorem powE34 : powE 3 4 = 0 := by
 unfold powE
 rw [if_neg (by decide), if_neg powLim34]
theorem blen8 : blen 8 = 4 := (blen_iff (by omega)).2 (by decide)
def sBig : ByteArray := ⟨#[49, 50, 56, 56, 52, 57, 48, 49, 56, 56, 56]⟩
theorem txtBig : txt 12884901888 = sBig := by
 show strN (decB 12884901888) = _
 simp [decB, decr_pos, decr_zero, strN, strOf, sBig]
theorem txt3 : txt 3 = ⟨#[51]⟩ := by
 show strN (decB 3) = _
 simp [decB, decr_pos, decr_zero, strN, strOf]
theorem txt2 : txt 2 = ⟨#[50]⟩ := by
 show strN (decB 2) = _
 simp [decB, decr_pos, decr_zero, strN, strOf]
theorem txt6 : txt 6 = ⟨#[54]⟩ := by
 show strN (decB 6) = _
 simp [decB, decr_pos, decr_zero, strN, strOf]
theorem txt81 : txt 81 = ⟨#[56, 49]⟩ := by
 show strN (decB 81) = _
 simp [decB, decr_pos, decr_zero, strN, strOf]
theorem parBig : parE sBig = 0 ∧ parN sBig = 12884901888 := by
 have h1 : ¬ (sBig.size = 0 ∨ (bt sBig 0 = 48 ∧ 1 < sBig.size)) := by decide
 have h2 : Dgt sBig := by
  intro j hj
  have : ∀ j, j < 11 → 48 ≤ bt sBig j ∧ bt sBig j ≤ 57 := by decide
  exact this j hj
 have h3 : ¬ 20000 < sBig.size := by decide
 obtain ⟨e1, e2⟩ := par_good h1 h2 h3
 refine ⟨e1, e2.trans ?_⟩
 decide
set_option maxRecDepth 20000 in
set_option maxHeartbeats 4000000 in
theorem awake_ok : PCall Try.prog 16 [] (.b true) [] := by
 refine PCall.of_ax Try.call16 Try.func16 rfl (by simp [Try.ntmps16]) fun O w => ?_
 simp only [Try.ntmps16, Try.results16, argFr]
 have l17 := lenS (n := 17) (by omega)
 have l5 := lenS (n := 5) (by omega)
 have l9 := lenS (n := 9) (by omega)
 have l4 := lenS (n := 4) (by omega)
 have l3 := lenS (n := 3) (by omega)
 have l2 := lenS (n := 2) (by omega)
 have l6 := lenS (n := 6) (by omega)
 have l12 := lenS (n := 12) (by omega)
 have l18 := lenS (n := 18) (by omega)
 have l8 := lenS (n := 8) (by omega)
 have l81 := lenS (n := 81) (by omega)
 have lB := lenS (n := 4294967296) (by omega)
 have lX := lenS (n := 12884901888) (by omega)
 have lY := lenS (n := 1099511627776) (by omega)
 have cdiv : PCall Try.prog 34 [nv 17, nv 5] (.tup [nv 3, nv 2, .i .i64 0]) [] := div_n 17 5 (by omega) (by omega)
 have cpar : PCall Try.prog 40 [.s sBig] (.tup [nv 12884901888, .i .i64 0]) [] := by
  have := parse_ok sBig (by decide)
  rwa [parBig.1, parBig.2] at this
 have csm : PCall Try.prog 17 [nv 1099511627776] (.tup [.i .u64 ((1099511627776 : Nat) : Int), .b true]) [] := small_n 1099511627776 (by omega)
 have csub : PCall Try.prog 28 [nv 9, nv 4] (.tup [nv 5, .i .i64 0]) [] := sub_n 9 4 (by omega) (by omega)
 have cpow : PCall Try.prog 38 [nv 3, .i .i64 4] (.tup [nv 81, .i .i64 0]) [] := by
  have := pow_n 3 4 (by omega) (by omega)
  rwa [powN34, powE34] at this
 have cmul : PCall Try.prog 32 [nv 4294967296, nv 3] (nv 12884901888) [] := mul_n 4294967296 3 (by omega) (by omega)
 have cgcd : PCall Try.prog 36 [nv 12, nv 18] (nv 6) [] := gcd_n 12 18 (by omega) (by omega)
 have cadd : PCall Try.prog 30 [nv 5, nv 4] (nv 9) [] := add_n 5 4 (by omega) (by omega)
 have ccmp : PCall Try.prog 24 [nv 9, nv 9] (.i .i64 0) [] := cmp_n 9 9 (by omega) (by omega)
 have cbit : PCall Try.prog 26 [nv 8] (.i .i64 4) [] := by
  have := bits_n 8 (by omega)
  rwa [blen8] at this
 have crt := right_n 81 (by omega)
 have o17 := of_ok 17 (by omega)
 have o5 := of_ok 5 (by omega)
 have o9 := of_ok 9 (by omega)
 have o4 := of_ok 4 (by omega)
 have o3 := of_ok 3 (by omega)
 have o12 := of_ok 12 (by omega)
 have o18 := of_ok 18 (by omega)
 have o8 := of_ok 8 (by omega)
 have oB := of_ok 4294967296 (by omega)
 have oY := of_ok 1099511627776 (by omega)
 have t3 := text_n 3 (by omega)
 have t2 := text_n 2 (by omega)
 have t6 := text_n 6 (by omega)
 have t81 := text_n 81 (by omega)
 have tX := text_n 12884901888 (by omega)
 have e3 : decide (txt 3 = ⟨#[51]⟩) = true := decide_eq_true txt3
 have e2 : decide (txt 2 = ⟨#[50]⟩) = true := decide_eq_true txt2
 have e6 : decide (txt 6 = ⟨#[54]⟩) = true := decide_eq_true txt6
 have e81 : decide (txt 81 = ⟨#[56, 49]⟩) = true := decide_eq_true txt81
 have eX : decide (txt 12884901888 = sBig) = true := decide_eq_true txtBig
 clear l17 l5 l9 l4 l3 l2 l6 l12 l18 l8 l81 lB lX lY
 refine AX.sR (rgA []) ?_
 refine AX.sR (rgC [1, 2, 3] (aI o17 (aI o5 (aI cdiv oT)))) ?_
 refine AX.sR (rgC [1, 2, 3, 4, 5] (aI cpar oT)) ?_
 refine AX.sR (rgC [1, 2, 3, 4, 5, 6, 7] (aI oY (aI csm oT))) ?_
 refine AX.sR (rgC [1, 2, 3, 4, 5, 6, 7, 8, 9] (aI o9 (aI o4 (aI csub oT)))) ?_
 refine AX.sR (rgC [1, 2, 3, 4, 5, 6, 7, 8, 9, 10, 11] (aI o3 (aI cpow oT))) ?_
 apply AX.sreg [0] (by simp only [pq]; rfl)
 ·repeat (first
 |(apply RunO.op rfl; · rfl
   ·rfl
   ·first | exact effStr eX | exact effStr e3 | exact effStr e2 | exact effStr e6 | exact effStr e81 | (simp (disch := omega) only [go_sem, i64_of, u32_of, u64_of, Nat.reduceLT, Nat.reduceLeDiff, Nat.reduceEqDiff, Nat.reduceAdd, Nat.reduceSub, Nat.reduceMul, Nat.reducePow, Nat.reduceBEq, Int.reduceLE, Int.reduceLT, Int.reduceToNat, Int.reduceEq, Int.reduceNeg, reduceIte, reduceCtorEq]; rfl)
   ·(simp (disch := omega) only [go_sem, i64_of, u32_of, u64_of, Nat.reduceLT, Nat.reduceLeDiff, Nat.reduceEqDiff, Nat.reduceAdd, Nat.reduceSub, Nat.reduceMul, Nat.reducePow, Nat.reduceBEq, Int.reduceLE, Int.reduceLT, Int.reduceToNat, Int.reduceEq, Int.reduceNeg, reduceIte, reduceCtorEq]; rfl)
   ·(simp only [pb, Nat.reduceLT, Nat.reduceAdd, reduceIte]; rfl))
 |(apply RunO.call rfl; · rfl
   ·rfl
   ·(simp (disch := omega) only [go_sem, i64_of, u32_of, u64_of, Nat.reduceLT, Nat.reduceLeDiff, Nat.reduceEqDiff, Nat.reduceAdd, Nat.reduceSub, Nat.reduceMul, Nat.reducePow, Nat.reduceBEq, Int.reduceLE, Int.reduceLT, Int.reduceToNat, Int.reduceEq, Int.reduceNeg, reduceIte, reduceCtorEq]; rfl)
   ·rfl
   ·(first | exact oB | exact o3 | exact cmul | exact tX | exact t3 | exact t2 | exact o12 | exact o18 | exact cgcd | exact t6 | exact o4 | exact cadd | exact o9 | exact ccmp | exact t81 | exact o8 | exact cbit | exact crt)
   ·(simp (disch := omega) only [go_sem, i64_of, u32_of, u64_of, Nat.reduceLT, Nat.reduceLeDiff, Nat.reduceEqDiff, Nat.reduceAdd, Nat.reduceSub, Nat.reduceMul, Nat.reducePow, Nat.reduceBEq, Int.reduceLE, Int.reduceLT, Int.reduceToNat, Int.reduceEq, Int.reduceNeg, reduceIte, reduceCtorEq]; rfl)
   ·(simp only [pb, Nat.reduceLT, Nat.reduceAdd, reduceIte]; rfl))
 |(apply RunO.skip; · rfl
   ·(simp only [pb, Nat.reduceLT, Nat.reduceAdd, reduceIte]; rfl)))
  exact RunO.nil
 ·repeat (first | exact Keep.nil | (apply Keep.take; · rfl) | (apply Keep.drop; · rfl))
 refine AX.ret ⟨.inl rfl, ?_⟩
 exact Done.one rfl rfl rfl rfl
end Go.Proofs.Ytlhobedecoeohaa
