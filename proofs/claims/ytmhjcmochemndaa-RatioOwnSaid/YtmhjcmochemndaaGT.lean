/- The fixed calls of the law's awake. -/
import Derived.Test.YtmhjcmochemndaaGS
import Derived.Test.YtmhjcmochemndaaGE
set_option linter.unusedVariables false
set_option linter.unusedSimpArgs false
namespace Go.Proofs.Ytmhjcmochemndaa
open Go Go.Proofs.Ytmhjcmochemndaa.Lift
attribute [local irreducible] Lift.PCall Lift.HCall
theorem rtxt_rq {s : Bool} {m n : Nat} (hm : m ≠ 0) (hn : n ≠ 0) (hg : Nat.gcd m n = 1) : rtxt (rq s m n) = strN ((if s = true then [45] else []) ++ decB m ++ (if n = 1 then [] else 47 :: decB n)) := by
 have h1 : (rq s m n).num = sg s m := by rw [rq_num hn, hg, Nat.div_one]
 have h2 : (rq s m n).den = n := by rw [rq_den hn, hg, Nat.div_one]
 unfold rtxt rtxL
 rw [h1, h2, sg_natAbs]
 have h3 : (sg s m < 0) ↔ s = true := by
  have := sg_neg s m
  cases s
  ·simp [sg]
  ·simp [sg]; omega
 simp only [h3]
theorem rq_eq {s : Bool} {m n p q : Nat} (hn : n ≠ 0) (hq : q ≠ 0) (h : m * q = p * n) : rq s m n = rq s p q := by
 unfold rq
 rw [Rat.mkRat_eq_iff hn hq, sg_mul, sg_mul, h]
theorem w56 : rq false 1 2 + rq false 1 3 = rq false 5 6 := by rw [add_same _ (by omega) (by omega)]
theorem wdiv : rq false 1 2 / rq true 3 4 = rq true 2 3 := by
 rw [div_rq]
 exact rq_eq (by omega) (by omega) rfl
theorem w46 : rq true 4 6 = rq true 2 3 := rq_eq (by omega) (by omega) rfl
theorem t56 : rtxt (rq false 5 6) = ⟨#[53, 47, 54]⟩ := by
 rw [rtxt_rq (by omega) (by omega) (by decide)]
 simp [decB, decr_pos, decr_zero, strN, strOf]
theorem t23 : rtxt (rq true 2 3) = ⟨#[45, 50, 47, 51]⟩ := by
 rw [rtxt_rq (by omega) (by omega) (by decide)]
 simp [decB, decr_pos, decr_zero, strN, strOf]
theorem t12 : rtxt (rq false 1 2) = ⟨#[49, 47, 50]⟩ := by
 rw [rtxt_rq (by omega) (by omega) (by decide)]
 simp [decB, decr_pos, decr_zero, strN, strOf]
theorem t11 : rtxt (1 - 0) = ⟨#[49]⟩ := by
 have e : (1 : Rat) - 0 = rq false 1 1 := by
  have h : rq false 1 1 = 1 := rfl
  rw [h]
  grind
 rw [e, rtxt_rq (by omega) (by omega) (by decide)]
 simp [decB, decr_pos, decr_zero, strN, strOf]
theorem d2 : txt 2 = ⟨#[50]⟩ := by
 show strN (decB 2) = _
 simp [decB, decr_pos, decr_zero, strN, strOf]
theorem d3 : txt 3 = ⟨#[51]⟩ := by
 show strN (decB 3) = _
 simp [decB, decr_pos, decr_zero, strN, strOf]
theorem d4 : txt 4 = ⟨#[52]⟩ := by
 show strN (decB 4) = _
 simp [decB, decr_pos, decr_zero, strN, strOf]
theorem p2 : parE ⟨#[50]⟩ = 0 ∧ parN ⟨#[50]⟩ = 2 := by rw [← d2]; exact par_txt (by have := lenS (n := 2) (by omega); omega)
theorem p3 : parE ⟨#[51]⟩ = 0 ∧ parN ⟨#[51]⟩ = 3 := by rw [← d3]; exact par_txt (by have := lenS (n := 3) (by omega); omega)
theorem p4 : parE ⟨#[52]⟩ = 0 ∧ parN ⟨#[52]⟩ = 4 := by rw [← d4]; exact par_txt (by have := lenS (n := 4) (by omega); omega)
def s24 : ByteArray := ⟨#[50, 47, 52]⟩
def s23 : ByteArray := ⟨#[45, 50, 47, 51]⟩
theorem par24 : rpV s24 = .tup [zR, .i .i64 33] := by
 have e1 : restS s24 = s24 := by decide
 have e2 : numS s24 = ⟨#[50]⟩ := by decide
 have e3 : denS s24 = ⟨#[52]⟩ := by decide
 have e4 : ixS s24 ≠ -1 := by decide
 have e5 : neg1 s24 = false := by decide
 have h1 : denE s24 = 0 := by unfold denE; rw [if_neg e4, e3]; exact p4.1
 have h2 : denN s24 = 4 := by unfold denN; rw [if_neg e4, e3]; exact p4.2
 have h3 : rpQ s24 = rq false 1 2 := by
  unfold rpQ
  rw [e1, e2, h2, p2.2, e5]
  exact rq_eq (by omega) (by omega) rfl
 have h4 : rpE s24 = 33 := by
  unfold rpE
  rw [e1, e2, h1, p2.1, h3, t12]
  rw [if_neg (by omega), if_neg (by omega), if_neg (by decide)]
 unfold rpV
 rw [h4, if_neg (by omega)]
theorem par23 : rpV s23 = .tup [rV (rq true 2 3), .i .i64 0] := by
 have e1 : restS s23 = ⟨#[50, 47, 51]⟩ := by decide
 have e2 : numS ⟨#[50, 47, 51]⟩ = ⟨#[50]⟩ := by decide
 have e3 : denS ⟨#[50, 47, 51]⟩ = ⟨#[51]⟩ := by decide
 have e4 : ixS ⟨#[50, 47, 51]⟩ ≠ -1 := by decide
 have e5 : neg1 s23 = true := by decide
 have h1 : denE ⟨#[50, 47, 51]⟩ = 0 := by unfold denE; rw [if_neg e4, e3]; exact p3.1
 have h2 : denN ⟨#[50, 47, 51]⟩ = 3 := by unfold denN; rw [if_neg e4, e3]; exact p3.2
 have h3 : rpQ s23 = rq true 2 3 := by
  unfold rpQ
  rw [e1, e2, h2, p2.2, e5]
 have h4 : rpE s23 = 0 := by
  unfold rpE
  rw [e1, e2, h1, p2.1, h3, t23]
  rw [if_neg (by omega), if_neg (by omega), if_pos (by decide)]
 unfold rpV
 rw [h4, if_pos rfl, h3]
theorem gneg : rq true 2 3 < 0 := (rq_neg (by omega)).2 (by decide)
theorem gsum : cmpR (rq true 2 3 * rq true 2 3) (sumTo [rq true 2 3, rq true 2 3] 2) = 1 := by
 have h := gneg
 have e : sumTo [rq true 2 3, rq true 2 3] 2 = 0 + rq true 2 3 + rq true 2 3 := rfl
 rw [e]
 apply cmpR_gt
 have h2 : rq true 2 3 * rq true 2 3 = rq false 4 9 := by rw [mul_rq]; rfl
 have h3 : 0 < rq false 4 9 := (rq_pos (by omega)).2 (by decide)
 rw [h2]
 grind
set_option maxRecDepth 20000 in
set_option maxHeartbeats 8000000 in
theorem lawake_ok : PCall Try.prog 14 [] (.b true) [] := by
 refine PCall.of_ax Try.call14 Try.func14 rfl (by simp [Try.ntmps14]) fun O w => ?_
 simp only [Try.ntmps14, Try.results14, argFr]
 have L1 : ∀ (s : Bool) (m n : Nat), m < 18446744073709551616 → n < 18446744073709551616 → rL (rq s m n) ≤ 2 := fun s m n hm hn => rL_rq (lenS hm) (lenS hn) (by omega)
 have c1 : PCall Try.prog 46 [.s s24] (.tup [zR, .i .i64 33]) [] := by
  have := qparse_ok s24 (by decide)
  rwa [par24] at this
 have c2 : PCall Try.prog 46 [.s s23] (.tup [rV (rq true 2 3), .i .i64 0]) [] := by
  have := qparse_ok s23 (by decide)
  rwa [par23] at this
 have m12 : PCall Try.prog 50 [.i .i64 1, .i .i64 2] (rV (rq false 1 2)) [] := lmade_ok 1 2 (by omega) (by omega) (by decide)
 have m13 : PCall Try.prog 50 [.i .i64 1, .i .i64 3] (rV (rq false 1 3)) [] := lmade_ok 1 3 (by omega) (by omega) (by decide)
 have m34 : PCall Try.prog 50 [.i .i64 (-3), .i .i64 4] (rV (rq true 3 4)) [] := lmade_ok (-3) 4 (by omega) (by omega) (by decide)
 have m46 : PCall Try.prog 50 [.i .i64 (-4), .i .i64 6] (rV (rq true 2 3)) [] := by
  have := lmade_ok (-4) 6 (by omega) (by omega) (by decide)
  have e : rq (decide ((-4 : Int) < 0) != decide ((6 : Int) < 0)) (-4 : Int).natAbs (6 : Int).natAbs = rq true 4 6 := rfl
  rw [e, w46] at this
  exact this
 have hf0 : rq true 3 4 ≠ 0 := fun e => by rcases rq_eq_zero.1 e with h | h <;> omega
 have cd : PCall Try.prog 34 [rV (rq false 1 2), rV (rq true 3 4)] (.tup [rV (rq true 2 3), .i .i64 0]) [] := by
  have := qdiv_ok (IsQ.of (L1 false 1 2 (by omega) (by omega))) (IsQ.of (L1 true 3 4 (by omega) (by omega))) (by omega)
  unfold qdivV at this
  rwa [if_neg hf0, wdiv] at this
 have ca : PCall Try.prog 38 [rV (rq false 1 2), rV (rq false 1 3)] (rV (rq false 5 6)) [] := by
  have := qadd_ok (IsQ.of (L1 false 1 2 (by omega) (by omega))) (IsQ.of (L1 false 1 3 (by omega) (by omega))) (by omega)
  rwa [w56] at this
 have x56 : PCall Try.prog 48 [rV (rq false 5 6)] (.s ⟨#[53, 47, 54]⟩) [] := by
  have := qtext_ok (IsQ.of (L1 false 5 6 (by omega) (by omega))) (by omega) (by omega)
  rwa [t56] at this
 have x23 : PCall Try.prog 48 [rV (rq true 2 3)] (.s ⟨#[45, 50, 47, 51]⟩) [] := by
  have := qtext_ok (IsQ.of (L1 true 2 3 (by omega) (by omega))) (by omega) (by omega)
  rwa [t23] at this
 have L0 : rL 0 ≤ 2 := L1 false 0 1 (by omega) (by omega)
 have LL : rL 1 ≤ 2 := L1 false 1 1 (by omega) (by omega)
 have x1 : PCall Try.prog 48 [rV (1 - 0)] (.s ⟨#[49]⟩) [] := by
  have := qtext_ok (IsQ.of (rL_sub 1 0 LL L0)) (by omega) (by omega)
  rwa [t11] at this
 have cs := qsub_ok (IsQ.of LL) (IsQ.of L0) (by omega) (by omega)
 have co := one_ok
 have cz := zero_ok
 have lg := L1 true 2 3 (by omega) (by omega)
 have csm : PCall Try.prog 28 [rV (rq true 2 3), rV (rq true 2 3)] (.b true) [] := by
  have := qsame_ok (IsQ.of lg) (IsQ.of lg) (by omega)
  rwa [decide_eq_true rfl] at this
 have crt := qright_ok (rq true 2 3) (by omega)
 have csg : PCall Try.prog 30 [rV (rq true 2 3)] (.i .i64 (-1)) [] := by
  have := sign_ok (IsQ.of lg) (by omega)
  unfold sgnR at this
  rwa [if_pos gneg] at this
 have cn := qneg_ok (IsQ.of lg) (by omega)
 have cl : PCall Try.prog 32 [rV (rq true 2 3), rV (-rq true 2 3)] (rV (rq true 2 3)) [] := by
  have := qleast_ok (IsQ.of lg) (IsQ.of (q := -rq true 2 3) (by rw [rL_neg]; exact lg)) (by omega)
  have h := gneg
  rwa [if_neg (by grind)] at this
 have cm := qmul_ok (IsQ.of lg) (IsQ.of lg) (by omega)
 have hqs : IsQs [rV (rq true 2 3), rV (rq true 2 3)] [rq true 2 3, rq true 2 3] 2 := by
  refine ⟨rfl, fun i hi => ?_⟩
  have : i = 0 ∨ i = 1 := by simp at hi; omega
  rcases this with rfl | rfl <;> exact IsQ.of lg
 have cu := qsum_ok hqs (by simp) (by omega)
 have cc : PCall Try.prog 26 [rV (rq true 2 3 * rq true 2 3), rV (sumTo [rq true 2 3, rq true 2 3] 2)] (.i .i64 1) [] := by
  have := qcmp_ok (L := 7) (IsQ.of (Nat.le_trans (rL_mul _ _ lg lg (by omega)) (by omega))) (IsQ.of (sumTo_len hqs (by omega) 2 (by simp))) (by omega)
  rwa [gsum] at this
 have cu' : PCall Try.prog 44 [.sl [rV (rq true 2 3), rV (rq true 2 3)]] (rV (sumTo [rq true 2 3, rq true 2 3] 2)) [] := cu
 clear L1 L0 LL lg hqs hf0 cu
 generalize rq true 2 3 * rq true 2 3 = gg at *
 generalize sumTo [rq true 2 3, rq true 2 3] 2 = g2 at *
 generalize -rq true 2 3 = gn at *
 generalize rq true 2 3 = g at *
 generalize rq true 3 4 = f at *
 generalize rq false 1 2 = h at *
 generalize rq false 1 3 = t at *
 generalize rq false 5 6 = s at *
 generalize (1 : Rat) - 0 = o1 at *
 generalize (1 : Rat) = o at *
 generalize (0 : Rat) = z at *
 have e1 : decide ((⟨#[53, 47, 54]⟩ : ByteArray) = ⟨#[53, 47, 54]⟩) = true := decide_eq_true rfl
 have e2 : decide ((⟨#[45, 50, 47, 51]⟩ : ByteArray) = ⟨#[45, 50, 47, 51]⟩) = true := decide_eq_true rfl
 have e3 : decide ((⟨#[49]⟩ : ByteArray) = ⟨#[49]⟩) = true := decide_eq_true rfl
 refine AX.sR (rgAV []) ?_
 refine AX.sR (rgCV [2] (aI c1 oT)) ?_
 refine AX.sR (rgCV [2, 3, 4] (aI c2 oT)) ?_
 refine AX.sR (rgCV [2, 3, 4, 5, 6] (aI m12 (aI m34 (aI cd oT)))) ?_
 apply AX.sdreg [0] (by kernel_rfl) (by simp only [pq]; rfl)
 ·repeat (first
 |(apply RunD.mkS (v := .sl [rV g, rV g]) rfl; · rfl
   ·(simp only [opsOf, valsOf, valOf, lkp, ofConst, ofCell, Array.toList, Option.toList, List.map_cons, List.map_nil, List.cons_append, List.nil_append, List.append_nil, Nat.reduceEqDiff, Nat.reducePow, Nat.reduceLT, Nat.reduceLeDiff, reduceIte, if_true, if_false, IntKind.min, IntKind.max, IntKind.bits, IntKind.signed, Int.reduceLE, Int.reduceNeg, Int.reducePow, Int.reduceSub, and_self, Bool.false_eq_true, Nat.reduceSub]; rfl)
   ·(simp (disch := omega) only [go_sem, i64_of, u32_of, u64_of, Nat.reduceLT, Nat.reduceLeDiff, Nat.reduceEqDiff, Nat.reduceAdd, Nat.reduceSub, Nat.reduceMul, Nat.reducePow, Nat.reduceBEq, Int.reduceLE, Int.reduceLT, Int.reduceToNat, Int.reduceEq, Int.reduceNeg, ↓reduceIte, reduceCtorEq]; rfl)
   ·rfl
   ·rfl
   ·kernel_rfl
   ·kernel_rfl
   ·(simp only [pb, Nat.reduceLT, Nat.reduceAdd, reduceIte]; rfl)
   ·rfl)
 |(apply RunD.op rfl; · rfl
   ·(simp only [opsOf, valsOf, valOf, lkp, ofConst, ofCell, Array.toList, Option.toList, List.map_cons, List.map_nil, List.cons_append, List.nil_append, List.append_nil, Nat.reduceEqDiff, Nat.reducePow, Nat.reduceLT, Nat.reduceLeDiff, reduceIte, if_true, if_false, IntKind.min, IntKind.max, IntKind.bits, IntKind.signed, Int.reduceLE, Int.reduceNeg, Int.reducePow, Int.reduceSub, and_self, Bool.false_eq_true, Nat.reduceSub]; rfl)
   ·first | exact effStr e1 | exact effStr e2 | exact effStr e3 | (simp (disch := omega) only [go_sem, i64_of, u32_of, u64_of, Nat.reduceLT, Nat.reduceLeDiff, Nat.reduceEqDiff, Nat.reduceAdd, Nat.reduceSub, Nat.reduceMul, Nat.reducePow, Nat.reduceBEq, Int.reduceLE, Int.reduceLT, Int.reduceToNat, Int.reduceEq, Int.reduceNeg, ↓reduceIte, reduceCtorEq]; rfl)
   ·(simp (disch := omega) only [go_sem, i64_of, u32_of, u64_of, Nat.reduceLT, Nat.reduceLeDiff, Nat.reduceEqDiff, Nat.reduceAdd, Nat.reduceSub, Nat.reduceMul, Nat.reducePow, Nat.reduceBEq, Int.reduceLE, Int.reduceLT, Int.reduceToNat, Int.reduceEq, Int.reduceNeg, ↓reduceIte, reduceCtorEq]; rfl)
   ·(simp only [pb, Nat.reduceLT, Nat.reduceAdd, reduceIte]; rfl)
   ·rfl)
 |(apply RunD.call rfl; · rfl
   ·(simp only [opsOf, valsOf, valOf, lkp, ofConst, ofCell, Array.toList, Option.toList, List.map_cons, List.map_nil, List.cons_append, List.nil_append, List.append_nil, Nat.reduceEqDiff, Nat.reducePow, Nat.reduceLT, Nat.reduceLeDiff, reduceIte, if_true, if_false, IntKind.min, IntKind.max, IntKind.bits, IntKind.signed, Int.reduceLE, Int.reduceNeg, Int.reducePow, Int.reduceSub, and_self, Bool.false_eq_true, Nat.reduceSub]; rfl)
   ·first | rfl | (simp only [List.cons_append, List.nil_append, V.hfL, V.hf, Bool.true_and]; assumption)
   ·(first | (simp only [cnlL, cnl, List.append_nil, List.cons_append, List.nil_append]; first | exact m12 | exact m13 | exact m46 | exact ca | exact x56 | exact x23 | exact x1 | exact cs | exact co | exact cz | exact csm | exact crt | exact csg | exact cn | exact cl | exact cm | exact cu' | exact cc) | (first | exact m12 | exact m13 | exact m46 | exact ca | exact x56 | exact x23 | exact x1 | exact cs | exact co | exact cz | exact csm | exact crt | exact csg | exact cn | exact cl | exact cm | exact cu' | exact cc))
   ·rfl
   ·(simp only [pb, Nat.reduceLT, Nat.reduceAdd, reduceIte]; rfl)
   ·rfl)
 |(apply RunD.skip; · rfl
   ·(simp only [pb, Nat.reduceLT, Nat.reduceAdd, reduceIte]; rfl)
   ·rfl))
  exact RunD.nil
 ·repeat (first | exact Keep.nil | (apply Keep.take; · rfl) | (apply Keep.drop; · rfl))
 ·kernel_rfl
 refine AX.ret ⟨.inl rfl, ?_⟩
 exact Done.one rfl rfl rfl rfl
end Go.Proofs.Ytmhjcmochemndaa
/- few of the law. -/
set_option linter.unusedVariables false
set_option linter.unusedSimpArgs false
namespace Go.Proofs.Ytmhjcmochemndaa
open Go Go.Proofs.Ytmhjcmochemndaa.Lift
attribute [local irreducible] Lift.PCall Lift.HCall
theorem effFld1 {s : Bool} {a b : List Nat} {x : Operand} : eff Try.prog (.fieldAddr 25 x 1) [.rp [.b s, dg a, dg b]] = some (.val (.rp [dg a, dg b])) := by kernel_rfl
theorem effFld2 {s : Bool} {a b : List Nat} {x : Operand} : eff Try.prog (.fieldAddr 25 x 2) [.rp [.b s, dg a, dg b]] = some (.val (.rp [dg b])) := by kernel_rfl
set_option maxRecDepth 20000 in
set_option maxHeartbeats 4000000 in
theorem lfew_ok (m : Nat) (hm : m < 2 ^ 40) (xs : List RT) (hl : xs.length < 2 ^ 20) (hll : ∀ x ∈ xs, x.2.1.length < 2 ^ 62 ∧ x.2.2.length < 2 ^ 62) : PCall Try.prog 13 [.i .i64 m, .sl (xs.map fR)] (.b (xs.all (okR m))) [] := by
 refine PCall.of_ax Try.call13 Try.func13 rfl (by simp [Try.ntmps13]) fun O w => ?_
 simp only [Try.ntmps13, Try.results13, argFr]
 refine AX.sR (rgAV [0, 1]) ?_
 refine AX.seq ?_
 refine AX.sR (rgAV [0, 1, 5]) ?_
 refine AX.block ?_
 refine AX.loop (fun n st => ∃ i : Nat, i ≤ xs.length ∧ n = xs.length - i ∧ (∀ j, j < i → okR m (xs.getD j d0) = true) ∧ st = ⟨[(5, .i .i64 i), (0, .i .i64 m), (1, .sl (xs.map fR))], [], 0⟩) xs.length ⟨0, Nat.zero_le _, rfl, fun j hj => absurd hj (Nat.not_lt_zero _), rfl⟩ ?_
 rintro n st ⟨i, hi, rfl, hij, rfl⟩
 refine AX.seq ?_
 by_cases h1 : i < xs.length
 ·have hmem : xs.getD i d0 ∈ xs := by
   rw [List.getD_eq_getElem?_getD, List.getElem?_eq_getElem h1]
   exact List.getElem_mem _
  have hb := hll _ hmem
  have hix := fun x y => effIxR (x := x) (y := y) (by simpa using h1) (getD_fR h1)
  refine AX.sR (rgAV [0, 1, 5, 9]) ?_
  refine AX.condT ?_
  refine AX.keepA [0, 1, 5] ?_
  refine AX.skip ?_
  refine nmZ ?_
  refine AX.seq ?_
  refine AX.block ?_
  have hok : okR m (xs.getD i d0) = (decide ((xs.getD i d0).2.1.length ≤ m) && decide ((xs.getD i d0).2.2.length ≤ m)) := rfl
  generalize hy : xs.getD i d0 = y at *
  obtain ⟨ys, ya, yb⟩ := y
  simp only at hb hok hix
  by_cases h2 : ya.length ≤ m
  ·by_cases h3 : yb.length ≤ m
   ·apply AX.sreg [0, 1, 5, 29] (by simp only [pq]; rfl)
    ·repeat (first
    |(apply RunO.op rfl; · rfl
      ·(simp only [opsOf, valsOf, valOf, lkp, ofConst, ofCell, Array.toList, Option.toList, List.map_cons, List.map_nil, List.cons_append, List.nil_append, List.append_nil, Nat.reduceEqDiff, Nat.reducePow, Nat.reduceLT, Nat.reduceLeDiff, reduceIte, if_true, if_false, IntKind.min, IntKind.max, IntKind.bits, IntKind.signed, Int.reduceLE, Int.reduceNeg, Int.reducePow, Int.reduceSub, and_self, Bool.false_eq_true, Nat.reduceSub]; rfl)
      ·first | exact hix _ _ | exact effFld1 | exact effFld2 | (simp (disch := omega) only [go_sem, i64_of, u32_of, u64_of, Nat.reduceLT, Nat.reduceLeDiff, Nat.reduceEqDiff, Nat.reduceAdd, Nat.reduceSub, Nat.reduceMul, Nat.reducePow, Nat.reduceBEq, Int.reduceLE, Int.reduceLT, Int.reduceToNat, Int.reduceEq, Int.reduceNeg, ↓reduceIte, reduceCtorEq]; rfl)
      ·(simp (disch := omega) only [go_sem, i64_of, u32_of, u64_of, Nat.reduceLT, Nat.reduceLeDiff, Nat.reduceEqDiff, Nat.reduceAdd, Nat.reduceSub, Nat.reduceMul, Nat.reducePow, Nat.reduceBEq, Int.reduceLE, Int.reduceLT, Int.reduceToNat, Int.reduceEq, Int.reduceNeg, ↓reduceIte, reduceCtorEq]; rfl)
      ·(simp only [pb, Nat.reduceLT, Nat.reduceAdd, reduceIte]; rfl))
    |(apply RunO.skip; · rfl
      ·(simp only [pb, Nat.reduceLT, Nat.reduceAdd, reduceIte]; rfl)))
     exact RunO.nil
    ·repeat (first | exact Keep.nil | (apply Keep.take; · rfl) | (apply Keep.drop; · rfl))
    refine AX.condF ?_
    refine AX.keepA [0, 1, 5] ?_
    refine AX.skip ?_
    refine nmZ ?_
    refine AX.rR (rgWV [0, 1, 5] (aI @lit_add oT) oT) ?_
    refine nmZ ?_
    refine ⟨_, _, id, ?_,
     leA
     , ⟨i + 1, by omega, rfl, ?_, rfl⟩⟩
    ·omega
    ·intro j hj
     by_cases e : j = i
     ·subst e
      rw [hy, hok, decide_eq_true h2, decide_eq_true h3]
      rfl
     ·exact hij j (by omega)
   ·apply AX.sreg [0, 1, 5, 29] (by simp only [pq]; rfl)
    ·repeat (first
    |(apply RunO.op rfl; · rfl
      ·(simp only [opsOf, valsOf, valOf, lkp, ofConst, ofCell, Array.toList, Option.toList, List.map_cons, List.map_nil, List.cons_append, List.nil_append, List.append_nil, Nat.reduceEqDiff, Nat.reducePow, Nat.reduceLT, Nat.reduceLeDiff, reduceIte, if_true, if_false, IntKind.min, IntKind.max, IntKind.bits, IntKind.signed, Int.reduceLE, Int.reduceNeg, Int.reducePow, Int.reduceSub, and_self, Bool.false_eq_true, Nat.reduceSub]; rfl)
      ·first | exact hix _ _ | exact effFld1 | exact effFld2 | (simp (disch := omega) only [go_sem, i64_of, u32_of, u64_of, Nat.reduceLT, Nat.reduceLeDiff, Nat.reduceEqDiff, Nat.reduceAdd, Nat.reduceSub, Nat.reduceMul, Nat.reducePow, Nat.reduceBEq, Int.reduceLE, Int.reduceLT, Int.reduceToNat, Int.reduceEq, Int.reduceNeg, ↓reduceIte, reduceCtorEq]; rfl)
      ·(simp (disch := omega) only [go_sem, i64_of, u32_of, u64_of, Nat.reduceLT, Nat.reduceLeDiff, Nat.reduceEqDiff, Nat.reduceAdd, Nat.reduceSub, Nat.reduceMul, Nat.reducePow, Nat.reduceBEq, Int.reduceLE, Int.reduceLT, Int.reduceToNat, Int.reduceEq, Int.reduceNeg, ↓reduceIte, reduceCtorEq]; rfl)
      ·(simp only [pb, Nat.reduceLT, Nat.reduceAdd, reduceIte]; rfl))
    |(apply RunO.skip; · rfl
      ·(simp only [pb, Nat.reduceLT, Nat.reduceAdd, reduceIte]; rfl)))
     exact RunO.nil
    ·repeat (first | exact Keep.nil | (apply Keep.take; · rfl) | (apply Keep.drop; · rfl))
    refine AX.condT ?_
    refine AX.sR (rgAV [4]) ?_
    refine AX.ret ⟨.inl rfl, ?_⟩
    have : xs.all (okR m) = false := by
     rw [List.all_eq_false]
     refine ⟨_, hmem, ?_⟩
     rw [hok, decide_eq_false h3, Bool.and_false]
     exact Bool.false_ne_true
    rw [this]
    exact Done.one rfl (by simp only [frz]; rfl) rfl rfl
  ·apply AX.sreg [0, 1, 5, 29] (by simp only [pq]; rfl)
   ·repeat (first
   |(apply RunO.op rfl; · rfl
     ·(simp only [opsOf, valsOf, valOf, lkp, ofConst, ofCell, Array.toList, Option.toList, List.map_cons, List.map_nil, List.cons_append, List.nil_append, List.append_nil, Nat.reduceEqDiff, Nat.reducePow, Nat.reduceLT, Nat.reduceLeDiff, reduceIte, if_true, if_false, IntKind.min, IntKind.max, IntKind.bits, IntKind.signed, Int.reduceLE, Int.reduceNeg, Int.reducePow, Int.reduceSub, and_self, Bool.false_eq_true, Nat.reduceSub]; rfl)
     ·first | exact hix _ _ | exact effFld1 | exact effFld2 | (simp (disch := omega) only [go_sem, i64_of, u32_of, u64_of, Nat.reduceLT, Nat.reduceLeDiff, Nat.reduceEqDiff, Nat.reduceAdd, Nat.reduceSub, Nat.reduceMul, Nat.reducePow, Nat.reduceBEq, Int.reduceLE, Int.reduceLT, Int.reduceToNat, Int.reduceEq, Int.reduceNeg, ↓reduceIte, reduceCtorEq]; rfl)
     ·(simp (disch := omega) only [go_sem, i64_of, u32_of, u64_of, Nat.reduceLT, Nat.reduceLeDiff, Nat.reduceEqDiff, Nat.reduceAdd, Nat.reduceSub, Nat.reduceMul, Nat.reducePow, Nat.reduceBEq, Int.reduceLE, Int.reduceLT, Int.reduceToNat, Int.reduceEq, Int.reduceNeg, ↓reduceIte, reduceCtorEq]; rfl)
     ·(simp only [pb, Nat.reduceLT, Nat.reduceAdd, reduceIte]; rfl))
   |(apply RunO.skip; · rfl
     ·(simp only [pb, Nat.reduceLT, Nat.reduceAdd, reduceIte]; rfl)))
    exact RunO.nil
   ·repeat (first | exact Keep.nil | (apply Keep.take; · rfl) | (apply Keep.drop; · rfl))
   refine AX.condT ?_
   refine AX.sR (rgAV [4]) ?_
   refine AX.ret ⟨.inl rfl, ?_⟩
   have : xs.all (okR m) = false := by
    rw [List.all_eq_false]
    refine ⟨_, hmem, ?_⟩
    rw [hok, decide_eq_false h2, Bool.false_and]
    exact Bool.false_ne_true
   rw [this]
   exact Done.one rfl (by simp only [frz]; rfl) rfl rfl
 ·refine AX.sR (rgAV [0, 1, 5, 9]) ?_
  refine AX.condF ?_
  refine AX.exit ?_
  refine nmZ ?_
  refine AX.sR (rgAV [4]) ?_
  refine AX.ret ⟨.inl rfl, ?_⟩
  have : xs.all (okR m) = true := by
   rw [List.all_eq_true]
   intro x hx
   obtain ⟨j, hj, rfl⟩ := List.getElem_of_mem hx
   have := hij j (by omega)
   rwa [List.getD_eq_getElem?_getD, List.getElem?_eq_getElem hj] at this
  rw [this]
  exact Done.one rfl (by simp only [frz]; rfl) rfl rfl
theorem okR_iff {m : Nat} {s : Bool} {a b : List Nat} : okR m (s, a, b) = true ↔ a.length ≤ m ∧ b.length ≤ m := by simp [okR]
theorem lfew2 (m : Nat) (hm : m < 2 ^ 40) (s t : Bool) (a b c d : List Nat) (ha : a.length < 2 ^ 62) (hb : b.length < 2 ^ 62) (hc : c.length < 2 ^ 62) (hd : d.length < 2 ^ 62) : PCall Try.prog 13 [.i .i64 m, .sl [rR s a b, rR t c d]] (.b (okR m (s, a, b) && okR m (t, c, d))) [] := by
 have := lfew_ok m hm [(s, a, b), (t, c, d)] (by simp) (by simp; exact ⟨⟨ha, hb⟩, hc, hd⟩)
 have e : [(s, a, b), (t, c, d)].all (okR m) = (okR m (s, a, b) && okR m (t, c, d)) := by simp
 rw [e] at this
 exact this
end Go.Proofs.Ytmhjcmochemndaa
