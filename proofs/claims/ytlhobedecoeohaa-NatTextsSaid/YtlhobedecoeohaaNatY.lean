/- Bytes as values; slices.Reverse of bytes. -/
import Derived.Test.YtlhobedecoeohaaNat1
set_option linter.unusedVariables false
set_option linter.unusedSimpArgs false
namespace Go.Proofs.Ytlhobedecoeohaa
open Go Go.Proofs.Ytlhobedecoeohaa.Lift

/-- A byte as a value. -/
def y8 (x : Nat) : V := .i .u8 x
/-- The string of these bytes. -/
def strN (l : List Nat) : ByteArray := strOf (l.map Int.ofNat)

@[go_sem] theorem getD_y (l : List Nat) (j : Nat) (h : j < l.length) : (l.map y8).getD j .junk = V.i .u8 ((l.getD j 0 : Nat) : Int) := by
  simp [List.getD_eq_getElem?_getD, h, y8]
@[go_sem] theorem cells_y_len (l : List Nat) (j : Nat) : (((l.map y8).getD j .junk).cells).length = 1 := by
  rw [List.getD_eq_getElem?_getD, List.getElem?_map]
  cases l[j]? <;> rfl
theorem flatCells_y (l : List Nat) : flatCells (l.map y8) = l.map y8 := by
  unfold flatCells
  induction l with
  | nil => rfl
  | cons x l ih => simp only [List.map_cons, List.flatMap_cons, ih]; rfl
theorem flat_y (l : List Nat) : (l.map y8).all V.flat = true := by
  rw [List.all_eq_true]
  intro v hv
  obtain ⟨x, _, rfl⟩ := List.mem_map.1 hv
  rfl
theorem hfL_y (l : List Nat) : V.hfL (l.map y8) = true := by
  induction l with
  | nil => rfl
  | cons x l ih => simp only [List.map_cons, V.hfL, ih]; rfl
theorem renL_y (f : Nat → Nat) (l : List Nat) : V.renL f (l.map y8) = l.map y8 := by
  induction l with
  | nil => rfl
  | cons x l ih => simp only [List.map_cons, V.renL, ih]; rfl
theorem ltL_y (n : Nat) (l : List Nat) : V.ltL n (l.map y8) = true := by
  induction l with
  | nil => rfl
  | cons x l ih => simp only [List.map_cons, V.ltL, ih]; rfl
theorem set_y (l : List Nat) (j : Nat) (x : Nat) : (l.map y8).set j (V.i .u8 ((x : Nat) : Int)) = (l.set j x).map y8 := by
  rw [List.map_set]; rfl
theorem replicate_y (n : Nat) : List.replicate n (V.i .u8 0) = (List.replicate n 0).map y8 := by
  rw [List.map_replicate]; rfl
theorem append_y (l : List Nat) (x : Nat) : l.map y8 ++ [V.i .u8 ((x : Nat) : Int)] = (l ++ [x]).map y8 := by simp [y8]
theorem take_y (l : List Nat) (n : Nat) : (l.map y8).take n = (l.take n).map y8 := by rw [List.map_take]
theorem drop_y (l : List Nat) (n : Nat) : (l.map y8).drop n = (l.drop n).map y8 := by rw [List.map_drop]
theorem append_yx (l : List Nat) (x : Nat) : l.map y8 ++ [y8 x] = (l ++ [x]).map y8 := by simp
theorem flat_yx (x : Nat) : V.flat (y8 x) = true := rfl
theorem hf_yx (x : Nat) : V.hf (y8 x) = true := rfl
theorem cells_yx (x : Nat) : V.cells (y8 x) = [y8 x] := rfl
theorem ren_yx (f : Nat → Nat) (x : Nat) : V.ren f (y8 x) = y8 x := rfl
theorem numsOf_y (l : List Nat) : numsOf .u8 (l.map y8) = some (l.map Int.ofNat) := by
  induction l with
  | nil => rfl
  | cons x l ih =>
    show numsOf .u8 (V.i .u8 (x : Int) :: l.map y8) = _
    unfold numsOf
    simp only [ih, if_true]
    rfl
attribute [go_sem] append_yx flat_yx hf_yx cells_yx ren_yx flatCells_y flat_y hfL_y renL_y ltL_y set_y replicate_y append_y take_y drop_y numsOf_y

theorem getD_reverse (l : List Nat) (j : Nat) (h : j < l.length) : l.reverse.getD j 0 = l.getD (l.length - 1 - j) 0 := by
  rw [List.getD_eq_getElem?_getD, List.getElem?_reverse h, ← List.getD_eq_getElem?_getD]
theorem getD_set_swap (l : List Nat) (i k x y j : Nat) (hi : i < l.length) (hk : k < l.length) : ((l.set i x).set k y).getD j 0 = if j = k then y else if j = i then x else l.getD j 0 := by
  simp only [List.getD_eq_getElem?_getD, List.getElem?_set]
  by_cases h1 : j = k
  · subst h1
    simp [hk]
  · rw [if_neg (Ne.symm h1), if_neg h1]
    by_cases h2 : j = i
    · subst h2
      simp [hi]
    · rw [if_neg (Ne.symm h2), if_neg h2]

theorem reverse_ok (l : List Nat) (hl : l.length < 2 ^ 30) : HCall Try.prog 59 [.own 0 0 l.length 1] ⟨5, l.map y8⟩ ⟨5, l.reverse.map y8⟩ (.tup []) := by
  refine HCall.of_ax Try.call59 Try.func59 rfl (by simp [Try.ntmps59]) fun O M w G => ?_
  simp only [Try.ntmps59, Try.results59, argFr]
  apply AX.sreg [0, 2, 3] (by simp only [pq]; rfl)
  · repeat (first
   | (apply RunO.op rfl; · rfl
      · (simp only [opsOf, valsOf, valOf, lkp, ofConst, ofCell, Array.toList, Option.toList, List.map_cons, List.map_nil, List.cons_append, List.nil_append, List.append_nil, Nat.reduceEqDiff, Nat.reducePow, Nat.reduceLT, Nat.reduceLeDiff, reduceIte, if_true, if_false, IntKind.min, IntKind.max, IntKind.bits, IntKind.signed, Int.reduceLE, Int.reduceNeg, Int.reducePow, Int.reduceSub, and_self, Bool.false_eq_true, Nat.reduceSub]; rfl)
      iterate 2 (· (simp (disch := omega) only [go_sem, i64_of, u32_of, u64_of, Nat.reduceLT, Nat.reduceLeDiff, Nat.reduceEqDiff, Nat.reduceAdd, Nat.reduceSub, Nat.reduceMul, Nat.reducePow, Nat.reduceBEq, Int.reduceLE, Int.reduceLT, Int.reduceToNat, Int.reduceEq, Int.reduceNeg, reduceIte, reduceCtorEq]; rfl))
      · (simp only [pb, Nat.reduceLT, Nat.reduceAdd, reduceIte]; rfl))
   | (apply RunO.skip; · rfl
      · (simp only [pb, Nat.reduceLT, Nat.reduceAdd, reduceIte]; rfl)))
    exact RunO.nil
  · repeat (first | exact Keep.nil | (apply Keep.take; · rfl) | (apply Keep.drop; · rfl))
  refine AX.block ?_
  refine AX.loop (fun N st => ∃ (i : Nat) (r : List Nat), N = l.length - i ∧ 2 * i ≤ l.length ∧ r.length = l.length ∧ (∀ j, j < l.length → r.getD j 0 = if j < i ∨ l.length - i ≤ j then l.getD (l.length - 1 - j) 0 else l.getD j 0) ∧
    st = ⟨[(3, .i .i64 ((l.length : Int) - 1 - (i : Int))), (2, .i .i64 i), (0, .own 0 0 l.length 1)], [(0, ⟨5, r.map y8⟩)], 1⟩) l.length ⟨0, l, rfl, by omega, rfl, fun j hj => by rw [if_neg (by omega)], by simp⟩ ?_
  rintro N st ⟨i, r, rfl, hi, hr, hg, rfl⟩
  refine AX.seq ?_
  by_cases h : i < l.length - 1 - i
  · have e : (l.length : Int) - 1 - (i : Int) = ((l.length - 1 - i : Nat) : Int) := by omega
    obtain ⟨k, hk⟩ : ∃ k, k = l.length - 1 - i := ⟨_, rfl⟩
    rw [← hk] at e h
    rw [e]
    apply AX.sreg [0, 2, 3, 9] (by simp only [pq]; rfl)
    · repeat (first
     | (apply RunO.op rfl; · rfl
        · (simp only [opsOf, valsOf, valOf, lkp, ofConst, ofCell, Array.toList, Option.toList, List.map_cons, List.map_nil, List.cons_append, List.nil_append, List.append_nil, Nat.reduceEqDiff, Nat.reducePow, Nat.reduceLT, Nat.reduceLeDiff, reduceIte, if_true, if_false, IntKind.min, IntKind.max, IntKind.bits, IntKind.signed, Int.reduceLE, Int.reduceNeg, Int.reducePow, Int.reduceSub, and_self, Bool.false_eq_true, Nat.reduceSub]; rfl)
        iterate 2 (· (simp (disch := omega) only [go_sem, i64_of, u32_of, u64_of, Nat.reduceLT, Nat.reduceLeDiff, Nat.reduceEqDiff, Nat.reduceAdd, Nat.reduceSub, Nat.reduceMul, Nat.reducePow, Nat.reduceBEq, Int.reduceLE, Int.reduceLT, Int.reduceToNat, Int.reduceEq, Int.reduceNeg, reduceIte, reduceCtorEq]; rfl))
        · (simp only [pb, Nat.reduceLT, Nat.reduceAdd, reduceIte]; rfl))
     | (apply RunO.skip; · rfl
        · (simp only [pb, Nat.reduceLT, Nat.reduceAdd, reduceIte]; rfl)))
      exact RunO.nil
    · repeat (first | exact Keep.nil | (apply Keep.take; · rfl) | (apply Keep.drop; · rfl))
    refine AX.cond_true (by simp only [valOf, lkp, if_true, if_false, Nat.reduceEqDiff, reduceIte]) ?_
    apply AX.keep (l := [0, 2, 3])
    · repeat (first | exact Keep.nil | (apply Keep.take; · rfl) | (apply Keep.drop; · rfl))
    refine AX.skip ?_
    try simp only [thenS_normal, thenS_ret, thenS_exit, blockS_normal, blockS_ret, blockS_exit, backS_ret, backS_exit, if_true]
    refine AX.seq ?_
    refine AX.block ?_
    apply AX.dreg [0, 2, 3] (by kernel_rfl) (by simp only [pq]; rfl)
    · repeat (first
     | (apply RunD.op rfl; · rfl
        · (simp only [opsOf, valsOf, valOf, lkp, ofConst, ofCell, Array.toList, Option.toList, List.map_cons, List.map_nil, List.cons_append, List.nil_append, List.append_nil, Nat.reduceEqDiff, Nat.reducePow, Nat.reduceLT, Nat.reduceLeDiff, reduceIte, if_true, if_false, IntKind.min, IntKind.max, IntKind.bits, IntKind.signed, Int.reduceLE, Int.reduceNeg, Int.reducePow, Int.reduceSub, and_self, Bool.false_eq_true, Nat.reduceSub]; rfl)
        iterate 2 (· (simp (disch := omega) only [go_sem, i64_of, u32_of, u64_of, Nat.reduceLT, Nat.reduceLeDiff, Nat.reduceEqDiff, Nat.reduceAdd, Nat.reduceSub, Nat.reduceMul, Nat.reducePow, Nat.reduceBEq, Int.reduceLE, Int.reduceLT, Int.reduceToNat, Int.reduceEq, Int.reduceNeg, reduceIte, reduceCtorEq]; rfl))
        · (simp only [pb, Nat.reduceLT, Nat.reduceAdd, reduceIte]; rfl)
        · rfl)
     | (apply RunD.skip; · rfl
        · (simp only [pb, Nat.reduceLT, Nat.reduceAdd, reduceIte]; rfl)
        · rfl))
      exact RunD.nil
    · repeat (first | exact Keep.nil | (apply Keep.take; · rfl) | (apply Keep.drop; · rfl))
    · kernel_rfl
    try simp only [thenS_normal, thenS_ret, thenS_exit, blockS_normal, blockS_ret, blockS_exit, backS_ret, backS_exit, if_true]
    have e2 : (k : Int) - 1 = (l.length : Int) - 1 - ((i + 1 : Nat) : Int) := by omega
    apply AX.reg [0, 2, 3] (by simp only [pq]; rfl)
    · repeat (first
     | (apply RunO.op rfl; · rfl
        · (simp only [opsOf, valsOf, valOf, lkp, ofConst, ofCell, Array.toList, Option.toList, List.map_cons, List.map_nil, List.cons_append, List.nil_append, List.append_nil, Nat.reduceEqDiff, Nat.reducePow, Nat.reduceLT, Nat.reduceLeDiff, reduceIte, if_true, if_false, IntKind.min, IntKind.max, IntKind.bits, IntKind.signed, Int.reduceLE, Int.reduceNeg, Int.reducePow, Int.reduceSub, and_self, Bool.false_eq_true, Nat.reduceSub]; rfl)
        iterate 2 (· (simp (disch := omega) only [go_sem, i64_of, u32_of, u64_of, Nat.reduceLT, Nat.reduceLeDiff, Nat.reduceEqDiff, Nat.reduceAdd, Nat.reduceSub, Nat.reduceMul, Nat.reducePow, Nat.reduceBEq, Int.reduceLE, Int.reduceLT, Int.reduceToNat, Int.reduceEq, Int.reduceNeg, reduceIte, reduceCtorEq, lit_add, e2]; rfl))
        · (simp only [pb, Nat.reduceLT, Nat.reduceAdd, reduceIte]; rfl))
     | (apply RunO.skip; · rfl
        · (simp only [pb, Nat.reduceLT, Nat.reduceAdd, reduceIte]; rfl)))
      exact RunO.nil
    · repeat (first | exact Keep.nil | (apply Keep.take; · rfl) | (apply Keep.drop; · rfl))
    try simp only [thenS_normal, thenS_ret, thenS_exit, blockS_normal, blockS_ret, blockS_exit, backS_ret, backS_exit, if_true]
    have h1 := hg i (by omega)
    have h2 := hg k (by omega)
    rw [if_neg (by omega)] at h1 h2
    refine ⟨l.length - (i + 1), _, id, by omega,
      ⟨by simp only [renL_y, ltL_y, LeFr, LeHp, lkp, V.ren, V.renL, Row.ren, V.lt, V.ltL, renL_u, ltL_u, List.length_append, List.length_cons, List.length_nil, List.length_set, id_eq, Option.some.injEq, V.i.injEq, V.b.injEq, V.own.injEq, Row.mk.injEq, decide_true, decide_eq_true_eq, true_and, and_true, Bool.and_true, Bool.true_and, if_true, if_false, and_self, Nat.reduceLT, Nat.reduceLeDiff, Nat.reduceEqDiff, Nat.reduceAdd, Nat.reduceSub, Nat.reduceMul, Nat.reducePow, Nat.reduceBEq, Int.reduceLE, Int.reduceLT, Int.reduceToNat, Int.reduceEq, Int.reduceNeg, reduceIte, reduceCtorEq] <;> (first | done | trivial | (and_intros <;> first | trivial | omega | assumption)), by simp only [renL_y, ltL_y, LeFr, LeHp, lkp, V.ren, V.renL, Row.ren, V.lt, V.ltL, renL_u, ltL_u, List.length_append, List.length_cons, List.length_nil, List.length_set, id_eq, Option.some.injEq, V.i.injEq, V.b.injEq, V.own.injEq, Row.mk.injEq, decide_true, decide_eq_true_eq, true_and, and_true, Bool.and_true, Bool.true_and, if_true, if_false, and_self, Nat.reduceLT, Nat.reduceLeDiff, Nat.reduceEqDiff, Nat.reduceAdd, Nat.reduceSub, Nat.reduceMul, Nat.reducePow, Nat.reduceBEq, Int.reduceLE, Int.reduceLT, Int.reduceToNat, Int.reduceEq, Int.reduceNeg, reduceIte, reduceCtorEq] <;> (first | done | trivial | (and_intros <;> first | trivial | omega | assumption)), by simp [Apart], by first | exact Nat.zero_le _ | simp, by intro n hn; first | rfl | exact absurd hn (Nat.not_lt_zero _)⟩
      , ⟨i + 1, (r.set i (r.getD k 0)).set k (r.getD i 0), rfl, by omega, by simp [hr], ?_, rfl⟩⟩
    intro j hj
    rw [getD_set_swap _ _ _ _ _ _ (by omega) (by omega), h1, h2]
    by_cases j1 : j = k
    · rw [if_pos j1, if_pos (by omega)]
      congr 1
      omega
    · rw [if_neg j1]
      by_cases j2 : j = i
      · rw [if_pos j2, if_pos (by omega)]
        congr 1
        omega
      · rw [if_neg j2, hg j hj]
        by_cases j3 : j < i ∨ l.length - i ≤ j
        · rw [if_pos j3, if_pos (by omega)]
        · rw [if_neg j3, if_neg (by omega)]
  · apply AX.sreg [0, 2, 3, 9] (by simp only [pq]; rfl)
    · repeat (first
     | (apply RunO.op rfl; · rfl
        · (simp only [opsOf, valsOf, valOf, lkp, ofConst, ofCell, Array.toList, Option.toList, List.map_cons, List.map_nil, List.cons_append, List.nil_append, List.append_nil, Nat.reduceEqDiff, Nat.reducePow, Nat.reduceLT, Nat.reduceLeDiff, reduceIte, if_true, if_false, IntKind.min, IntKind.max, IntKind.bits, IntKind.signed, Int.reduceLE, Int.reduceNeg, Int.reducePow, Int.reduceSub, and_self, Bool.false_eq_true, Nat.reduceSub]; rfl)
        iterate 2 (· (simp (disch := omega) only [go_sem, i64_of, u32_of, u64_of, Nat.reduceLT, Nat.reduceLeDiff, Nat.reduceEqDiff, Nat.reduceAdd, Nat.reduceSub, Nat.reduceMul, Nat.reducePow, Nat.reduceBEq, Int.reduceLE, Int.reduceLT, Int.reduceToNat, Int.reduceEq, Int.reduceNeg, reduceIte, reduceCtorEq]; rfl))
        · (simp only [pb, Nat.reduceLT, Nat.reduceAdd, reduceIte]; rfl))
     | (apply RunO.skip; · rfl
        · (simp only [pb, Nat.reduceLT, Nat.reduceAdd, reduceIte]; rfl)))
      exact RunO.nil
    · repeat (first | exact Keep.nil | (apply Keep.take; · rfl) | (apply Keep.drop; · rfl))
    refine AX.cond_false (by simp only [valOf, lkp, if_true, if_false, Nat.reduceEqDiff, reduceIte]) ?_
    apply AX.keep (l := [0, 2, 3])
    · repeat (first | exact Keep.nil | (apply Keep.take; · rfl) | (apply Keep.drop; · rfl))
    refine AX.exit ?_
    try simp only [thenS_normal, thenS_ret, thenS_exit, blockS_normal, blockS_ret, blockS_exit, backS_ret, backS_exit, if_true]
    have hrev : r = l.reverse := by
      refine eq_of_getD (by simp [hr]) fun j hj => ?_
      rw [hg j (by omega), getD_reverse l j (by omega)]
      by_cases j3 : j < i ∨ l.length - i ≤ j
      · rw [if_pos j3]
      · rw [if_neg j3]
        congr 1
        omega
    subst hrev
    refine ⟨by simp, [], rfl, rfl, rfl, rfl, rfl, ltL_y _ _, renL_y _ _⟩

end Go.Proofs.Ytlhobedecoeohaa
