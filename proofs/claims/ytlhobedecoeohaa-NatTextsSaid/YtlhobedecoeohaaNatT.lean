/- One digit of the long division: the window, and the loop of the guess. -/
import Derived.Test.YtlhobedecoeohaaNatS
set_option linter.unusedVariables false
set_option linter.unusedSimpArgs false
namespace Go.Proofs.Ytlhobedecoeohaa
open Go Go.Proofs.Ytlhobedecoeohaa.Lift

/-- The state inside the long division, at digit k. -/
abbrev divSt (K L s v : Nat) (j : Int) (r q : List Nat) : St := ⟨[(14, .i .i64 j), (13, .own 2 0 (K + 1 - L) 1), (12, .i .i64 L), (11, nv v), (10, .own 0 0 (K + 1) 1), (9, .i .u64 s)], [(2, ⟨50, q.map u⟩), (0, ⟨50, r.map u⟩)], 3⟩

theorem getD_val {l : List Nat} (h : Dg l) (j : Nat) : l.getD j 0 = val l / 4294967296 ^ j % 4294967296 := by
  induction j generalizing l with
  | zero =>
    cases l with
    | nil => simp [val]
    | cons x l =>
      rw [Dg_cons] at h
      have := h.1
      simp [val]
      omega
  | succ j ih =>
    cases l with
    | nil => simp [val]
    | cons x l =>
      rw [Dg_cons] at h
      have h1 := h.1
      rw [List.getD_cons_succ, ih h.2, Nat.pow_succ, Nat.mul_comm (4294967296 ^ j), ← Nat.div_div_eq_div_mul]
      congr 2
      simp only [val]
      omega
theorem div_pow_step (n j : Nat) : n / 4294967296 ^ j = n / 4294967296 ^ (j + 1) * 4294967296 + n / 4294967296 ^ j % 4294967296 := by
  rw [Nat.pow_succ, ← Nat.div_div_eq_div_mul]
  omega
theorem getD_drop (l : List Nat) (k i : Nat) : (l.drop k).getD i 0 = l.getD (k + i) 0 := by
  rw [List.getD_eq_getElem?_getD, List.getD_eq_getElem?_getD, List.getElem?_drop]

/-- What the leading digits of the window say. -/
theorem window {r : List Nat} {k L v : Nat} (hdr : Dg r) (hL2 : 2 ≤ L) (hkr : k ≤ r.length) (hv1 : v < 4294967296 ^ L) (hrv : val r < v * 4294967296 ^ (k + 1)) :
    val (r.drop k) < v * 4294967296 ∧ val r / (v * 4294967296 ^ k) = val (r.drop k) / v ∧ r.getD (k + L) 0 * 4294967296 + r.getD (k + L - 1) 0 = val (r.drop k) / 4294967296 ^ (L - 1) ∧
    val (r.drop k) / 4294967296 ^ (L - 2) = val (r.drop k) / 4294967296 ^ (L - 1) * 4294967296 + r.getD (k + L - 2) 0 := by
  have h1 := val_take_drop r k hkr
  have h2 := val_lt (Dg_take hdr k)
  rw [List.length_take, Nat.min_eq_left hkr] at h2
  have hp : 0 < 4294967296 ^ k := Nat.pow_pos (by omega)
  have e0 : val r / 4294967296 ^ k = val (r.drop k) := by
    rw [h1, Nat.add_mul_div_left _ _ hp, Nat.div_eq_of_lt h2, Nat.zero_add]
  have hU : val (r.drop k) < v * 4294967296 := by
    rw [← e0, Nat.div_lt_iff_lt_mul hp, Nat.mul_assoc, Nat.mul_comm 4294967296, ← Nat.pow_succ]
    exact hrv
  have hU2 : val (r.drop k) < 4294967296 ^ (L + 1) := by
    have : v * 4294967296 ≤ 4294967296 ^ L * 4294967296 := Nat.mul_le_mul_right _ (Nat.le_of_lt hv1)
    rw [← Nat.pow_succ] at this
    omega
  have hdd := Dg_drop hdr k
  have g1 := getD_val hdd L
  have g2 := getD_val hdd (L - 1)
  have g3 := getD_val hdd (L - 2)
  rw [getD_drop] at g1 g2 g3
  rw [show k + (L - 1) = k + L - 1 by omega] at g2
  rw [show k + (L - 2) = k + L - 2 by omega] at g3
  have s1 := div_pow_step (val (r.drop k)) (L - 1)
  have s2 := div_pow_step (val (r.drop k)) (L - 2)
  rw [show L - 1 + 1 = L by omega, ← g2] at s1
  rw [show L - 2 + 1 = L - 1 by omega, ← g3] at s2
  have hlt : val (r.drop k) / 4294967296 ^ L < 4294967296 := by
    rw [Nat.div_lt_iff_lt_mul (Nat.pow_pos (by omega)), Nat.mul_comm, ← Nat.pow_succ]
    exact hU2
  rw [Nat.mod_eq_of_lt hlt] at g1
  refine ⟨hU, ?_, ?_, s2⟩
  · rw [Nat.mul_comm v, ← Nat.div_div_eq_div_mul, e0]
  · rw [g1]
    exact s1.symm

set_option maxRecDepth 20000 in
set_option maxHeartbeats 4000000 in
theorem guess_step {c : Code} (hc : partB 34 3 = some c) {O M : Nat → Prop} {w0 : World} {K L k s v top x3 y1 y2 Q0 g0 rest0 : Nat} {r q : List Nat} (hL2 : 2 ≤ L) (hK : K < 2 ^ 27) (hk : k + L ≤ K) (hvL : (digits v).length = L)
    (hr : r.length = K + 1) (hr3 : x3 < 4294967296) (hw1 : y1 < 4294967296) (hw2 : y2 < 4294967296) (hx3 : r.getD (k + L - 2) 0 = x3) (hy1 : (digits v).getD (L - 1) 0 = y1) (hy2 : (digits v).getD (L - 2) 0 = y2)
    (hlead : 2147483648 ≤ y1) (htop64 : top < 18446744073709551616) (htopb : top < (y1 + 1) * 4294967296) (hlo : ∀ g, top * 4294967296 + x3 < g * (y1 * 4294967296 + y2) → Q0 < g) (hhi : ∀ g, g * (y1 * 4294967296 + y2) ≤ top * 4294967296 + x3 → g ≤ 4294967296 → g ≤ Q0 + 1)
    (hQB : Q0 < 4294967296) (hinit : g0 * y1 + rest0 = top) (hrest0 : rest0 < 4294967296) (hfirst : Q0 ≤ g0) {Q : Exit → St → Prop}
    (hQ : ∀ g, Q0 ≤ g → g ≤ Q0 + 1 → g < 4294967296 → Q (.exit 3) ⟨[(16, .i .u64 g), (14, .i .i64 k), (13, .own 2 0 (K + 1 - L) 1), (12, .i .i64 L), (11, nv v), (10, .own 0 0 (K + 1) 1), (9, .i .u64 s)], [(2, ⟨50, q.map u⟩), (0, ⟨50, r.map u⟩)], 3⟩) :
    AX Try.prog ⟨315, O, M, w0, 0, fun _ => none⟩ c ⟨[(17, .i .u64 rest0), (16, .i .u64 g0), (14, .i .i64 k), (13, .own 2 0 (K + 1 - L) 1), (12, .i .i64 L), (11, nv v), (10, .own 0 0 (K + 1) 1), (9, .i .u64 s)], [(2, ⟨50, q.map u⟩), (0, ⟨50, r.map u⟩)], 3⟩ Q := by
  simp only [partB, Try.func34, Option.bind_some, findB, if_true, if_false, Nat.reduceEqDiff, reduceIte] at hc
  cases hc
  have k1 : ((k + L : Nat) : Int) - 1 = ((k + L - 1 : Nat) : Int) := by omega
  have k2 : ((k + L : Nat) : Int) - 2 = ((k + L - 2 : Nat) : Int) := by omega
  have k3 : ((L : Nat) : Int) - 1 = ((L - 1 : Nat) : Int) := by omega
  have k4 : ((L : Nat) : Int) - 2 = ((L - 2 : Nat) : Int) := by omega
  refine AX.loop (fun N st => ∃ rest : Nat, N * y1 + rest = top ∧ Q0 ≤ N ∧ rest < 4294967296 ∧ st = ⟨[(17, .i .u64 rest), (16, .i .u64 N), (14, .i .i64 k), (13, .own 2 0 (K + 1 - L) 1), (12, .i .i64 L), (11, nv v), (10, .own 0 0 (K + 1) 1), (9, .i .u64 s)], [(2, ⟨50, q.map u⟩), (0, ⟨50, r.map u⟩)], 3⟩) g0 ⟨rest0, hinit, hfirst, hrest0, rfl⟩ ?_
  clear hinit hrest0 hfirst rest0 g0
  rintro g st ⟨rest, hgr, hQg, hrest, rfl⟩
  have hsplit : g * (y1 * 4294967296 + y2) = g * y1 * 4294967296 + g * y2 := by rw [Nat.mul_add, Nat.mul_assoc]
  have hgy := hlo g
  have hgh := hhi g
  rw [hsplit] at hgy hgh
  by_cases hgo : 4294967296 ≤ g ∨ rest * 4294967296 + x3 < g * y2
  · have htB : g * y1 * 4294967296 + rest * 4294967296 = top * 4294967296 := by rw [← Nat.add_mul, hgr]
    have hgt : Q0 < g := by
      rcases hgo with e | e
      · exact Nat.lt_of_lt_of_le hQB e
      · exact hgy (by rw [← htB, Nat.add_assoc]; exact Nat.add_lt_add_left e _)
    refine AX.cut (fun st => st = ⟨[(17, .i .u64 rest), (16, .i .u64 g), (14, .i .i64 k), (13, .own 2 0 (K + 1 - L) 1), (12, .i .i64 L), (11, nv v), (10, .own 0 0 (K + 1) 1), (9, .i .u64 s)], [(2, ⟨50, q.map u⟩), (0, ⟨50, r.map u⟩)], 3⟩) ?_ ?_
    · clear hhi hlo hgh hgy hsplit htB hgt hQg hgr hQB htopb hQ
      by_cases hA : 4294967296 ≤ g
      · apply AX.sdreg [9, 10, 11, 12, 13, 14, 16, 17, 145] (by kernel_rfl) (by simp only [pq]; rfl)
        · repeat (first
         | (apply RunD.op rfl; · rfl
            · rfl
            iterate 2 (· (simp (disch := omega) only [go_sem, i64_of, u32_of, u64_of, Nat.reduceLT, Nat.reduceLeDiff, Nat.reduceEqDiff, Nat.reduceAdd, Nat.reduceSub, Nat.reduceMul, Nat.reducePow, Nat.reduceBEq, Int.reduceLE, Int.reduceLT, Int.reduceToNat, Int.reduceEq, Int.reduceNeg, reduceIte, reduceCtorEq]; rfl))
            · (simp only [pb, Nat.reduceLT, Nat.reduceAdd, reduceIte]; rfl)
            · rfl)
         | (apply RunD.skip; · rfl
            · (simp only [pb, Nat.reduceLT, Nat.reduceAdd, reduceIte]; rfl)
            · rfl))
          exact RunD.nil
        · repeat (first | exact Keep.nil | (apply Keep.take; · rfl) | (apply Keep.drop; · rfl))
        · kernel_rfl
        refine AX.cond_true (by simp only [valOf, lkp, if_true, if_false, Nat.reduceEqDiff, reduceIte]) ?_
        apply AX.keep (l := [9, 10, 11, 12, 13, 14, 16, 17])
        · repeat (first | exact Keep.nil | (apply Keep.take; · rfl) | (apply Keep.drop; · rfl))
        refine AX.skip ?_
        try simp only [thenS_normal, thenS_ret, thenS_exit, blockS_normal, blockS_ret, blockS_exit, backS_ret, backS_exit, if_true]
        first | exact trivial | exact ⟨trivial, trivial⟩
      · have hA' : g < 4294967296 := Nat.lt_of_not_le hA
        have hB : rest * 4294967296 + x3 < g * y2 := hgo.resolve_left hA
        have hgb := mul_bound hA' hw2
        apply AX.sdreg [9, 10, 11, 12, 13, 14, 16, 17, 145] (by kernel_rfl) (by simp only [pq]; rfl)
        · repeat (first
         | (apply RunD.op rfl; · rfl
            · rfl
            iterate 2 (· (simp (disch := omega) only [go_sem, i64_of, u32_of, u64_of, Nat.reduceLT, Nat.reduceLeDiff, Nat.reduceEqDiff, Nat.reduceAdd, Nat.reduceSub, Nat.reduceMul, Nat.reducePow, Nat.reduceBEq, Int.reduceLE, Int.reduceLT, Int.reduceToNat, Int.reduceEq, Int.reduceNeg, reduceIte, reduceCtorEq, ← Int.natCast_add, ← Int.natCast_mul, k2, k4, hvL, hy2, hx3, shl32, ori' hr3 hrest]; rfl))
            · (simp only [pb, Nat.reduceLT, Nat.reduceAdd, reduceIte]; rfl)
            · rfl)
         | (apply RunD.skip; · rfl
            · (simp only [pb, Nat.reduceLT, Nat.reduceAdd, reduceIte]; rfl)
            · rfl))
          exact RunD.nil
        · repeat (first | exact Keep.nil | (apply Keep.take; · rfl) | (apply Keep.drop; · rfl))
        · kernel_rfl
        refine AX.cond_true (by simp only [valOf, lkp, if_true, if_false, Nat.reduceEqDiff, reduceIte]) ?_
        apply AX.keep (l := [9, 10, 11, 12, 13, 14, 16, 17])
        · repeat (first | exact Keep.nil | (apply Keep.take; · rfl) | (apply Keep.drop; · rfl))
        refine AX.skip ?_
        try simp only [thenS_normal, thenS_ret, thenS_exit, blockS_normal, blockS_ret, blockS_exit, backS_ret, backS_exit, if_true]
        first | exact trivial | exact ⟨trivial, trivial⟩
    rintro st rfl
    clear hsplit hgy hgh
    obtain ⟨g', rfl⟩ : ∃ g', g = g' + 1 := ⟨g - 1, by omega⟩
    rw [Nat.add_mul, Nat.one_mul] at hgr
    have eg : ((g' + 1 : Nat) : Int) - 1 = (g' : Int) := by omega
    have hgh' := hhi g'
    rw [show g' * (y1 * 4294967296 + y2) = g' * y1 * 4294967296 + g' * y2 by rw [Nat.mul_add, Nat.mul_assoc]] at hgh'
    have hg64 : g' ≤ g' * y1 := Nat.le_mul_of_pos_right _ (by omega)
    have hg65 : g' < 18446744073709551616 := by omega
    refine AX.block ?_
    apply AX.sreg [9, 10, 11, 12, 13, 14, 16, 17] (by simp only [pq]; rfl)
    · repeat (first
     | (apply RunO.op rfl; · rfl
        · rfl
        iterate 2 (· (simp (disch := omega) only [go_sem, i64_of, u32_of, u64_of, Nat.reduceLT, Nat.reduceLeDiff, Nat.reduceEqDiff, Nat.reduceAdd, Nat.reduceSub, Nat.reduceMul, Nat.reducePow, Nat.reduceBEq, Int.reduceLE, Int.reduceLT, Int.reduceToNat, Int.reduceEq, Int.reduceNeg, reduceIte, reduceCtorEq, eg]; rfl))
        · (simp only [pb, Nat.reduceLT, Nat.reduceAdd, reduceIte]; rfl))
     | (apply RunO.skip; · rfl
        · (simp only [pb, Nat.reduceLT, Nat.reduceAdd, reduceIte]; rfl)))
      exact RunO.nil
    · repeat (first | exact Keep.nil | (apply Keep.take; · rfl) | (apply Keep.drop; · rfl))
    apply AX.sreg [9, 10, 11, 12, 13, 14, 16, 17] (by simp only [pq]; rfl)
    · repeat (first
     | (apply RunO.op rfl; · rfl
        · rfl
        iterate 2 (· (simp (disch := omega) only [go_sem, i64_of, u32_of, u64_of, Nat.reduceLT, Nat.reduceLeDiff, Nat.reduceEqDiff, Nat.reduceAdd, Nat.reduceSub, Nat.reduceMul, Nat.reducePow, Nat.reduceBEq, Int.reduceLE, Int.reduceLT, Int.reduceToNat, Int.reduceEq, Int.reduceNeg, reduceIte, reduceCtorEq, k3, hvL, hy1, ← Int.natCast_add]; rfl))
        · (simp only [pb, Nat.reduceLT, Nat.reduceAdd, reduceIte]; rfl))
     | (apply RunO.skip; · rfl
        · (simp only [pb, Nat.reduceLT, Nat.reduceAdd, reduceIte]; rfl)))
      exact RunO.nil
    · repeat (first | exact Keep.nil | (apply Keep.take; · rfl) | (apply Keep.drop; · rfl))
    by_cases hov : 4294967296 ≤ rest + y1
    · apply AX.sreg [9, 10, 11, 12, 13, 14, 16, 17, 157] (by simp only [pq]; rfl)
      · repeat (first
       | (apply RunO.op rfl; · rfl
          · rfl
          iterate 2 (· (simp (disch := omega) only [go_sem, i64_of, u32_of, u64_of, Nat.reduceLT, Nat.reduceLeDiff, Nat.reduceEqDiff, Nat.reduceAdd, Nat.reduceSub, Nat.reduceMul, Nat.reducePow, Nat.reduceBEq, Int.reduceLE, Int.reduceLT, Int.reduceToNat, Int.reduceEq, Int.reduceNeg, reduceIte, reduceCtorEq]; rfl))
          · (simp only [pb, Nat.reduceLT, Nat.reduceAdd, reduceIte]; rfl))
       | (apply RunO.skip; · rfl
          · (simp only [pb, Nat.reduceLT, Nat.reduceAdd, reduceIte]; rfl)))
        exact RunO.nil
      · repeat (first | exact Keep.nil | (apply Keep.take; · rfl) | (apply Keep.drop; · rfl))
      refine AX.cond_true (by simp only [valOf, lkp, if_true, if_false, Nat.reduceEqDiff, reduceIte]) ?_
      apply AX.keep (l := [9, 10, 11, 12, 13, 14, 16])
      · repeat (first | exact Keep.nil | (apply Keep.take; · rfl) | (apply Keep.drop; · rfl))
      refine AX.exit ?_
      try simp only [thenS_normal, thenS_ret, thenS_exit, blockS_normal, blockS_ret, blockS_exit, backS_ret, backS_exit, if_true]
      have hlt : g' < 4294967296 := by
        apply Nat.lt_of_mul_lt_mul_right (a := y1)
        have : (y1 + 1) * 4294967296 = 4294967296 * y1 + 4294967296 := by rw [Nat.add_mul, Nat.mul_comm]
        omega
      have hgb := mul_bound hlt hw2
      apply hQ g' (by omega) (hgh' (by omega) (Nat.le_of_lt hlt)) hlt
    · apply AX.sreg [9, 10, 11, 12, 13, 14, 16, 17, 157] (by simp only [pq]; rfl)
      · repeat (first
       | (apply RunO.op rfl; · rfl
          · rfl
          iterate 2 (· (simp (disch := omega) only [go_sem, i64_of, u32_of, u64_of, Nat.reduceLT, Nat.reduceLeDiff, Nat.reduceEqDiff, Nat.reduceAdd, Nat.reduceSub, Nat.reduceMul, Nat.reducePow, Nat.reduceBEq, Int.reduceLE, Int.reduceLT, Int.reduceToNat, Int.reduceEq, Int.reduceNeg, reduceIte, reduceCtorEq]; rfl))
          · (simp only [pb, Nat.reduceLT, Nat.reduceAdd, reduceIte]; rfl))
       | (apply RunO.skip; · rfl
          · (simp only [pb, Nat.reduceLT, Nat.reduceAdd, reduceIte]; rfl)))
        exact RunO.nil
      · repeat (first | exact Keep.nil | (apply Keep.take; · rfl) | (apply Keep.drop; · rfl))
      refine AX.cond_false (by simp only [valOf, lkp, if_true, if_false, Nat.reduceEqDiff, reduceIte]) ?_
      apply AX.keep (l := [9, 10, 11, 12, 13, 14, 16, 17])
      · repeat (first | exact Keep.nil | (apply Keep.take; · rfl) | (apply Keep.drop; · rfl))
      refine AX.skip ?_
      try simp only [thenS_normal, thenS_ret, thenS_exit, blockS_normal, blockS_ret, blockS_exit, backS_ret, backS_exit, if_true]
      exact ⟨g', _, id, Nat.lt_succ_self _,
        ⟨by simp only [LeFr, LeHp, lkp, V.ren, V.renL, Row.ren, V.lt, V.ltL, renL_u, ltL_u, List.length_append, List.length_cons, List.length_nil, List.length_set, id_eq, Option.some.injEq, V.i.injEq, V.b.injEq, V.own.injEq, Row.mk.injEq, decide_true, decide_eq_true_eq, true_and, and_true, Bool.and_true, Bool.true_and, if_true, if_false, and_self, Nat.reduceLT, Nat.reduceLeDiff, Nat.reduceEqDiff, Nat.reduceAdd, Nat.reduceSub, Nat.reduceMul, Nat.reducePow, Nat.reduceBEq, Int.reduceLE, Int.reduceLT, Int.reduceToNat, Int.reduceEq, Int.reduceNeg, reduceIte, reduceCtorEq] <;> (first | done | trivial | (and_intros <;> first | trivial | omega | assumption)), by simp only [LeFr, LeHp, lkp, V.ren, V.renL, Row.ren, V.lt, V.ltL, renL_u, ltL_u, List.length_append, List.length_cons, List.length_nil, List.length_set, id_eq, Option.some.injEq, V.i.injEq, V.b.injEq, V.own.injEq, Row.mk.injEq, decide_true, decide_eq_true_eq, true_and, and_true, Bool.and_true, Bool.true_and, if_true, if_false, and_self, Nat.reduceLT, Nat.reduceLeDiff, Nat.reduceEqDiff, Nat.reduceAdd, Nat.reduceSub, Nat.reduceMul, Nat.reducePow, Nat.reduceBEq, Int.reduceLE, Int.reduceLT, Int.reduceToNat, Int.reduceEq, Int.reduceNeg, reduceIte, reduceCtorEq] <;> (first | done | trivial | (and_intros <;> first | trivial | omega | assumption)), by simp [Apart], by first | exact Nat.zero_le _ | simp, by intro n hn; first | rfl | exact absurd hn (Nat.not_lt_zero _)⟩
        , ⟨rest + y1, by omega, by omega, by omega, rfl⟩⟩
  · have hA : g < 4294967296 := Nat.lt_of_not_le fun e => hgo (.inl e)
    have hB : ¬ rest * 4294967296 + x3 < g * y2 := fun e => hgo (.inr e)
    have hgb := mul_bound hA hw2
    refine AX.seq ?_
    apply AX.sdreg [9, 10, 11, 12, 13, 14, 16, 145] (by kernel_rfl) (by simp only [pq]; rfl)
    · repeat (first
     | (apply RunD.op rfl; · rfl
        · rfl
        iterate 2 (· (simp (disch := omega) only [go_sem, i64_of, u32_of, u64_of, Nat.reduceLT, Nat.reduceLeDiff, Nat.reduceEqDiff, Nat.reduceAdd, Nat.reduceSub, Nat.reduceMul, Nat.reducePow, Nat.reduceBEq, Int.reduceLE, Int.reduceLT, Int.reduceToNat, Int.reduceEq, Int.reduceNeg, reduceIte, reduceCtorEq, ← Int.natCast_add, ← Int.natCast_mul, k2, k4, hvL, hy2, hx3, shl32, ori' hr3 hrest]; rfl))
        · (simp only [pb, Nat.reduceLT, Nat.reduceAdd, reduceIte]; rfl)
        · rfl)
     | (apply RunD.skip; · rfl
        · (simp only [pb, Nat.reduceLT, Nat.reduceAdd, reduceIte]; rfl)
        · rfl))
      exact RunD.nil
    · repeat (first | exact Keep.nil | (apply Keep.take; · rfl) | (apply Keep.drop; · rfl))
    · kernel_rfl
    refine AX.cond_false (by simp only [valOf, lkp, if_true, if_false, Nat.reduceEqDiff, reduceIte]) ?_
    apply AX.keep (l := [9, 10, 11, 12, 13, 14, 16])
    · repeat (first | exact Keep.nil | (apply Keep.take; · rfl) | (apply Keep.drop; · rfl))
    refine AX.exit ?_
    try simp only [thenS_normal, thenS_ret, thenS_exit, blockS_normal, blockS_ret, blockS_exit, backS_ret, backS_exit, if_true]
    have hg1 : g ≤ Q0 + 1 := by
      apply hgh
      · have e5 : g * y1 * 4294967296 + rest * 4294967296 = top * 4294967296 := by rw [← Nat.add_mul, hgr]
        omega
      · omega
    exact hQ g hQg hg1 hA

end Go.Proofs.Ytlhobedecoeohaa
