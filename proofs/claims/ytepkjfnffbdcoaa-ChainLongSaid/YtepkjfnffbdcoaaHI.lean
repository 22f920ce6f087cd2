/- Chains: picked, within. -/
import Derived.Test.YtepkjfnffbdcoaaHM
set_option linter.unusedVariables false
set_option maxRecDepth 20000
set_option linter.unusedSimpArgs false
namespace Go.Proofs.Ytepkjfnffbdcoaa
open Go Go.Proofs.Ytepkjfnffbdcoaa.Lift
attribute [local irreducible] Lift.PCall Lift.HCall

/-! ### Lists of numbers -/
def il (l : List Nat) : List V := l.map fun (j : Nat) => V.i .i64 (j : Int)
theorem il_length (l : List Nat) : (il l).length = l.length := List.length_map ..
theorem il_get {l : List Nat} {j : Nat} (h : j < l.length) : (il l).getD j .junk = .i .i64 ((l.getD j 0 : Nat) : Int) := by
  simp [il, List.getD_eq_getElem?_getD, h]
theorem il_app (l : List Nat) (x : Nat) : il l ++ [.i .i64 (x : Int)] = il (l ++ [x]) := by simp [il]
theorem il_nil : ([] : List V) = il [] := rfl
theorem il_hf (l : List Nat) : V.hfL (il l) = true ∧ (il l).all V.flat = true := by
  induction l with
  | nil => exact ⟨rfl, rfl⟩
  | cons a l ih =>
    refine ⟨?_, ?_⟩
    · show V.hfL (V.i .i64 (a : Int) :: il l) = true
      simp only [V.hfL, ih.1, V.hf, Bool.and_self]
    · show (V.i .i64 (a : Int) :: il l).all V.flat = true
      rw [List.all_cons, ih.2]
      rfl
theorem ren_il (f : Nat → Nat) (l : List Nat) : V.renL f (il l) = il l := (hf_names f 0 _ (il_hf l).1).1
theorem lt_il (k : Nat) (l : List Nat) : V.ltL k (il l) = true := (hf_names id k _ (il_hf l).1).2
theorem Lift.Done.slI {P : Program} {st : St} {t : Tmp} {h n : Nat} {l : List Nat} {T : TypeId} (h1 : lkp st.fr t = some (.own h 0 n 1)) (h2 : lkp st.hp h = some ⟨T, il l⟩) (hn : n = l.length) : Done P #[.tmp t] (.sl (il l)) [] st := by
  subst hn
  have e : List.take l.length (List.drop 0 (il l)) = il l := by rw [List.drop_zero]; exact List.take_of_length_le (by rw [il_length]; exact Nat.le_refl _)
  refine Done.of (vs := [.own h 0 l.length 1]) (hp := dlt st.hp h) ?_ ?_ rfl ?_ ?_
  · simp only [resVs, resV, h1]
  · simp only [packV, frz, h2, List.not_mem_nil, if_false, Nat.mul_one, Nat.zero_add, il_length, Nat.le_refl, e, (il_hf l).1, (il_hf l).2, and_self, if_true, Nat.lt_succ_self, Nat.zero_lt_one, true_and, chunks_one]
  · simp only [V.lt]
  · simp only [V.ren]
attribute [go_sem] Try.underlying87

/-! ### picked -/
def pick (n : Nat) (f : Nat → Bool) : List Nat := (List.range n).filter f
theorem pick_succ (n : Nat) (f : Nat → Bool) : pick (n + 1) f = if f n = true then pick n f ++ [n] else pick n f := by
  unfold pick
  rw [List.range_succ, List.filter_append]
  cases h : f n
  · simp [h]
  · simp [h]
theorem pick_le (n : Nat) (f : Nat → Bool) : (pick n f).length ≤ n := by
  have := List.length_filter_le f (List.range n)
  rwa [List.length_range] at this

set_option maxHeartbeats 4000000 in
theorem picked_ok (n : Nat) (hn : n ≤ 60) (f : Nat → Bool) : PCall Try.prog 69 [.sl (bl n f)] (.sl (il (pick n f))) [] := by
  refine PCall.of_ax Try.call69 Try.func69 rfl (by simp [Try.ntmps69]) fun O w => ?_
  simp only [Try.ntmps69, Try.results69, argFr]
  have hl := bl_length n f
  refine AX.sregAV [0] (hq := ?_)
  refine AX.sregAV [0, 3] (hq := ?_)
  refine AX.own0 3 3 1 rfl ?_
  refine AX.seq ?_
  refine AX.sregWV [3, 6, 7, 8] (And.intro @hl True.intro) True.intro (hq := ?_)
  refine AX.weaken id (st' := ⟨[(8, .i .i64 (0 : Nat)), (7, .i .i64 n), (6, .sl (bl n f)), (3, .own 0 0 (pick 0 f).length 1)], [(0, ⟨3, il (pick 0 f)⟩)], 1⟩)
    ⟨by simp only [ren_q, renL_u, ren_z, ren_bl, ren_il, lt_q, ltL_u, lt_z, lt_bl, lt_il, LeFr, LeHp, lkp, V.ren, V.renL, Row.ren, V.lt, V.ltL, renL_u, ltL_u, List.length_append, List.length_cons, List.length_nil, List.length_set, id_eq, Option.some.injEq, V.i.injEq, V.b.injEq, V.own.injEq, Row.mk.injEq, decide_true, decide_eq_true_eq, true_and, and_true, Bool.and_true, Bool.true_and, if_true, if_false, and_self, Nat.reduceLT, Nat.reduceLeDiff, Nat.reduceEqDiff, Nat.reduceAdd, Nat.reduceSub, Nat.reduceMul, Nat.reducePow, Nat.reduceBEq, Int.reduceLE, Int.reduceLT, Int.reduceToNat, Int.reduceEq, Int.reduceNeg, reduceIte, reduceCtorEq] <;> (first | done | trivial | (and_intros <;> first | trivial | omega | assumption)), by simp only [ren_q, renL_u, ren_z, ren_bl, ren_il, lt_q, ltL_u, lt_z, lt_bl, lt_il, LeFr, LeHp, lkp, V.ren, V.renL, Row.ren, V.lt, V.ltL, renL_u, ltL_u, List.length_append, List.length_cons, List.length_nil, List.length_set, id_eq, Option.some.injEq, V.i.injEq, V.b.injEq, V.own.injEq, Row.mk.injEq, decide_true, decide_eq_true_eq, true_and, and_true, Bool.and_true, Bool.true_and, if_true, if_false, and_self, Nat.reduceLT, Nat.reduceLeDiff, Nat.reduceEqDiff, Nat.reduceAdd, Nat.reduceSub, Nat.reduceMul, Nat.reducePow, Nat.reduceBEq, Int.reduceLE, Int.reduceLT, Int.reduceToNat, Int.reduceEq, Int.reduceNeg, reduceIte, reduceCtorEq] <;> (first | done | trivial | (and_intros <;> first | trivial | omega | assumption)), by simp [Apart], by first | exact Nat.zero_le _ | simp, by intro n hn; first | rfl | exact absurd hn (Nat.not_lt_zero _) | (have h0 : n = 0 := Nat.lt_one_iff.1 hn; subst h0; rfl)⟩
    ?_
  refine AX.block ?_
  refine AX.loop (fun N st => ∃ (i : Nat) (l : List Nat), i ≤ n ∧ N = n - i ∧ pick i f = l ∧ st = ⟨[(8, .i .i64 i), (7, .i .i64 n), (6, .sl (bl n f)), (3, .own 0 0 l.length 1)], [(0, ⟨3, il l⟩)], 1⟩) n ⟨0, _, Nat.zero_le _, rfl, rfl, rfl⟩ ?_
  rintro N st ⟨i, l, hi, rfl, hpk, rfl⟩
  by_cases h1 : i < n
  · have hg := bl_get f h1
    have hs := pick_succ i f
    rw [hpk] at hs
    have hll := il_length l
    have hlb : l.length ≤ 60 := by
      have := pick_le i f
      rw [hpk] at this
      omega
    cases hf : f i
    · rw [hf] at hg
      rw [if_neg (by rw [hf]; exact Bool.false_ne_true)] at hs
      refine AX.sregAV [3, 6, 7, 8, 9] (hq := ?_)
      refine AX.seq ?_
      refine AX.condT (h := ?_)
      refine AX.keepA [3, 6, 7, 8] (h := ?_)
      refine AX.skip ?_
      try simp only [thenS_normal, thenS_ret, thenS_exit, blockS_normal, blockS_ret, blockS_exit, backS_ret, backS_exit, if_true]
      refine AX.seq ?_
      refine AX.block ?_
      refine AX.sregWV [3, 4, 5, 6, 7, 8] (And.intro @hl (And.intro @hg True.intro)) True.intro (hq := ?_)
      refine AX.sregAV [3, 4, 6, 7, 8, 13] (hq := ?_)
      refine AX.condF (h := ?_)
      refine AX.keepA [3, 6, 7, 8] (h := ?_)
      refine AX.skip ?_
      try simp only [thenS_normal, thenS_ret, thenS_exit, blockS_normal, blockS_ret, blockS_exit, backS_ret, backS_exit, if_true]
      refine AX.regWV [3, 6, 7, 8] (And.intro @lit_add True.intro) True.intro (hq := ?_)
      try simp only [thenS_normal, thenS_ret, thenS_exit, blockS_normal, blockS_ret, blockS_exit, backS_ret, backS_exit, if_true]
      refine ⟨_, _, id, ?_,
        ⟨by simp only [ren_q, renL_u, ren_z, ren_bl, ren_il, lt_q, ltL_u, lt_z, lt_bl, lt_il, LeFr, LeHp, lkp, V.ren, V.renL, Row.ren, V.lt, V.ltL, renL_u, ltL_u, List.length_append, List.length_cons, List.length_nil, List.length_set, id_eq, Option.some.injEq, V.i.injEq, V.b.injEq, V.own.injEq, Row.mk.injEq, decide_true, decide_eq_true_eq, true_and, and_true, Bool.and_true, Bool.true_and, if_true, if_false, and_self, Nat.reduceLT, Nat.reduceLeDiff, Nat.reduceEqDiff, Nat.reduceAdd, Nat.reduceSub, Nat.reduceMul, Nat.reducePow, Nat.reduceBEq, Int.reduceLE, Int.reduceLT, Int.reduceToNat, Int.reduceEq, Int.reduceNeg, reduceIte, reduceCtorEq] <;> (first | done | trivial | (and_intros <;> first | trivial | omega | assumption)), by simp only [ren_q, renL_u, ren_z, ren_bl, ren_il, lt_q, ltL_u, lt_z, lt_bl, lt_il, LeFr, LeHp, lkp, V.ren, V.renL, Row.ren, V.lt, V.ltL, renL_u, ltL_u, List.length_append, List.length_cons, List.length_nil, List.length_set, id_eq, Option.some.injEq, V.i.injEq, V.b.injEq, V.own.injEq, Row.mk.injEq, decide_true, decide_eq_true_eq, true_and, and_true, Bool.and_true, Bool.true_and, if_true, if_false, and_self, Nat.reduceLT, Nat.reduceLeDiff, Nat.reduceEqDiff, Nat.reduceAdd, Nat.reduceSub, Nat.reduceMul, Nat.reducePow, Nat.reduceBEq, Int.reduceLE, Int.reduceLT, Int.reduceToNat, Int.reduceEq, Int.reduceNeg, reduceIte, reduceCtorEq] <;> (first | done | trivial | (and_intros <;> first | trivial | omega | assumption)), by simp [Apart], by first | exact Nat.zero_le _ | simp, by intro n hn; first | rfl | exact absurd hn (Nat.not_lt_zero _) | (have h0 : n = 0 := Nat.lt_one_iff.1 hn; subst h0; rfl)⟩
        , ⟨i + 1, l, by omega, rfl, hs, rfl⟩⟩
      omega
    · rw [hf] at hg
      rw [if_pos hf] at hs
      have happ := il_app l i
      have hlen : (l ++ [i]).length = l.length + 1 := by simp
      generalize l ++ [i] = l2 at *
      refine AX.sregAV [3, 6, 7, 8, 9] (hq := ?_)
      refine AX.seq ?_
      refine AX.condT (h := ?_)
      refine AX.keepA [3, 6, 7, 8] (h := ?_)
      refine AX.skip ?_
      try simp only [thenS_normal, thenS_ret, thenS_exit, blockS_normal, blockS_ret, blockS_exit, backS_ret, backS_exit, if_true]
      refine AX.seq ?_
      refine AX.block ?_
      refine AX.sregWV [3, 4, 5, 6, 7, 8] (And.intro @hl (And.intro @hg True.intro)) True.intro (hq := ?_)
      refine AX.sregAV [3, 4, 6, 7, 8, 13] (hq := ?_)
      refine AX.condT (h := ?_)
      apply AX.reg [3, 6, 7, 8] (by simp only [pq]; rfl)
      · repeat (first
       | (apply RunO.op rfl; · rfl
          · (simp only [opsOf, valsOf, valOf, lkp, ofConst, ofCell, Array.toList, Option.toList, List.map_cons, List.map_nil, List.cons_append, List.nil_append, List.append_nil, Nat.reduceEqDiff, Nat.reducePow, Nat.reduceLT, Nat.reduceLeDiff, reduceIte, if_true, if_false, IntKind.min, IntKind.max, IntKind.bits, IntKind.signed, Int.reduceLE, Int.reduceNeg, Int.reducePow, Int.reduceSub, and_self, Bool.false_eq_true, Nat.reduceSub]; rfl)
          iterate 2 (· (simp (disch := omega) only [go_sem, i64_of, u32_of, u64_of, Nat.reduceLT, Nat.reduceLeDiff, Nat.reduceEqDiff, Nat.reduceAdd, Nat.reduceSub, Nat.reduceMul, Nat.reducePow, Nat.reduceBEq, Int.reduceLE, Int.reduceLT, Int.reduceToNat, Int.reduceEq, Int.reduceNeg, reduceIte, reduceCtorEq, hll, zerosV_1, List.take_succ_cons, List.take_zero, List.set_cons_zero, List.set_cons_succ]; rfl))
          · (simp only [pb, Nat.reduceLT, Nat.reduceAdd, reduceIte]; rfl))
       | (apply RunO.skip; · rfl
          · (simp only [pb, Nat.reduceLT, Nat.reduceAdd, reduceIte]; rfl)))
        exact RunO.nil
      · repeat (first | exact Keep.nil | (apply Keep.take; · rfl) | (apply Keep.drop; · rfl))
      try simp only [thenS_normal, thenS_ret, thenS_exit, blockS_normal, blockS_ret, blockS_exit, backS_ret, backS_exit, if_true]
      rw [happ]
      refine AX.regWV [3, 6, 7, 8] (And.intro @lit_add True.intro) True.intro (hq := ?_)
      try simp only [thenS_normal, thenS_ret, thenS_exit, blockS_normal, blockS_ret, blockS_exit, backS_ret, backS_exit, if_true]
      refine ⟨_, _, fun n => if n = 0 then 2 else n, ?_,
        ⟨by simp only [ren_q, renL_u, ren_z, ren_bl, ren_il, lt_q, ltL_u, lt_z, lt_bl, lt_il, LeFr, LeHp, lkp, V.ren, V.renL, Row.ren, V.lt, V.ltL, renL_u, ltL_u, List.length_append, List.length_cons, List.length_nil, List.length_set, id_eq, Option.some.injEq, V.i.injEq, V.b.injEq, V.own.injEq, Row.mk.injEq, decide_true, decide_eq_true_eq, true_and, and_true, Bool.and_true, Bool.true_and, if_true, if_false, and_self, Nat.reduceLT, Nat.reduceLeDiff, Nat.reduceEqDiff, Nat.reduceAdd, Nat.reduceSub, Nat.reduceMul, Nat.reducePow, Nat.reduceBEq, Int.reduceLE, Int.reduceLT, Int.reduceToNat, Int.reduceEq, Int.reduceNeg, reduceIte, reduceCtorEq] <;> (first | done | trivial | (and_intros <;> first | trivial | omega | assumption)), by simp only [ren_q, renL_u, ren_z, ren_bl, ren_il, lt_q, ltL_u, lt_z, lt_bl, lt_il, LeFr, LeHp, lkp, V.ren, V.renL, Row.ren, V.lt, V.ltL, renL_u, ltL_u, List.length_append, List.length_cons, List.length_nil, List.length_set, id_eq, Option.some.injEq, V.i.injEq, V.b.injEq, V.own.injEq, Row.mk.injEq, decide_true, decide_eq_true_eq, true_and, and_true, Bool.and_true, Bool.true_and, if_true, if_false, and_self, Nat.reduceLT, Nat.reduceLeDiff, Nat.reduceEqDiff, Nat.reduceAdd, Nat.reduceSub, Nat.reduceMul, Nat.reducePow, Nat.reduceBEq, Int.reduceLE, Int.reduceLT, Int.reduceToNat, Int.reduceEq, Int.reduceNeg, reduceIte, reduceCtorEq] <;> (first | done | trivial | (and_intros <;> first | trivial | omega | assumption)), by simp [Apart], by first | exact Nat.zero_le _ | simp, by intro n hn; first | rfl | exact absurd hn (Nat.not_lt_zero _) | (have h0 : n = 0 := Nat.lt_one_iff.1 hn; subst h0; rfl)⟩
        , ⟨i + 1, l2, by omega, rfl, hs, rfl⟩⟩
      omega
  · have e : i = n := by omega
    subst e
    rw [hpk]
    refine AX.sregAV [3, 6, 7, 8, 9] (hq := ?_)
    refine AX.seq ?_
    refine AX.condF (h := ?_)
    refine AX.exit ?_
    try simp only [thenS_normal, thenS_ret, thenS_exit, blockS_normal, blockS_ret, blockS_exit, backS_ret, backS_exit, if_true]
    refine AX.sregAV [2] (hq := ?_)
    refine AX.ret (And.intro (Or.inl rfl) ?_)
    exact Done.slI rfl rfl rfl

end Go.Proofs.Ytepkjfnffbdcoaa

/- Chains: within. -/
set_option linter.unusedVariables false
set_option linter.unusedSimpArgs false
namespace Go.Proofs.Ytepkjfnffbdcoaa
open Go Go.Proofs.Ytepkjfnffbdcoaa.Lift
attribute [local irreducible] Lift.PCall Lift.HCall

/-- The cells of the moves of the states that reach an exit. -/
def pkM (t : Bool) (of : List Nat) (A : Mx) : Mx := fun i k => if t = true then A (of.getD k 0) (of.getD i 0) else A (of.getD i 0) (of.getD k 0)
/-- Identity less them. -/
def subM (t : Bool) (of : List Nat) (A : Mx) : Mx := fun i k => if i = k then 1 + -pkM t of A i k else -pkM t of A i k
theorem rL_neg' (q : Rat) : rL (-q) = rL q := rL_neg q
theorem rL1 : rL (1 : Rat) ≤ 1 := by
  have : rL (rq false 1 1) ≤ 1 := rL_rq (by rw [show (1 : Nat) = 0 + 1 from rfl]; exact digits_length_le (by decide)) (by rw [show (1 : Nat) = 0 + 1 from rfl]; exact digits_length_le (by decide)) (Nat.le_refl _)
  exact this
theorem rL_one (q : Rat) {B : Nat} (hq : rL q ≤ B) (hB : 1 ≤ B) : rL (1 + q) ≤ B + 1 := by
  have eq := rq_self q
  have e1 : rq (decide ((1 : Rat).num < 0)) (1 : Rat).num.natAbs (1 : Rat).den = 1 := rq_self 1
  have q1 : (digits q.num.natAbs).length ≤ B := Nat.le_trans (Nat.le_max_left _ _) hq
  have q2 : (digits q.den).length ≤ B := Nat.le_trans (Nat.le_max_right _ _) hq
  rw [← e1, ← eq, add_rq (by decide) q.den_nz]
  have n1 : (1 : Rat).num.natAbs = 1 := rfl
  have n2 : (1 : Rat).den = 1 := rfl
  rw [n1, n2, Nat.one_mul, Nat.mul_one]
  have l4 := len_sum (m := q.den) (n := q.num.natAbs) (K := B) q2 q1
  refine rL_mk _ _ _ ?_ (by omega) (by omega)
  refine Nat.le_trans (digits_len_mono (n := q.den + q.num.natAbs) ?_) l4
  have h1 := sg_natAbs (decide ((1 : Rat).num < 0)) q.den
  have h2 := sg_natAbs (decide (q.num < 0)) q.num.natAbs
  omega
theorem subM_len {t : Bool} {of : List Nat} {A : Mx} {L n i k : Nat} (hA : ∀ i k, i < n → k < n → rL (A i k) ≤ L) (hL1 : 1 ≤ L) (hi : of.getD i 0 < n) (hk : of.getD k 0 < n) : rL (subM t of A i k) ≤ L + 1 := by
  have h : rL (-pkM t of A i k) ≤ L := by
    rw [rL_neg]
    unfold pkM
    split
    · exact hA _ _ hk hi
    · exact hA _ _ hi hk
  unfold subM
  split
  · exact rL_one _ h hL1
  · omega

set_option maxHeartbeats 16000000 in
theorem within_ok (n m L : Nat) (hn : n ≤ 60) (hm : m ≤ 60) (A B : Mx) (hA : ∀ i k, i < n → k < n → rL (A i k) ≤ L) (of : List Nat) (p : Nat) (hp : of.length = p) (hp60 : p ≤ 60) (hof : ∀ i, i < p → of.getD i 0 < n) (cols : Nat) (hcols : cols ≤ 60)
    (g : FuncId) (caps : List V) (hh : V.hfL caps = true) (R : Mx) (turned : Bool) (hside : ∀ i k, i < p → k < cols → PCall Try.prog g (.i .i64 (of.getD i 0 : Nat) :: .i .i64 k :: cnlL caps) (.agg [.b (decide ((R i k).num < 0)), dg (digits (R i k).num.natAbs), dg (digits (R i k).den)]) [])
    (hN : NonSing p (subM turned of A)) (hR : ∀ i k, i < p → k < cols → rL (R i k) ≤ L + 1) (hL1 : 1 ≤ L) (hL2 : 4 * bigL p (L + 1) < 2 ^ 33) :
    PCall Try.prog 71 [cV n m A B, .sl (il of), .i .i64 cols, .fn g caps, .b turned] (qM p cols (solX p (subM turned of A) R)) [] := by
  have hU := U_le p (L + 1)
  have hU1 : 1 * (L + 1 + 1) ≤ 4 ^ p * (L + 1 + 1) := Nat.mul_le_mul_right _ (Nat.pow_pos (by omega))
  have cs := solve_ok p cols (L + 1) hp60 hcols (subM turned of A) R hN (fun i j hi hj => subM_len hA hL1 (hof i hi) (hof j hj)) hR (by omega) hL2
  have co : PCall Try.prog 35 [] (rR (decide ((1 : Rat).num < 0)) (digits (1 : Rat).num.natAbs) (digits (1 : Rat).den)) [] := one_ok
  have cneg : ∀ q : Rat, rL q ≤ L → PCall Try.prog 77 [.agg [.b (decide (q.num < 0)), dg (digits q.num.natAbs), dg (digits q.den)]] (.agg [.b (decide ((-q).num < 0)), dg (digits (-q).num.natAbs), dg (digits (-q).den)]) [] := fun q hq => qneg_ok (IsQ.of hq) (by omega)
  have cadd : ∀ q : Rat, rL q ≤ L → PCall Try.prog 20 [rR (decide ((1 : Rat).num < 0)) (digits (1 : Rat).num.natAbs) (digits (1 : Rat).den), .agg [.b (decide ((-q).num < 0)), dg (digits (-q).num.natAbs), dg (digits (-q).den)]] (.agg [.b (decide ((1 + -q).num < 0)), dg (digits (1 + -q).num.natAbs), dg (digits (1 + -q).den)]) [] := fun q hq => qadd_ok (L := L) (IsQ.of (Nat.le_trans rL1 hL1)) (IsQ.of (by rw [rL_neg]; exact hq)) (by omega)
  refine PCall.of_ax Try.call71 Try.func71 rfl (by simp [Try.ntmps71]) fun O w => ?_
  simp only [Try.ntmps71, Try.results71, argFr]
  have hren : ∀ f, V.renL f caps = caps := fun f => (hf_names f 0 caps hh).1
  have hlt : ∀ n, V.ltL n caps = true := fun n => (hf_names id n caps hh).2
  have hcA := fun (i k : Nat) (hi : i < n) (hk : k < n) => ccell_q hn hn A hi hk
  have hll := il_length of
  rw [hp] at hll
  have hget := fun (i : Nat) (hi : i < p) => il_get (l := of) (j := i) (by omega)
  have hpk : ∀ i k, pkM turned of A i k = if turned = true then A (of.getD k 0) (of.getD i 0) else A (of.getD i 0) (of.getD k 0) := fun _ _ => rfl
  have hsub : ∀ i k, subM turned of A i k = if i = k then 1 + -pkM turned of A i k else -pkM turned of A i k := fun _ _ => rfl
  have hpl : ∀ i k, i < p → k < p → rL (pkM turned of A i k) ≤ L := fun i k hi hk => by
    rw [hpk]
    split
    · exact hA _ _ (hof k hk) (hof i hi)
    · exact hA _ _ (hof i hi) (hof k hk)
  clear hA
  unfold cV
  generalize (mcells n A (n * n)).map rV = Ac at *
  generalize (mcells m B (n * m)).map rV = Bc at *
  generalize hSM : subM turned of A = S at *
  generalize hPM : pkM turned of A = Pk at *
  clear hSM hPM
  refine AX.sregAV [1, 2, 3, 4, 5, 10] (hq := ?_)
  refine AX.sregWV [1, 2, 3, 4, 5, 10, 11] (And.intro @hll True.intro) True.intro (hq := ?_)
  refine AX.sregWV [1, 2, 3, 4, 5, 10, 11, 12] (And.intro @hll True.intro) True.intro (hq := ?_)
  refine AX.own0c 2 2 25 3 rfl rfl (by show 2 < 3; decide) ?_
  refine AX.own0c 3 2 25 3 rfl rfl (by show 2 < 3; decide) ?_
  refine AX.seq ?_
  refine AX.sregWV [1, 2, 3, 4, 5, 10, 11, 12, 31, 32, 33] (And.intro @hll True.intro) True.intro (hq := ?_)
  refine AX.weaken id (st' := ⟨[(33, .i .i64 (0 : Nat)), (32, .i .i64 p), (31, .sl (il of)), (12, .ptr 3 0), (11, .ptr 2 0), (10, .ptr 1 0), (5, .ptr 0 0), (4, .b turned), (3, .fn g caps), (2, .i .i64 cols), (1, .sl (il of))], [(0, ⟨37, [.i .i64 n, .i .i64 n, .sl Ac, .i .i64 n, .i .i64 m, .sl Bc]⟩), (1, ⟨35, [.i .i64 0, .i .i64 0, .nl]⟩), (2, ⟨35, [.i .i64 p, .i .i64 p, .own 4 0 0 3]⟩), (3, ⟨35, [.i .i64 p, .i .i64 cols, .own 5 0 0 3]⟩), (4, ⟨25, qrow []⟩), (5, ⟨25, qrow []⟩)], 6⟩)
    ⟨by simp only [ren_q, renL_u, ren_z, ren_bl, ren_il, lt_q, ltL_u, lt_z, lt_bl, lt_il, LeFr, LeHp, lkp, V.ren, V.renL, Row.ren, V.lt, V.ltL, renL_u, ltL_u, List.length_append, List.length_cons, List.length_nil, List.length_set, id_eq, Option.some.injEq, V.i.injEq, V.b.injEq, V.own.injEq, Row.mk.injEq, decide_true, decide_eq_true_eq, true_and, and_true, Bool.and_true, Bool.true_and, if_true, if_false, and_self, Nat.reduceLT, Nat.reduceLeDiff, Nat.reduceEqDiff, Nat.reduceAdd, Nat.reduceSub, Nat.reduceMul, Nat.reducePow, Nat.reduceBEq, Int.reduceLE, Int.reduceLT, Int.reduceToNat, Int.reduceEq, Int.reduceNeg, reduceIte, reduceCtorEq] <;> (first | done | trivial | (and_intros <;> first | trivial | omega | (simp only [hren, hlt]))), by simp only [ren_q, renL_u, ren_z, ren_bl, ren_il, lt_q, ltL_u, lt_z, lt_bl, lt_il, LeFr, LeHp, lkp, V.ren, V.renL, Row.ren, V.lt, V.ltL, renL_u, ltL_u, List.length_append, List.length_cons, List.length_nil, List.length_set, id_eq, Option.some.injEq, V.i.injEq, V.b.injEq, V.own.injEq, Row.mk.injEq, decide_true, decide_eq_true_eq, true_and, and_true, Bool.and_true, Bool.true_and, if_true, if_false, and_self, Nat.reduceLT, Nat.reduceLeDiff, Nat.reduceEqDiff, Nat.reduceAdd, Nat.reduceSub, Nat.reduceMul, Nat.reducePow, Nat.reduceBEq, Int.reduceLE, Int.reduceLT, Int.reduceToNat, Int.reduceEq, Int.reduceNeg, reduceIte, reduceCtorEq] <;> (first | done | trivial | (and_intros <;> first | trivial | omega | (simp only [hren, hlt]))), by simp [Apart], by first | exact Nat.zero_le _ | simp, by intro n hn; first | rfl | exact absurd hn (Nat.not_lt_zero _) | (have h0 : n = 0 := Nat.lt_one_iff.1 hn; subst h0; rfl)⟩
    ?_
  refine AX.block ?_
  refine AX.loop (fun N st => ∃ (i m1 m2 : Nat) (xs ys : List Rat), i ≤ p ∧ N = p - i ∧ m1 = i * p + 0 ∧ m2 = i * cols + 0 ∧ xs = mcells p S m1 ∧ ys = mcells cols R m2 ∧ st = ⟨[(33, .i .i64 i), (32, .i .i64 p), (31, .sl (il of)), (12, .ptr 3 0), (11, .ptr 2 0), (10, .ptr 1 0), (5, .ptr 0 0), (4, .b turned), (3, .fn g caps), (2, .i .i64 cols), (1, .sl (il of))], [(0, ⟨37, [.i .i64 n, .i .i64 n, .sl Ac, .i .i64 n, .i .i64 m, .sl Bc]⟩), (1, ⟨35, [.i .i64 0, .i .i64 0, .nl]⟩), (2, ⟨35, [.i .i64 p, .i .i64 p, .own 4 0 m1 3]⟩), (3, ⟨35, [.i .i64 p, .i .i64 cols, .own 5 0 m2 3]⟩), (4, ⟨25, qrow xs⟩), (5, ⟨25, qrow ys⟩)], 6⟩) p ⟨0, 0, 0, [], [], Nat.zero_le _, rfl, by omega, by omega, rfl, rfl, rfl⟩ ?_
  rintro N st ⟨i, m1, m2, xs, ys, hi, rfl, hm1, hm2, hxs, hys, rfl⟩
  by_cases h1 : i < p
  · have hgi := hget i h1
    have hxn := hof i h1
    have hsd := fun k => hside i k h1
    have hcAx := fun k => hcA (of.getD i 0) k hxn
    have hcAy := fun k (hk : k < n) => hcA k (of.getD i 0) hk hxn
    have hpki := fun k => hpk i k
    have hpli := fun k => hpl i k h1
    generalize of.getD i 0 = x at *
    refine AX.sregAV [1, 2, 3, 4, 5, 10, 11, 12, 31, 32, 33, 34] (hq := ?_)
    refine AX.seq ?_
    refine AX.condT (h := ?_)
    refine AX.keepA [1, 2, 3, 4, 5, 10, 11, 12, 31, 32, 33] (h := ?_)
    refine AX.skip ?_
    try simp only [thenS_normal, thenS_ret, thenS_exit, blockS_normal, blockS_ret, blockS_exit, backS_ret, backS_exit, if_true]
    refine AX.seq ?_
    refine AX.block ?_
    refine AX.sregWV [1, 2, 3, 4, 5, 10, 11, 12, 13, 14, 31, 32, 33] (And.intro @hll (And.intro @hgi True.intro)) True.intro (hq := ?_)
    refine AX.cut (fun st => ∃ (m1' : Nat) (xs' : List Rat), m1' = i * p + p ∧ xs' = mcells p S m1' ∧ Le 0 id ⟨[(33, .i .i64 i), (32, .i .i64 p), (31, .sl (il of)), (14, .i .i64 x), (13, .i .i64 i), (12, .ptr 3 0), (11, .ptr 2 0), (10, .ptr 1 0), (5, .ptr 0 0), (4, .b turned), (3, .fn g caps), (2, .i .i64 cols), (1, .sl (il of))], [(0, ⟨37, [.i .i64 n, .i .i64 n, .sl Ac, .i .i64 n, .i .i64 m, .sl Bc]⟩), (1, ⟨35, [.i .i64 0, .i .i64 0, .nl]⟩), (2, ⟨35, [.i .i64 p, .i .i64 p, .own 4 0 m1' 3]⟩), (3, ⟨35, [.i .i64 p, .i .i64 cols, .own 5 0 m2 3]⟩), (4, ⟨25, qrow xs'⟩), (5, ⟨25, qrow ys⟩)], 6⟩ st) ?_ ?_
    · refine AX.sregWV [1, 2, 3, 4, 5, 10, 11, 12, 13, 14, 31, 32, 33, 38, 39, 40] (And.intro @hll True.intro) True.intro (hq := ?_)
      refine AX.weaken id (st' := ⟨[(40, .i .i64 (0 : Nat)), (39, .i .i64 p), (38, .sl (il of)), (33, .i .i64 i), (32, .i .i64 p), (31, .sl (il of)), (14, .i .i64 x), (13, .i .i64 i), (12, .ptr 3 0), (11, .ptr 2 0), (10, .ptr 1 0), (5, .ptr 0 0), (4, .b turned), (3, .fn g caps), (2, .i .i64 cols), (1, .sl (il of))], [(0, ⟨37, [.i .i64 n, .i .i64 n, .sl Ac, .i .i64 n, .i .i64 m, .sl Bc]⟩), (1, ⟨35, [.i .i64 0, .i .i64 0, .nl]⟩), (2, ⟨35, [.i .i64 p, .i .i64 p, .own 4 0 m1 3]⟩), (3, ⟨35, [.i .i64 p, .i .i64 cols, .own 5 0 m2 3]⟩), (4, ⟨25, qrow xs⟩), (5, ⟨25, qrow ys⟩)], 6⟩)
        ⟨by simp only [ren_q, renL_u, ren_z, ren_bl, ren_il, lt_q, ltL_u, lt_z, lt_bl, lt_il, LeFr, LeHp, lkp, V.ren, V.renL, Row.ren, V.lt, V.ltL, renL_u, ltL_u, List.length_append, List.length_cons, List.length_nil, List.length_set, id_eq, Option.some.injEq, V.i.injEq, V.b.injEq, V.own.injEq, Row.mk.injEq, decide_true, decide_eq_true_eq, true_and, and_true, Bool.and_true, Bool.true_and, if_true, if_false, and_self, Nat.reduceLT, Nat.reduceLeDiff, Nat.reduceEqDiff, Nat.reduceAdd, Nat.reduceSub, Nat.reduceMul, Nat.reducePow, Nat.reduceBEq, Int.reduceLE, Int.reduceLT, Int.reduceToNat, Int.reduceEq, Int.reduceNeg, reduceIte, reduceCtorEq] <;> (first | done | trivial | (and_intros <;> first | trivial | omega | (simp only [hren, hlt]))), by simp only [ren_q, renL_u, ren_z, ren_bl, ren_il, lt_q, ltL_u, lt_z, lt_bl, lt_il, LeFr, LeHp, lkp, V.ren, V.renL, Row.ren, V.lt, V.ltL, renL_u, ltL_u, List.length_append, List.length_cons, List.length_nil, List.length_set, id_eq, Option.some.injEq, V.i.injEq, V.b.injEq, V.own.injEq, Row.mk.injEq, decide_true, decide_eq_true_eq, true_and, and_true, Bool.and_true, Bool.true_and, if_true, if_false, and_self, Nat.reduceLT, Nat.reduceLeDiff, Nat.reduceEqDiff, Nat.reduceAdd, Nat.reduceSub, Nat.reduceMul, Nat.reducePow, Nat.reduceBEq, Int.reduceLE, Int.reduceLT, Int.reduceToNat, Int.reduceEq, Int.reduceNeg, reduceIte, reduceCtorEq] <;> (first | done | trivial | (and_intros <;> first | trivial | omega | (simp only [hren, hlt]))), by simp [Apart], by first | exact Nat.zero_le _ | simp, by intro n hn; first | rfl | exact absurd hn (Nat.not_lt_zero _) | (have h0 : n = 0 := Nat.lt_one_iff.1 hn; subst h0; rfl)⟩
        ?_
      refine AX.block ?_
      refine AX.loop (fun N st => ∃ (k m1 : Nat) (xs : List Rat), k ≤ p ∧ N = p - k ∧ m1 = i * p + k ∧ xs = mcells p S m1 ∧ st = ⟨[(40, .i .i64 k), (39, .i .i64 p), (38, .sl (il of)), (33, .i .i64 i), (32, .i .i64 p), (31, .sl (il of)), (14, .i .i64 x), (13, .i .i64 i), (12, .ptr 3 0), (11, .ptr 2 0), (10, .ptr 1 0), (5, .ptr 0 0), (4, .b turned), (3, .fn g caps), (2, .i .i64 cols), (1, .sl (il of))], [(0, ⟨37, [.i .i64 n, .i .i64 n, .sl Ac, .i .i64 n, .i .i64 m, .sl Bc]⟩), (1, ⟨35, [.i .i64 0, .i .i64 0, .nl]⟩), (2, ⟨35, [.i .i64 p, .i .i64 p, .own 4 0 m1 3]⟩), (3, ⟨35, [.i .i64 p, .i .i64 cols, .own 5 0 m2 3]⟩), (4, ⟨25, qrow xs⟩), (5, ⟨25, qrow ys⟩)], 6⟩) p ⟨0, m1, xs, Nat.zero_le _, rfl, hm1, hxs, rfl⟩ ?_
      clear hm1 hxs xs m1
      rintro N st ⟨k, m1, xs, hk, rfl, hm1, hxs, rfl⟩
      by_cases h2 : k < p
      · have hgk := hget k h2
        have hyn := hof k h2
        have hcx := hcAx _ hyn
        have hcy := hcAy _ hyn
        have hpe := hpki k
        have hple := hpli k h2
        have hse := hsub i k
        have cn := cneg _ hple
        have ca := cadd _ hple
        have hmb : m1 ≤ 60 * 60 + 60 := by
          have : i * p ≤ 60 * 60 := Nat.mul_le_mul (by omega) hp60
          omega
        have hlen : (qrow xs).length = m1 * 3 := by rw [qrow_length, hxs, mcells_length]
        have hrow : qrow xs ++ [.b (decide ((S i k).num < 0)), dg (digits (S i k).num.natAbs), dg (digits (S i k).den)] = qrow (mcells p S (i * p + (k + 1))) := by
          rw [mcells_succ S h2, qrow_app, hxs, hm1]
          rfl
        have hm1' : m1 + 1 = i * p + (k + 1) := by omega
        obtain ⟨zs, hzs⟩ : ∃ zs, mcells p S (i * p + (k + 1)) = zs := ⟨_, rfl⟩
        rw [hzs] at hrow
        clear hcAx hcAy hpki hpli hsub hcA cneg cadd hxs hpk hpl
        generalize of.getD k 0 = y at *
        generalize S i k = s at *
        generalize Pk i k = q at *
        refine AX.sregAV [1, 2, 3, 4, 5, 10, 11, 12, 13, 14, 31, 32, 33, 38, 39, 40, 41] (hq := ?_)
        refine AX.seq ?_
        refine AX.condT (h := ?_)
        refine AX.keepA [1, 2, 3, 4, 5, 10, 11, 12, 13, 14, 31, 32, 33, 38, 39, 40] (h := ?_)
        refine AX.skip ?_
        try simp only [thenS_normal, thenS_ret, thenS_exit, blockS_normal, blockS_ret, blockS_exit, backS_ret, backS_exit, if_true]
        refine AX.seq ?_
        refine AX.block ?_
        refine AX.sregWV [1, 2, 3, 4, 5, 10, 11, 12, 13, 14, 15, 16, 31, 32, 33, 38, 39, 40] (And.intro @hll (And.intro @hgk True.intro)) True.intro (hq := ?_)
        refine AX.sregCV [1, 2, 3, 4, 5, 10, 11, 12, 13, 14, 15, 16, 17, 31, 32, 33, 38, 39, 40] (And.intro hcx True.intro) (hq := ?_)
        refine AX.cut (fun st => Le 0 id ⟨[(40, .i .i64 k), (39, .i .i64 p), (38, .sl (il of)), (33, .i .i64 i), (32, .i .i64 p), (31, .sl (il of)), (17, .ptr 6 0), (15, .i .i64 k), (14, .i .i64 x), (13, .i .i64 i), (12, .ptr 3 0), (11, .ptr 2 0), (10, .ptr 1 0), (5, .ptr 0 0), (4, .b turned), (3, .fn g caps), (2, .i .i64 cols), (1, .sl (il of))], [(0, ⟨37, [.i .i64 n, .i .i64 n, .sl Ac, .i .i64 n, .i .i64 m, .sl Bc]⟩), (1, ⟨35, [.i .i64 0, .i .i64 0, .nl]⟩), (2, ⟨35, [.i .i64 p, .i .i64 p, .own 4 0 m1 3]⟩), (3, ⟨35, [.i .i64 p, .i .i64 cols, .own 5 0 m2 3]⟩), (4, ⟨25, qrow xs⟩), (5, ⟨25, qrow ys⟩), (6, ⟨25, [.b (decide (q.num < 0)), dg (digits q.num.natAbs), dg (digits q.den)]⟩)], 7⟩ st) ?_ ?_
        · cases turned
          · rw [if_neg Bool.false_ne_true] at hpe
            subst hpe
            refine AX.sregAV [1, 2, 3, 4, 5, 10, 11, 12, 13, 14, 15, 16, 17, 31, 32, 33, 38, 39, 40, 50] (hq := ?_)
            refine AX.condF (h := ?_)
            refine AX.keepA [1, 2, 3, 4, 5, 10, 11, 12, 13, 14, 15, 17, 31, 32, 33, 38, 39, 40] (h := ?_)
            refine AX.skip ?_
            try simp only [thenS_normal, thenS_ret, thenS_exit, blockS_normal, blockS_ret, blockS_exit, backS_ret, backS_exit, if_true]
            exact ⟨by first | exact trivial | rfl,
              ⟨by simp only [ren_q, renL_u, ren_z, ren_bl, ren_il, lt_q, ltL_u, lt_z, lt_bl, lt_il, LeFr, LeHp, lkp, V.ren, V.renL, Row.ren, V.lt, V.ltL, renL_u, ltL_u, List.length_append, List.length_cons, List.length_nil, List.length_set, id_eq, Option.some.injEq, V.i.injEq, V.b.injEq, V.own.injEq, Row.mk.injEq, decide_true, decide_eq_true_eq, true_and, and_true, Bool.and_true, Bool.true_and, if_true, if_false, and_self, Nat.reduceLT, Nat.reduceLeDiff, Nat.reduceEqDiff, Nat.reduceAdd, Nat.reduceSub, Nat.reduceMul, Nat.reducePow, Nat.reduceBEq, Int.reduceLE, Int.reduceLT, Int.reduceToNat, Int.reduceEq, Int.reduceNeg, reduceIte, reduceCtorEq] <;> (first | done | trivial | (and_intros <;> first | trivial | omega | (simp only [hren, hlt]))), by simp only [ren_q, renL_u, ren_z, ren_bl, ren_il, lt_q, ltL_u, lt_z, lt_bl, lt_il, LeFr, LeHp, lkp, V.ren, V.renL, Row.ren, V.lt, V.ltL, renL_u, ltL_u, List.length_append, List.length_cons, List.length_nil, List.length_set, id_eq, Option.some.injEq, V.i.injEq, V.b.injEq, V.own.injEq, Row.mk.injEq, decide_true, decide_eq_true_eq, true_and, and_true, Bool.and_true, Bool.true_and, if_true, if_false, and_self, Nat.reduceLT, Nat.reduceLeDiff, Nat.reduceEqDiff, Nat.reduceAdd, Nat.reduceSub, Nat.reduceMul, Nat.reducePow, Nat.reduceBEq, Int.reduceLE, Int.reduceLT, Int.reduceToNat, Int.reduceEq, Int.reduceNeg, reduceIte, reduceCtorEq] <;> (first | done | trivial | (and_intros <;> first | trivial | omega | (simp only [hren, hlt]))), by simp [Apart], by first | exact Nat.zero_le _ | simp, by intro n hn; first | rfl | exact absurd hn (Nat.not_lt_zero _) | (have h0 : n = 0 := Nat.lt_one_iff.1 hn; subst h0; rfl)⟩
              ⟩
          · rw [if_pos rfl] at hpe
            subst hpe
            refine AX.sregAV [1, 2, 3, 4, 5, 10, 11, 12, 13, 14, 15, 16, 17, 31, 32, 33, 38, 39, 40, 50] (hq := ?_)
            refine AX.condT (h := ?_)
            refine AX.regCV [1, 2, 3, 4, 5, 10, 11, 12, 13, 14, 15, 17, 31, 32, 33, 38, 39, 40] (And.intro hcy True.intro) (hq := ?_)
            try simp only [thenS_normal, thenS_ret, thenS_exit, blockS_normal, blockS_ret, blockS_exit, backS_ret, backS_exit, if_true]
            exact ⟨by first | exact trivial | rfl,
              ⟨by simp only [ren_q, renL_u, ren_z, ren_bl, ren_il, lt_q, ltL_u, lt_z, lt_bl, lt_il, LeFr, LeHp, lkp, V.ren, V.renL, Row.ren, V.lt, V.ltL, renL_u, ltL_u, List.length_append, List.length_cons, List.length_nil, List.length_set, id_eq, Option.some.injEq, V.i.injEq, V.b.injEq, V.own.injEq, Row.mk.injEq, decide_true, decide_eq_true_eq, true_and, and_true, Bool.and_true, Bool.true_and, if_true, if_false, and_self, Nat.reduceLT, Nat.reduceLeDiff, Nat.reduceEqDiff, Nat.reduceAdd, Nat.reduceSub, Nat.reduceMul, Nat.reducePow, Nat.reduceBEq, Int.reduceLE, Int.reduceLT, Int.reduceToNat, Int.reduceEq, Int.reduceNeg, reduceIte, reduceCtorEq] <;> (first | done | trivial | (and_intros <;> first | trivial | omega | (simp only [hren, hlt]))), by simp only [ren_q, renL_u, ren_z, ren_bl, ren_il, lt_q, ltL_u, lt_z, lt_bl, lt_il, LeFr, LeHp, lkp, V.ren, V.renL, Row.ren, V.lt, V.ltL, renL_u, ltL_u, List.length_append, List.length_cons, List.length_nil, List.length_set, id_eq, Option.some.injEq, V.i.injEq, V.b.injEq, V.own.injEq, Row.mk.injEq, decide_true, decide_eq_true_eq, true_and, and_true, Bool.and_true, Bool.true_and, if_true, if_false, and_self, Nat.reduceLT, Nat.reduceLeDiff, Nat.reduceEqDiff, Nat.reduceAdd, Nat.reduceSub, Nat.reduceMul, Nat.reducePow, Nat.reduceBEq, Int.reduceLE, Int.reduceLT, Int.reduceToNat, Int.reduceEq, Int.reduceNeg, reduceIte, reduceCtorEq] <;> (first | done | trivial | (and_intros <;> first | trivial | omega | (simp only [hren, hlt]))), by simp [Apart], by first | exact Nat.zero_le _ | simp, by intro n hn; first | rfl | exact absurd hn (Nat.not_lt_zero _) | (have h0 : n = 0 := Nat.lt_one_iff.1 hn; subst h0; rfl)⟩
              ⟩
        rintro st hle
        refine AX.weaken id hle ?_
        clear hle hcx hcy
        refine AX.sregCV [1, 2, 3, 4, 5, 10, 11, 12, 13, 14, 15, 18, 31, 32, 33, 38, 39, 40] (And.intro cn True.intro) (hq := ?_)
        refine AX.cut (fun st => Le 0 id ⟨[(40, .i .i64 k), (39, .i .i64 p), (38, .sl (il of)), (33, .i .i64 i), (32, .i .i64 p), (31, .sl (il of)), (18, .ptr 7 0), (14, .i .i64 x), (13, .i .i64 i), (12, .ptr 3 0), (11, .ptr 2 0), (10, .ptr 1 0), (5, .ptr 0 0), (4, .b turned), (3, .fn g caps), (2, .i .i64 cols), (1, .sl (il of))], [(0, ⟨37, [.i .i64 n, .i .i64 n, .sl Ac, .i .i64 n, .i .i64 m, .sl Bc]⟩), (1, ⟨35, [.i .i64 0, .i .i64 0, .nl]⟩), (2, ⟨35, [.i .i64 p, .i .i64 p, .own 4 0 m1 3]⟩), (3, ⟨35, [.i .i64 p, .i .i64 cols, .own 5 0 m2 3]⟩), (4, ⟨25, qrow xs⟩), (5, ⟨25, qrow ys⟩), (7, ⟨25, [.b (decide (s.num < 0)), dg (digits s.num.natAbs), dg (digits s.den)]⟩)], 8⟩ st) ?_ ?_
        · by_cases hik : i = k
          · subst hik
            rw [if_pos rfl] at hse
            subst hse
            refine AX.sregAV [1, 2, 3, 4, 5, 10, 11, 12, 13, 14, 18, 31, 32, 33, 38, 39, 40, 60] (hq := ?_)
            refine AX.condT (h := ?_)
            refine AX.dregCV [1, 2, 3, 4, 5, 10, 11, 12, 13, 14, 18, 31, 32, 33, 38, 39, 40] (And.intro co (And.intro ca True.intro)) (hq := ?_)
            try simp only [thenS_normal, thenS_ret, thenS_exit, blockS_normal, blockS_ret, blockS_exit, backS_ret, backS_exit, if_true]
            exact ⟨by first | exact trivial | rfl,
              ⟨by simp only [ren_q, renL_u, ren_z, ren_bl, ren_il, lt_q, ltL_u, lt_z, lt_bl, lt_il, LeFr, LeHp, lkp, V.ren, V.renL, Row.ren, V.lt, V.ltL, renL_u, ltL_u, List.length_append, List.length_cons, List.length_nil, List.length_set, id_eq, Option.some.injEq, V.i.injEq, V.b.injEq, V.own.injEq, Row.mk.injEq, decide_true, decide_eq_true_eq, true_and, and_true, Bool.and_true, Bool.true_and, if_true, if_false, and_self, Nat.reduceLT, Nat.reduceLeDiff, Nat.reduceEqDiff, Nat.reduceAdd, Nat.reduceSub, Nat.reduceMul, Nat.reducePow, Nat.reduceBEq, Int.reduceLE, Int.reduceLT, Int.reduceToNat, Int.reduceEq, Int.reduceNeg, reduceIte, reduceCtorEq] <;> (first | done | trivial | (and_intros <;> first | trivial | omega | (simp only [hren, hlt]))), by simp only [ren_q, renL_u, ren_z, ren_bl, ren_il, lt_q, ltL_u, lt_z, lt_bl, lt_il, LeFr, LeHp, lkp, V.ren, V.renL, Row.ren, V.lt, V.ltL, renL_u, ltL_u, List.length_append, List.length_cons, List.length_nil, List.length_set, id_eq, Option.some.injEq, V.i.injEq, V.b.injEq, V.own.injEq, Row.mk.injEq, decide_true, decide_eq_true_eq, true_and, and_true, Bool.and_true, Bool.true_and, if_true, if_false, and_self, Nat.reduceLT, Nat.reduceLeDiff, Nat.reduceEqDiff, Nat.reduceAdd, Nat.reduceSub, Nat.reduceMul, Nat.reducePow, Nat.reduceBEq, Int.reduceLE, Int.reduceLT, Int.reduceToNat, Int.reduceEq, Int.reduceNeg, reduceIte, reduceCtorEq] <;> (first | done | trivial | (and_intros <;> first | trivial | omega | (simp only [hren, hlt]))), by simp [Apart], by first | exact Nat.zero_le _ | simp, by intro n hn; first | rfl | exact absurd hn (Nat.not_lt_zero _) | (have h0 : n = 0 := Nat.lt_one_iff.1 hn; subst h0; rfl)⟩
              ⟩
          · rw [if_neg hik] at hse
            subst hse
            refine AX.sregAV [1, 2, 3, 4, 5, 10, 11, 12, 13, 14, 18, 31, 32, 33, 38, 39, 40, 60] (hq := ?_)
            refine AX.condF (h := ?_)
            refine AX.keepA [1, 2, 3, 4, 5, 10, 11, 12, 13, 14, 18, 31, 32, 33, 38, 39, 40] (h := ?_)
            refine AX.skip ?_
            try simp only [thenS_normal, thenS_ret, thenS_exit, blockS_normal, blockS_ret, blockS_exit, backS_ret, backS_exit, if_true]
            exact ⟨by first | exact trivial | rfl,
              ⟨by simp only [ren_q, renL_u, ren_z, ren_bl, ren_il, lt_q, ltL_u, lt_z, lt_bl, lt_il, LeFr, LeHp, lkp, V.ren, V.renL, Row.ren, V.lt, V.ltL, renL_u, ltL_u, List.length_append, List.length_cons, List.length_nil, List.length_set, id_eq, Option.some.injEq, V.i.injEq, V.b.injEq, V.own.injEq, Row.mk.injEq, decide_true, decide_eq_true_eq, true_and, and_true, Bool.and_true, Bool.true_and, if_true, if_false, and_self, Nat.reduceLT, Nat.reduceLeDiff, Nat.reduceEqDiff, Nat.reduceAdd, Nat.reduceSub, Nat.reduceMul, Nat.reducePow, Nat.reduceBEq, Int.reduceLE, Int.reduceLT, Int.reduceToNat, Int.reduceEq, Int.reduceNeg, reduceIte, reduceCtorEq] <;> (first | done | trivial | (and_intros <;> first | trivial | omega | (simp only [hren, hlt]))), by simp only [ren_q, renL_u, ren_z, ren_bl, ren_il, lt_q, ltL_u, lt_z, lt_bl, lt_il, LeFr, LeHp, lkp, V.ren, V.renL, Row.ren, V.lt, V.ltL, renL_u, ltL_u, List.length_append, List.length_cons, List.length_nil, List.length_set, id_eq, Option.some.injEq, V.i.injEq, V.b.injEq, V.own.injEq, Row.mk.injEq, decide_true, decide_eq_true_eq, true_and, and_true, Bool.and_true, Bool.true_and, if_true, if_false, and_self, Nat.reduceLT, Nat.reduceLeDiff, Nat.reduceEqDiff, Nat.reduceAdd, Nat.reduceSub, Nat.reduceMul, Nat.reducePow, Nat.reduceBEq, Int.reduceLE, Int.reduceLT, Int.reduceToNat, Int.reduceEq, Int.reduceNeg, reduceIte, reduceCtorEq] <;> (first | done | trivial | (and_intros <;> first | trivial | omega | (simp only [hren, hlt]))), by simp [Apart], by first | exact Nat.zero_le _ | simp, by intro n hn; first | rfl | exact absurd hn (Nat.not_lt_zero _) | (have h0 : n = 0 := Nat.lt_one_iff.1 hn; subst h0; rfl)⟩
              ⟩
        rintro st hle
        refine AX.weaken id hle ?_
        clear hle cn ca hse
        apply AX.reg [1, 2, 3, 4, 5, 10, 11, 12, 13, 14, 31, 32, 33, 38, 39, 40] (by simp only [pq]; rfl)
        · repeat (first
         | (apply RunO.op rfl; · rfl
            · (simp only [opsOf, valsOf, valOf, lkp, ofConst, ofCell, Array.toList, Option.toList, List.map_cons, List.map_nil, List.cons_append, List.nil_append, List.append_nil, Nat.reduceEqDiff, Nat.reducePow, Nat.reduceLT, Nat.reduceLeDiff, reduceIte, if_true, if_false, IntKind.min, IntKind.max, IntKind.bits, IntKind.signed, Int.reduceLE, Int.reduceNeg, Int.reducePow, Int.reduceSub, and_self, Bool.false_eq_true, Nat.reduceSub]; rfl)
            iterate 2 (· (simp (disch := omega) only [go_sem, i64_of, u32_of, u64_of, Nat.reduceLT, Nat.reduceLeDiff, Nat.reduceEqDiff, Nat.reduceAdd, Nat.reduceSub, Nat.reduceMul, Nat.reducePow, Nat.reduceBEq, Int.reduceLE, Int.reduceLT, Int.reduceToNat, Int.reduceEq, Int.reduceNeg, reduceIte, reduceCtorEq, hlen, zerosV_1, List.take_succ_cons, List.take_zero, List.set_cons_zero, List.set_cons_succ]; rfl))
            · (simp only [pb, Nat.reduceLT, Nat.reduceAdd, reduceIte]; rfl))
         | (apply RunO.skip; · rfl
            · (simp only [pb, Nat.reduceLT, Nat.reduceAdd, reduceIte]; rfl)))
          exact RunO.nil
        · repeat (first | exact Keep.nil | (apply Keep.take; · rfl) | (apply Keep.drop; · rfl))
        try simp only [thenS_normal, thenS_ret, thenS_exit, blockS_normal, blockS_ret, blockS_exit, backS_ret, backS_exit, if_true]
        rw [hrow]
        refine AX.regWV [1, 2, 3, 4, 5, 10, 11, 12, 13, 14, 31, 32, 33, 38, 39, 40] (And.intro @lit_add True.intro) True.intro (hq := ?_)
        try simp only [thenS_normal, thenS_ret, thenS_exit, blockS_normal, blockS_ret, blockS_exit, backS_ret, backS_exit, if_true]
        refine ⟨_, _, fun n => if n = 4 then 9 else n, ?_,
          ⟨by simp only [ren_q, renL_u, ren_z, ren_bl, ren_il, lt_q, ltL_u, lt_z, lt_bl, lt_il, LeFr, LeHp, lkp, V.ren, V.renL, Row.ren, V.lt, V.ltL, renL_u, ltL_u, List.length_append, List.length_cons, List.length_nil, List.length_set, id_eq, Option.some.injEq, V.i.injEq, V.b.injEq, V.own.injEq, Row.mk.injEq, decide_true, decide_eq_true_eq, true_and, and_true, Bool.and_true, Bool.true_and, if_true, if_false, and_self, Nat.reduceLT, Nat.reduceLeDiff, Nat.reduceEqDiff, Nat.reduceAdd, Nat.reduceSub, Nat.reduceMul, Nat.reducePow, Nat.reduceBEq, Int.reduceLE, Int.reduceLT, Int.reduceToNat, Int.reduceEq, Int.reduceNeg, reduceIte, reduceCtorEq] <;> (first | done | trivial | (and_intros <;> first | trivial | omega | (simp only [hren, hlt]))), by simp only [ren_q, renL_u, ren_z, ren_bl, ren_il, lt_q, ltL_u, lt_z, lt_bl, lt_il, LeFr, LeHp, lkp, V.ren, V.renL, Row.ren, V.lt, V.ltL, renL_u, ltL_u, List.length_append, List.length_cons, List.length_nil, List.length_set, id_eq, Option.some.injEq, V.i.injEq, V.b.injEq, V.own.injEq, Row.mk.injEq, decide_true, decide_eq_true_eq, true_and, and_true, Bool.and_true, Bool.true_and, if_true, if_false, and_self, Nat.reduceLT, Nat.reduceLeDiff, Nat.reduceEqDiff, Nat.reduceAdd, Nat.reduceSub, Nat.reduceMul, Nat.reducePow, Nat.reduceBEq, Int.reduceLE, Int.reduceLT, Int.reduceToNat, Int.reduceEq, Int.reduceNeg, reduceIte, reduceCtorEq] <;> (first | done | trivial | (and_intros <;> first | trivial | omega | (simp only [hren, hlt]))), by simp [Apart], by first | exact Nat.zero_le _ | simp, by intro n hn; first | rfl | exact absurd hn (Nat.not_lt_zero _) | (have h0 : n = 0 := Nat.lt_one_iff.1 hn; subst h0; rfl)⟩
          , ⟨k + 1, m1 + 1, zs, by omega, rfl, hm1', by rw [hm1', hzs], rfl⟩⟩
        omega
      · have e : k = p := by omega
        subst e
        refine AX.sregAV [1, 2, 3, 4, 5, 10, 11, 12, 13, 14, 31, 32, 33, 38, 39, 40, 41] (hq := ?_)
        refine AX.seq ?_
        refine AX.condF (h := ?_)
        refine AX.exit ?_
        try simp only [thenS_normal, thenS_ret, thenS_exit, blockS_normal, blockS_ret, blockS_exit, backS_ret, backS_exit, if_true]
        refine ⟨by first | exact trivial | rfl, m1, xs, hm1, hxs,
          ⟨by simp only [ren_q, renL_u, ren_z, ren_bl, ren_il, lt_q, ltL_u, lt_z, lt_bl, lt_il, LeFr, LeHp, lkp, V.ren, V.renL, Row.ren, V.lt, V.ltL, renL_u, ltL_u, List.length_append, List.length_cons, List.length_nil, List.length_set, id_eq, Option.some.injEq, V.i.injEq, V.b.injEq, V.own.injEq, Row.mk.injEq, decide_true, decide_eq_true_eq, true_and, and_true, Bool.and_true, Bool.true_and, if_true, if_false, and_self, Nat.reduceLT, Nat.reduceLeDiff, Nat.reduceEqDiff, Nat.reduceAdd, Nat.reduceSub, Nat.reduceMul, Nat.reducePow, Nat.reduceBEq, Int.reduceLE, Int.reduceLT, Int.reduceToNat, Int.reduceEq, Int.reduceNeg, reduceIte, reduceCtorEq] <;> (first | done | trivial | (and_intros <;> first | trivial | omega | (simp only [hren, hlt]))), by simp only [ren_q, renL_u, ren_z, ren_bl, ren_il, lt_q, ltL_u, lt_z, lt_bl, lt_il, LeFr, LeHp, lkp, V.ren, V.renL, Row.ren, V.lt, V.ltL, renL_u, ltL_u, List.length_append, List.length_cons, List.length_nil, List.length_set, id_eq, Option.some.injEq, V.i.injEq, V.b.injEq, V.own.injEq, Row.mk.injEq, decide_true, decide_eq_true_eq, true_and, and_true, Bool.and_true, Bool.true_and, if_true, if_false, and_self, Nat.reduceLT, Nat.reduceLeDiff, Nat.reduceEqDiff, Nat.reduceAdd, Nat.reduceSub, Nat.reduceMul, Nat.reducePow, Nat.reduceBEq, Int.reduceLE, Int.reduceLT, Int.reduceToNat, Int.reduceEq, Int.reduceNeg, reduceIte, reduceCtorEq] <;> (first | done | trivial | (and_intros <;> first | trivial | omega | (simp only [hren, hlt]))), by simp [Apart], by first | exact Nat.zero_le _ | simp, by intro n hn; first | rfl | exact absurd hn (Nat.not_lt_zero _) | (have h0 : n = 0 := Nat.lt_one_iff.1 hn; subst h0; rfl)⟩
          ⟩
    clear hm1 hxs xs m1
    rintro st ⟨m1, xs, hm1, hxs, hle⟩
    refine AX.weaken id hle ?_
    clear hle
    refine AX.sregAV [1, 2, 3, 4, 5, 10, 11, 12, 14, 31, 32, 33, 71, 72] (hq := ?_)
    refine AX.weaken id (st' := ⟨[(72, .i .i64 (0 : Nat)), (71, .i .i64 cols), (33, .i .i64 i), (32, .i .i64 p), (31, .sl (il of)), (14, .i .i64 x), (12, .ptr 3 0), (11, .ptr 2 0), (10, .ptr 1 0), (5, .ptr 0 0), (4, .b turned), (3, .fn g caps), (2, .i .i64 cols), (1, .sl (il of))], [(0, ⟨37, [.i .i64 n, .i .i64 n, .sl Ac, .i .i64 n, .i .i64 m, .sl Bc]⟩), (1, ⟨35, [.i .i64 0, .i .i64 0, .nl]⟩), (2, ⟨35, [.i .i64 p, .i .i64 p, .own 4 0 m1 3]⟩), (3, ⟨35, [.i .i64 p, .i .i64 cols, .own 5 0 m2 3]⟩), (4, ⟨25, qrow xs⟩), (5, ⟨25, qrow ys⟩)], 6⟩)
      ⟨by simp only [ren_q, renL_u, ren_z, ren_bl, ren_il, lt_q, ltL_u, lt_z, lt_bl, lt_il, LeFr, LeHp, lkp, V.ren, V.renL, Row.ren, V.lt, V.ltL, renL_u, ltL_u, List.length_append, List.length_cons, List.length_nil, List.length_set, id_eq, Option.some.injEq, V.i.injEq, V.b.injEq, V.own.injEq, Row.mk.injEq, decide_true, decide_eq_true_eq, true_and, and_true, Bool.and_true, Bool.true_and, if_true, if_false, and_self, Nat.reduceLT, Nat.reduceLeDiff, Nat.reduceEqDiff, Nat.reduceAdd, Nat.reduceSub, Nat.reduceMul, Nat.reducePow, Nat.reduceBEq, Int.reduceLE, Int.reduceLT, Int.reduceToNat, Int.reduceEq, Int.reduceNeg, reduceIte, reduceCtorEq] <;> (first | done | trivial | (and_intros <;> first | trivial | omega | (simp only [hren, hlt]))), by simp only [ren_q, renL_u, ren_z, ren_bl, ren_il, lt_q, ltL_u, lt_z, lt_bl, lt_il, LeFr, LeHp, lkp, V.ren, V.renL, Row.ren, V.lt, V.ltL, renL_u, ltL_u, List.length_append, List.length_cons, List.length_nil, List.length_set, id_eq, Option.some.injEq, V.i.injEq, V.b.injEq, V.own.injEq, Row.mk.injEq, decide_true, decide_eq_true_eq, true_and, and_true, Bool.and_true, Bool.true_and, if_true, if_false, and_self, Nat.reduceLT, Nat.reduceLeDiff, Nat.reduceEqDiff, Nat.reduceAdd, Nat.reduceSub, Nat.reduceMul, Nat.reducePow, Nat.reduceBEq, Int.reduceLE, Int.reduceLT, Int.reduceToNat, Int.reduceEq, Int.reduceNeg, reduceIte, reduceCtorEq] <;> (first | done | trivial | (and_intros <;> first | trivial | omega | (simp only [hren, hlt]))), by simp [Apart], by first | exact Nat.zero_le _ | simp, by intro n hn; first | rfl | exact absurd hn (Nat.not_lt_zero _) | (have h0 : n = 0 := Nat.lt_one_iff.1 hn; subst h0; rfl)⟩
      ?_
    refine AX.block ?_
    refine AX.loop (fun N st => ∃ (k m2 : Nat) (ys : List Rat), k ≤ cols ∧ N = cols - k ∧ m2 = i * cols + k ∧ ys = mcells cols R m2 ∧ st = ⟨[(72, .i .i64 k), (71, .i .i64 cols), (33, .i .i64 i), (32, .i .i64 p), (31, .sl (il of)), (14, .i .i64 x), (12, .ptr 3 0), (11, .ptr 2 0), (10, .ptr 1 0), (5, .ptr 0 0), (4, .b turned), (3, .fn g caps), (2, .i .i64 cols), (1, .sl (il of))], [(0, ⟨37, [.i .i64 n, .i .i64 n, .sl Ac, .i .i64 n, .i .i64 m, .sl Bc]⟩), (1, ⟨35, [.i .i64 0, .i .i64 0, .nl]⟩), (2, ⟨35, [.i .i64 p, .i .i64 p, .own 4 0 m1 3]⟩), (3, ⟨35, [.i .i64 p, .i .i64 cols, .own 5 0 m2 3]⟩), (4, ⟨25, qrow xs⟩), (5, ⟨25, qrow ys⟩)], 6⟩) cols ⟨0, m2, ys, Nat.zero_le _, rfl, hm2, hys, rfl⟩ ?_
    clear hm2 hys ys m2
    rintro N st ⟨k, m2, ys, hk, rfl, hm2, hys, rfl⟩
    by_cases h2 : k < cols
    · have hc := hsd k h2
      have hmb : m2 ≤ 60 * 60 + 60 := by
        have : i * cols ≤ 60 * 60 := Nat.mul_le_mul (by omega) hcols
        omega
      have hlen : (qrow ys).length = m2 * 3 := by rw [qrow_length, hys, mcells_length]
      have hrow : qrow ys ++ [.b (decide ((R i k).num < 0)), dg (digits (R i k).num.natAbs), dg (digits (R i k).den)] = qrow (mcells cols R (i * cols + (k + 1))) := by
        rw [mcells_succ R h2, qrow_app, hys, hm2]
        rfl
      have hm2' : m2 + 1 = i * cols + (k + 1) := by omega
      obtain ⟨zs, hzs⟩ : ∃ zs, mcells cols R (i * cols + (k + 1)) = zs := ⟨_, rfl⟩
      rw [hzs] at hrow
      clear hsd hys
      generalize R i k = s at *
      refine AX.sregAV [1, 2, 3, 4, 5, 10, 11, 12, 14, 31, 32, 33, 71, 72, 73] (hq := ?_)
      refine AX.seq ?_
      refine AX.condT (h := ?_)
      refine AX.keepA [1, 2, 3, 4, 5, 10, 11, 12, 14, 31, 32, 33, 71, 72] (h := ?_)
      refine AX.skip ?_
      try simp only [thenS_normal, thenS_ret, thenS_exit, blockS_normal, blockS_ret, blockS_exit, backS_ret, backS_exit, if_true]
      refine AX.seq ?_
      refine AX.block ?_
      refine AX.sregAV [1, 2, 3, 4, 5, 10, 11, 12, 14, 19, 31, 32, 33, 71, 72] (hq := ?_)
      apply AX.dreg [1, 2, 3, 4, 5, 10, 11, 12, 14, 31, 32, 33, 71, 72] (by kernel_rfl) (by simp only [pq]; rfl)
      · repeat (first
       | (apply RunD.op rfl; · rfl
          · (simp only [opsOf, valsOf, valOf, lkp, ofConst, ofCell, Array.toList, Option.toList, List.map_cons, List.map_nil, List.cons_append, List.nil_append, List.append_nil, Nat.reduceEqDiff, Nat.reducePow, Nat.reduceLT, Nat.reduceLeDiff, reduceIte, if_true, if_false, IntKind.min, IntKind.max, IntKind.bits, IntKind.signed, Int.reduceLE, Int.reduceNeg, Int.reducePow, Int.reduceSub, and_self, Bool.false_eq_true, Nat.reduceSub]; rfl)
          iterate 2 (· (simp (disch := omega) only [go_sem, i64_of, u32_of, u64_of, Nat.reduceLT, Nat.reduceLeDiff, Nat.reduceEqDiff, Nat.reduceAdd, Nat.reduceSub, Nat.reduceMul, Nat.reducePow, Nat.reduceBEq, Int.reduceLE, Int.reduceLT, Int.reduceToNat, Int.reduceEq, Int.reduceNeg, reduceIte, reduceCtorEq, hlen, zerosV_1, List.take_succ_cons, List.take_zero, List.set_cons_zero, List.set_cons_succ]; rfl))
          · (simp only [pb, Nat.reduceLT, Nat.reduceAdd, reduceIte]; rfl)
          · rfl)
       | (apply RunD.call rfl; · rfl
          · (simp only [opsOf, valsOf, valOf, lkp, ofConst, ofCell, Array.toList, Option.toList, List.map_cons, List.map_nil, List.cons_append, List.nil_append, List.append_nil, Nat.reduceEqDiff, Nat.reducePow, Nat.reduceLT, Nat.reduceLeDiff, reduceIte, if_true, if_false, IntKind.min, IntKind.max, IntKind.bits, IntKind.signed, Int.reduceLE, Int.reduceNeg, Int.reducePow, Int.reduceSub, and_self, Bool.false_eq_true, Nat.reduceSub]; rfl)
          · first | rfl | (simp only [List.cons_append, List.nil_append, V.hfL, V.hf, Bool.true_and]; assumption)
          · (first | (simp only [cnlL, cnl, List.append_nil, List.cons_append, List.nil_append]; first | exact hc) | (first | exact hc))
          · rfl
          · (simp only [pb, Nat.reduceLT, Nat.reduceAdd, reduceIte]; rfl)
          · rfl)
       | (apply RunD.skip; · rfl
          · (simp only [pb, Nat.reduceLT, Nat.reduceAdd, reduceIte]; rfl)
          · rfl))
        exact RunD.nil
      · repeat (first | exact Keep.nil | (apply Keep.take; · rfl) | (apply Keep.drop; · rfl))
      · kernel_rfl
      try simp only [thenS_normal, thenS_ret, thenS_exit, blockS_normal, blockS_ret, blockS_exit, backS_ret, backS_exit, if_true]
      rw [hrow]
      refine AX.regWV [1, 2, 3, 4, 5, 10, 11, 12, 14, 31, 32, 33, 71, 72] (And.intro @lit_add True.intro) True.intro (hq := ?_)
      try simp only [thenS_normal, thenS_ret, thenS_exit, blockS_normal, blockS_ret, blockS_exit, backS_ret, backS_exit, if_true]
      refine ⟨_, _, fun n => if n = 5 then 7 else n, ?_,
        ⟨by simp only [ren_q, renL_u, ren_z, ren_bl, ren_il, lt_q, ltL_u, lt_z, lt_bl, lt_il, LeFr, LeHp, lkp, V.ren, V.renL, Row.ren, V.lt, V.ltL, renL_u, ltL_u, List.length_append, List.length_cons, List.length_nil, List.length_set, id_eq, Option.some.injEq, V.i.injEq, V.b.injEq, V.own.injEq, Row.mk.injEq, decide_true, decide_eq_true_eq, true_and, and_true, Bool.and_true, Bool.true_and, if_true, if_false, and_self, Nat.reduceLT, Nat.reduceLeDiff, Nat.reduceEqDiff, Nat.reduceAdd, Nat.reduceSub, Nat.reduceMul, Nat.reducePow, Nat.reduceBEq, Int.reduceLE, Int.reduceLT, Int.reduceToNat, Int.reduceEq, Int.reduceNeg, reduceIte, reduceCtorEq] <;> (first | done | trivial | (and_intros <;> first | trivial | omega | (simp only [hren, hlt]))), by simp only [ren_q, renL_u, ren_z, ren_bl, ren_il, lt_q, ltL_u, lt_z, lt_bl, lt_il, LeFr, LeHp, lkp, V.ren, V.renL, Row.ren, V.lt, V.ltL, renL_u, ltL_u, List.length_append, List.length_cons, List.length_nil, List.length_set, id_eq, Option.some.injEq, V.i.injEq, V.b.injEq, V.own.injEq, Row.mk.injEq, decide_true, decide_eq_true_eq, true_and, and_true, Bool.and_true, Bool.true_and, if_true, if_false, and_self, Nat.reduceLT, Nat.reduceLeDiff, Nat.reduceEqDiff, Nat.reduceAdd, Nat.reduceSub, Nat.reduceMul, Nat.reducePow, Nat.reduceBEq, Int.reduceLE, Int.reduceLT, Int.reduceToNat, Int.reduceEq, Int.reduceNeg, reduceIte, reduceCtorEq] <;> (first | done | trivial | (and_intros <;> first | trivial | omega | (simp only [hren, hlt]))), by simp [Apart], by first | exact Nat.zero_le _ | simp, by intro n hn; first | rfl | exact absurd hn (Nat.not_lt_zero _) | (have h0 : n = 0 := Nat.lt_one_iff.1 hn; subst h0; rfl)⟩
        , ⟨k + 1, m2 + 1, zs, by omega, rfl, hm2', by rw [hm2', hzs], rfl⟩⟩
      omega
    · have e : k = cols := by omega
      refine AX.sregAV [1, 2, 3, 4, 5, 10, 11, 12, 14, 31, 32, 33, 71, 72, 73] (hq := ?_)
      refine AX.seq ?_
      refine AX.condF (h := ?_)
      refine AX.exit ?_
      try simp only [thenS_normal, thenS_ret, thenS_exit, blockS_normal, blockS_ret, blockS_exit, backS_ret, backS_exit, if_true]
      refine AX.regWV [1, 2, 3, 4, 5, 10, 11, 12, 31, 32, 33] (And.intro @lit_add True.intro) True.intro (hq := ?_)
      try simp only [thenS_normal, thenS_ret, thenS_exit, blockS_normal, blockS_ret, blockS_exit, backS_ret, backS_exit, if_true]
      refine ⟨_, _, id, ?_,
        ⟨by simp only [ren_q, renL_u, ren_z, ren_bl, ren_il, lt_q, ltL_u, lt_z, lt_bl, lt_il, LeFr, LeHp, lkp, V.ren, V.renL, Row.ren, V.lt, V.ltL, renL_u, ltL_u, List.length_append, List.length_cons, List.length_nil, List.length_set, id_eq, Option.some.injEq, V.i.injEq, V.b.injEq, V.own.injEq, Row.mk.injEq, decide_true, decide_eq_true_eq, true_and, and_true, Bool.and_true, Bool.true_and, if_true, if_false, and_self, Nat.reduceLT, Nat.reduceLeDiff, Nat.reduceEqDiff, Nat.reduceAdd, Nat.reduceSub, Nat.reduceMul, Nat.reducePow, Nat.reduceBEq, Int.reduceLE, Int.reduceLT, Int.reduceToNat, Int.reduceEq, Int.reduceNeg, reduceIte, reduceCtorEq] <;> (first | done | trivial | (and_intros <;> first | trivial | omega | (simp only [hren, hlt]))), by simp only [ren_q, renL_u, ren_z, ren_bl, ren_il, lt_q, ltL_u, lt_z, lt_bl, lt_il, LeFr, LeHp, lkp, V.ren, V.renL, Row.ren, V.lt, V.ltL, renL_u, ltL_u, List.length_append, List.length_cons, List.length_nil, List.length_set, id_eq, Option.some.injEq, V.i.injEq, V.b.injEq, V.own.injEq, Row.mk.injEq, decide_true, decide_eq_true_eq, true_and, and_true, Bool.and_true, Bool.true_and, if_true, if_false, and_self, Nat.reduceLT, Nat.reduceLeDiff, Nat.reduceEqDiff, Nat.reduceAdd, Nat.reduceSub, Nat.reduceMul, Nat.reducePow, Nat.reduceBEq, Int.reduceLE, Int.reduceLT, Int.reduceToNat, Int.reduceEq, Int.reduceNeg, reduceIte, reduceCtorEq] <;> (first | done | trivial | (and_intros <;> first | trivial | omega | (simp only [hren, hlt]))), by simp [Apart], by first | exact Nat.zero_le _ | simp, by intro n hn; first | rfl | exact absurd hn (Nat.not_lt_zero _) | (have h0 : n = 0 := Nat.lt_one_iff.1 hn; subst h0; rfl)⟩
        , ⟨i + 1, m1, m2, xs, ys, by omega, rfl, by rw [hm1, Nat.succ_mul]; omega, by rw [hm2, e, Nat.succ_mul]; omega, hxs, hys, rfl⟩⟩
      omega
  · have e : i = p := by omega
    have hm1' : m1 = p * p := by rw [hm1, e]; rfl
    have hm2' : m2 = p * cols := by rw [hm2, e]; rfl
    rw [hm1'] at hxs
    rw [hm2'] at hys
    have l1 : xs.length = m1 := by rw [hxs, hm1', mcells_length]
    have l2 : ys.length = m2 := by rw [hys, hm2', mcells_length]
    unfold qM mV at cs
    rw [← hxs, ← hys] at cs
    clear hm1 hm2 hm1' hm2' hxs hys
    subst l1 l2
    unfold qM mV
    generalize (mcells cols (solX p S R) (p * cols)).map rV = Xc at *
    refine AX.sregAV [10, 11, 12, 34] (hq := ?_)
    refine AX.seq ?_
    refine AX.condF (h := ?_)
    refine AX.exit ?_
    try simp only [thenS_normal, thenS_ret, thenS_exit, blockS_normal, blockS_ret, blockS_exit, backS_ret, backS_exit, if_true]
    refine AX.fz 4 (fr' := [(12, .ptr 3 0), (11, .ptr 2 0), (10, .ptr 1 0)]) (hp' := [(1, ⟨35, [.i .i64 0, .i .i64 0, .nl]⟩), (2, ⟨35, [.i .i64 p, .i .i64 p, .sl (xs.map rV)]⟩), (3, ⟨35, [.i .i64 p, .i .i64 cols, .own 5 0 ys.length 3]⟩), (5, ⟨25, qrow ys⟩)]) rfl (hf_q xs) (.cons rfl .same (.cons rfl .same (.cons rfl .same .nil))) (.keep (by decide) rfl (.cons (by decide) rfl rfl rfl (fun k hk => ?_) (.keep (by decide) rfl (.keep (by decide) rfl .nil)))) ?_
    · have : k = 0 ∨ k = 1 ∨ k = 2 := by simp at hk; omega
      rcases this with rfl | rfl | rfl
      · exact .same
      · exact .same
      · exact .own (okFrz_q xs) (by rw [take_q, chunks_q])
    refine AX.fz 5 (fr' := [(12, .ptr 3 0), (11, .ptr 2 0), (10, .ptr 1 0)]) (hp' := [(1, ⟨35, [.i .i64 0, .i .i64 0, .nl]⟩), (2, ⟨35, [.i .i64 p, .i .i64 p, .sl (xs.map rV)]⟩), (3, ⟨35, [.i .i64 p, .i .i64 cols, .sl (ys.map rV)]⟩)]) rfl (hf_q ys) (.cons rfl .same (.cons rfl .same (.cons rfl .same .nil))) (.keep (by decide) rfl (.keep (by decide) rfl (.cons (by decide) rfl rfl rfl (fun k hk => ?_) .nil))) ?_
    · have : k = 0 ∨ k = 1 ∨ k = 2 := by simp at hk; omega
      rcases this with rfl | rfl | rfl
      · exact .same
      · exact .same
      · exact .own (okFrz_q ys) (by rw [take_q, chunks_q])
    refine AX.sregCV [10, 20] (And.intro cs True.intro) (hq := ?_)
    refine AX.sregAV [10] (hq := ?_)
    refine AX.ret (And.intro (Or.inl rfl) ?_)
    exact Done.of (by simp (disch := omega) only [resVs, resV, go_sem, i64_of, u32_of, u64_of, Nat.reduceLT, Nat.reduceLeDiff, Nat.reduceEqDiff, Nat.reduceAdd, Nat.reduceSub, Nat.reduceMul, Nat.reducePow, Nat.reduceBEq, Int.reduceLE, Int.reduceLT, Int.reduceToNat, Int.reduceEq, Int.reduceNeg, reduceIte, reduceCtorEq]; rfl) (by simp only [packV, frz, frzL]; rfl) rfl (by simp only [V.lt, V.ltL, ltL_u, lt_q, ltL_u, lt_z, lt_bl, lt_il]; first | done | rfl) (by simp only [V.ren, V.renL, renL_u, ren_q, renL_u, ren_z, ren_bl, ren_il]; first | done | rfl)

end Go.Proofs.Ytepkjfnffbdcoaa
