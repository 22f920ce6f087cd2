/- The laws RatioMakes, RatioOrders, RatioSums and RatioLists. -/
import Derived.Test.YtmhjcmochemndaaGT
import Derived.Test.YtmhjcmochemndaaQ2B
set_option linter.unusedVariables false
set_option linter.unusedSimpArgs false
namespace Go.Proofs.Ytmhjcmochemndaa
open Go Go.Proofs.Ytmhjcmochemndaa.Lift
attribute [local irreducible] Lift.PCall Lift.HCall

theorem lsame_self (s : Bool) (a b : List Nat) (ha : a.length < 2 ^ 40) (hb : b.length < 2 ^ 40) : PCall Try.prog 21 [rR s a b, rR s a b] (.b true) [] := by
  have := lsame_ok s s a b a b ha hb ha hb
  have e : decide (s = s ∧ a = a ∧ b = b) = true := decide_eq_true (And.intro rfl (And.intro rfl rfl))
  rw [e] at this
  exact this
/-- A pair of a fraction and an error, and Same takes its fraction for itself. -/
def PairV (v : V) : Prop := ∃ (s : Bool) (a b : List Nat) (e : Int), v = .tup [rR s a b, .i .i64 e] ∧ PCall Try.prog 21 [rR s a b, rR s a b] (.b true) []
theorem PairV.z (e : Int) : PairV (.tup [zR, .i .i64 e]) := ⟨false, [], [], e, rfl, lsame_self _ _ _ (by simp) (by simp)⟩
theorem PairV.q {q : Rat} (h : rL q < 2 ^ 40) (e : Int) : PairV (.tup [rV q, .i .i64 e]) := ⟨_, _, _, e, rfl, lsame_self _ _ _ (Nat.lt_of_le_of_lt (Nat.le_max_left _ _) h) (Nat.lt_of_le_of_lt (Nat.le_max_right _ _) h)⟩
theorem ofV_pair {s : Bool} {m n L : Nat} (hm : (digits m).length ≤ L) (hn : (digits n).length ≤ L) (h1 : 1 ≤ L) (hL : L < 2 ^ 40) : PairV (ofV s m n) := by
  unfold ofV
  split
  · exact PairV.z _
  · exact PairV.q (Nat.lt_of_le_of_lt (rL_rq hm hn h1) hL) _
theorem qdivV_pair {p q : Rat} {A B : Nat} (hp : rL p ≤ A) (hq : rL q ≤ B) (h1 : 1 ≤ A + B) (h : A + B < 2 ^ 40) : PairV (qdivV p q) := by
  unfold qdivV
  split
  · exact PairV.z _
  · exact PairV.q (Nat.lt_of_le_of_lt (rL_div p q hp hq h1) h) _
theorem bne_self (b : Bool) : (b == b) = true := by simp

set_option maxRecDepth 20000 in
set_option maxHeartbeats 8000000 in
theorem ratioMakes_ok (s1 : Bool) (a1 b1 : List Nat) (ha1 : Dg a1) (hb1 : Dg b1) (la1 : a1.length < 2 ^ 62) (lb1 : b1.length < 2 ^ 62) (p q : Int) (hp : -9223372036854775808 ≤ p ∧ p ≤ 9223372036854775807) (hq : -9223372036854775808 ≤ q ∧ q ≤ 9223372036854775807) :
    PCall Try.prog 3 [rR s1 a1 b1, .i .i64 p, .i .i64 q] (.b true) [] := by
  refine PCall.of_ax Try.call3 Try.func3 rfl (by simp [Try.ntmps3]) fun O w => ?_
  simp only [Try.ntmps3, Try.results3, argFr]
  have cf := lfew1 20 (by omega) s1 a1 b1 la1 lb1
  have caw := lawake_ok
  refine AX.sregAV [1, 2, 3] (hq := ?_)
  refine AX.seq ?_
  by_cases h : okR 20 (s1, a1, b1) = true
  · rw [h] at cf
    rw [okR_iff] at h
    obtain ⟨h1, h2⟩ := h
    have c1 := qof_ok s1 a1 b1 ha1 hb1 (by omega) (by omega)
    have c2 := pof_ok s1 a1 b1 ha1 hb1 (by omega) (by omega)
    have c3 := make_ok p q hp hq
    have c4 := pmake_ok p q hp hq
    have c5 := qright_raw s1 a1 b1 ha1 hb1 (by omega) (by omega)
    have c6 := pright_ok s1 a1 b1 ha1 hb1 (by omega) (by omega)
    have c7 := zero_ok
    have c8 := pzero_ok
    have c9 := one_ok
    have c10 := pone_ok
    have l1 : (digits p.natAbs).length ≤ 2 := lenS (by omega)
    have l2 : (digits q.natAbs).length ≤ 2 := lenS (by omega)
    obtain ⟨s, a, b, e, e1, d1⟩ := ofV_pair (s := s1) (m := val a1) (n := val b1) (L := 20) (Nat.le_trans (digits_length_val ha1) h1) (Nat.le_trans (digits_length_val hb1) h2) (by omega) (by omega)
    obtain ⟨t, c, d, f, e2, d2⟩ := ofV_pair (s := decide (p < 0) != decide (q < 0)) (m := p.natAbs) (n := q.natAbs) (L := 2) l1 l2 (by omega) (by omega)
    rw [e1] at c1 c2
    rw [e2] at c3 c4
    have L1 : ∀ (s : Bool) (m n : Nat), m < 18446744073709551616 → n < 18446744073709551616 → rL (rq s m n) ≤ 2 := fun s m n hm hn => rL_rq (lenS hm) (lenS hn) (by omega)
    have L0 : rL 0 ≤ 2 := L1 false 0 1 (by omega) (by omega)
    have LL : rL 1 ≤ 2 := L1 false 1 1 (by omega) (by omega)
    have d3 := lsame_q 0 (by omega)
    have d4 := lsame_q 1 (by omega)
    clear L1 L0 LL
    clear e1 e2 l1 l2
    generalize isR s1 a1 b1 = R at *
    generalize (0 : Rat) = z at *
    generalize (1 : Rat) = o at *
    have hR := bne_self R
    refine AX.sregCV [1, 2, 3, 18] (And.intro cf True.intro) (hq := ?_)
    refine AX.condF (h := ?_)
    refine AX.keepA [1, 2, 3] (h := ?_)
    refine AX.skip ?_
    try simp only [thenS_normal, thenS_ret, thenS_exit, blockS_normal, blockS_ret, blockS_exit, backS_ret, backS_exit, if_true]
    refine AX.sregCV [1, 2, 3, 7, 8] (And.intro c1 True.intro) (hq := ?_)
    refine AX.sregCV [1, 2, 3, 7, 8, 9, 10] (And.intro c2 True.intro) (hq := ?_)
    refine AX.sregCV [1, 2, 3, 7, 8, 9, 10, 11, 12] (And.intro c3 True.intro) (hq := ?_)
    refine AX.sregCV [3, 7, 8, 9, 10, 11, 12, 13, 14] (And.intro c4 True.intro) (hq := ?_)
    refine AX.sdregWV [6] (And.intro @hR True.intro) (And.intro c5 (And.intro c6 (And.intro d1 (And.intro d2 (And.intro c7 (And.intro c8 (And.intro d3 (And.intro c9 (And.intro c10 (And.intro d4 (And.intro caw True.intro))))))))))) (hq := ?_)
    refine AX.ret (And.intro (Or.inl rfl) ?_)
    exact Done.one rfl rfl rfl rfl
  · rw [Bool.not_eq_true] at h
    rw [h] at cf
    refine AX.sregCV [1, 2, 3, 18] (And.intro cf True.intro) (hq := ?_)
    refine AX.condT (h := ?_)
    refine AX.sregCV [6] (And.intro caw True.intro) (hq := ?_)
    refine AX.ret (And.intro (Or.inl rfl) ?_)
    exact Done.one rfl rfl rfl rfl

set_option maxRecDepth 20000 in
set_option maxHeartbeats 8000000 in
theorem ratioOrders_ok (s1 s2 : Bool) (a1 b1 a2 b2 : List Nat) (ha1 : Dg a1) (hb1 : Dg b1) (ha2 : Dg a2) (hb2 : Dg b2) (la1 : a1.length < 2 ^ 62) (lb1 : b1.length < 2 ^ 62) (la2 : a2.length < 2 ^ 62) (lb2 : b2.length < 2 ^ 62) :
    PCall Try.prog 4 [rR s1 a1 b1, rR s2 a2 b2] (.b true) [] := by
  refine PCall.of_ax Try.call4 Try.func4 rfl (by simp [Try.ntmps4]) fun O w => ?_
  simp only [Try.ntmps4, Try.results4, argFr]
  have cf := lfew2 20 (by omega) s1 s2 a1 b1 a2 b2 la1 lb1 la2 lb2
  have caw := lawake_ok
  refine AX.sregAV [2, 3] (hq := ?_)
  refine AX.seq ?_
  by_cases h : (okR 20 (s1, a1, b1) && okR 20 (s2, a2, b2)) = true
  · rw [h] at cf
    simp only [Bool.and_eq_true, okR_iff] at h
    obtain ⟨⟨h1, h2⟩, h3, h4⟩ := h
    have qa := IsQ.raw (s := s1) ha1 hb1 h1 h2
    have qb := IsQ.raw (s := s2) ha2 hb2 h3 h4
    generalize rq s1 (val a1) (val b1) = A at *
    generalize rq s2 (val a2) (val b2) = B at *
    have lA := qa.rL (by omega)
    have lB := qb.rL (by omega)
    have c1 := qcmp_ok qa qb (by omega)
    have c2 := pcmp_ok qa qb (by omega) (by omega)
    have c3 := qsame_ok qa qb (by omega)
    have c4 := psame_ok qa qb (by omega) (by omega)
    have c5 := sign_ok qa (by omega)
    have c6 := psign_ok qa (by omega)
    have c7 := qleast_ok qa qb (by omega)
    have c8 := pleast_ok qa qb (by omega) (by omega)
    have d1 := lsame_q (if B < A then B else A) (by split <;> omega)
    clear qa qb lA lB
    generalize (if B < A then B else A) = M at *
    generalize cmpR A B = C at *
    generalize decide (A = B) = D at *
    generalize sgnR A = S at *
    have hD := bne_self D
    refine AX.sregCV [2, 3, 9] (And.intro cf True.intro) (hq := ?_)
    refine AX.condF (h := ?_)
    refine AX.keepA [2, 3] (h := ?_)
    refine AX.skip ?_
    try simp only [thenS_normal, thenS_ret, thenS_exit, blockS_normal, blockS_ret, blockS_exit, backS_ret, backS_exit, if_true]
    refine AX.sdregWV [4] (And.intro @hD True.intro) (And.intro c1 (And.intro c2 (And.intro c3 (And.intro c4 (And.intro c5 (And.intro c6 (And.intro c7 (And.intro c8 (And.intro d1 (And.intro caw True.intro)))))))))) (hq := ?_)
    refine AX.ret (And.intro (Or.inl rfl) ?_)
    exact Done.one rfl rfl rfl rfl
  · rw [Bool.not_eq_true] at h
    rw [h] at cf
    refine AX.sregCV [2, 3, 9] (And.intro cf True.intro) (hq := ?_)
    refine AX.condT (h := ?_)
    refine AX.sregCV [4] (And.intro caw True.intro) (hq := ?_)
    refine AX.ret (And.intro (Or.inl rfl) ?_)
    exact Done.one rfl rfl rfl rfl

set_option maxRecDepth 20000 in
set_option maxHeartbeats 8000000 in
theorem ratioSums_ok (s1 s2 : Bool) (a1 b1 a2 b2 : List Nat) (ha1 : Dg a1) (hb1 : Dg b1) (ha2 : Dg a2) (hb2 : Dg b2) (la1 : a1.length < 2 ^ 62) (lb1 : b1.length < 2 ^ 62) (la2 : a2.length < 2 ^ 62) (lb2 : b2.length < 2 ^ 62) :
    PCall Try.prog 5 [rR s1 a1 b1, rR s2 a2 b2] (.b true) [] := by
  refine PCall.of_ax Try.call5 Try.func5 rfl (by simp [Try.ntmps5]) fun O w => ?_
  simp only [Try.ntmps5, Try.results5, argFr]
  have cf := lfew2 20 (by omega) s1 s2 a1 b1 a2 b2 la1 lb1 la2 lb2
  have caw := lawake_ok
  refine AX.sregAV [2, 3] (hq := ?_)
  refine AX.seq ?_
  by_cases h : (okR 20 (s1, a1, b1) && okR 20 (s2, a2, b2)) = true
  · rw [h] at cf
    simp only [Bool.and_eq_true, okR_iff] at h
    obtain ⟨⟨h1, h2⟩, h3, h4⟩ := h
    have qa := IsQ.raw (s := s1) ha1 hb1 h1 h2
    have qb := IsQ.raw (s := s2) ha2 hb2 h3 h4
    generalize rq s1 (val a1) (val b1) = A at *
    generalize rq s2 (val a2) (val b2) = B at *
    have lA := qa.rL (by omega)
    have lB := qb.rL (by omega)
    have lAB := rL_add A B lA lB
    have mAB := rL_sub A B lA lB
    have pAB := rL_mul A B lA lB (by omega)
    have c1 := qdiv_ok qa qb (by omega)
    have c2 := pdiv_ok qa qb (by omega) (by omega)
    obtain ⟨s, a, b, e, e1, d1⟩ := qdivV_pair lA lB (by omega) (by omega)
    rw [e1] at c1 c2
    have c3 := qneg_ok qa (by omega)
    have c4 := pneg_ok qa (by omega)
    have d2 := lsame_q (-A) (by rw [rL_neg]; omega)
    have c5 := qadd_ok qa qb (by omega)
    have c6 := padd_ok qa qb (by omega) (by omega)
    have d3 := lsame_q (A + B) (by omega)
    have c7 := qsub_ok qa qb (by omega) (by omega)
    have c8 := psub_ok qa qb (by omega) (by omega)
    have d4 := lsame_q (A - B) (by omega)
    have c9 := qmul_ok qa qb (by omega)
    have c10 := pmul_ok qa qb (by omega) (by omega)
    have d5 := lsame_q (A * B) (by omega)
    clear qa qb lA lB lAB mAB pAB e1
    generalize A + B = x1 at *
    generalize A - B = x2 at *
    generalize A * B = x3 at *
    generalize -A = x4 at *
    refine AX.sregCV [2, 3, 13] (And.intro cf True.intro) (hq := ?_)
    refine AX.condF (h := ?_)
    refine AX.keepA [2, 3] (h := ?_)
    refine AX.skip ?_
    try simp only [thenS_normal, thenS_ret, thenS_exit, blockS_normal, blockS_ret, blockS_exit, backS_ret, backS_exit, if_true]
    refine AX.sregCV [2, 3, 5, 6] (And.intro c1 True.intro) (hq := ?_)
    refine AX.sregCV [2, 3, 5, 6, 7, 8] (And.intro c2 True.intro) (hq := ?_)
    refine AX.sdregCV [4] (And.intro c3 (And.intro c4 (And.intro d2 (And.intro c5 (And.intro c6 (And.intro d3 (And.intro c7 (And.intro c8 (And.intro d4 (And.intro c9 (And.intro c10 (And.intro d5 (And.intro d1 (And.intro caw True.intro)))))))))))))) (hq := ?_)
    refine AX.ret (And.intro (Or.inl rfl) ?_)
    exact Done.one rfl rfl rfl rfl
  · rw [Bool.not_eq_true] at h
    rw [h] at cf
    refine AX.sregCV [2, 3, 13] (And.intro cf True.intro) (hq := ?_)
    refine AX.condT (h := ?_)
    refine AX.sregCV [4] (And.intro caw True.intro) (hq := ?_)
    refine AX.ret (And.intro (Or.inl rfl) ?_)
    exact Done.one rfl rfl rfl rfl

set_option maxRecDepth 20000 in
set_option maxHeartbeats 8000000 in
theorem ratioLists_ok (els : List V) (hl : els.length < 2 ^ 62) (he : ∀ el ∈ els, ∃ (s : Bool) (a b : List Nat), el = .agg [.b s, dg a, dg b] ∧ Dg a ∧ Dg b ∧ a.length < 2 ^ 62 ∧ b.length < 2 ^ 62) :
    PCall Try.prog 6 [.sl els] (.b true) [] := by
  obtain ⟨xs, rfl, hx⟩ : ∃ xs : List RT, els = xs.map fR ∧ ∀ x ∈ xs, (Dg x.2.1 ∧ Dg x.2.2) ∧ x.2.1.length < 2 ^ 62 ∧ x.2.2.length < 2 ^ 62 := by
    clear hl
    induction els with
    | nil => exact ⟨[], rfl, fun x h => by cases h⟩
    | cons el els ih =>
      obtain ⟨xs, rfl, h1⟩ := ih fun e h => he e (List.mem_cons_of_mem _ h)
      obtain ⟨s, a, b, rfl, h2, h3, h4, h5⟩ := he el (List.mem_cons_self ..)
      refine ⟨(s, a, b) :: xs, rfl, fun x h => ?_⟩
      rcases List.mem_cons.1 h with rfl | h
      · exact ⟨⟨h2, h3⟩, h4, h5⟩
      · exact h1 x h
  rw [List.length_map] at hl
  clear he
  refine PCall.of_ax Try.call6 Try.func6 rfl (by simp [Try.ntmps6]) fun O w => ?_
  simp only [Try.ntmps6, Try.results6, argFr]
  have caw := lawake_ok
  have hml : (xs.map fR).length = xs.length := List.length_map ..
  refine AX.sregAV [0] (hq := ?_)
  refine AX.seq ?_
  by_cases h0 : xs.length ≤ 12
  · have cf := lfew_ok 4 (by omega) xs (by omega) (fun x hx' => (hx x hx').2)
    by_cases h : xs.all (okR 4) = true
    · rw [h] at cf
      rw [List.all_eq_true] at h
      have hqs : IsQs (xs.map fR) (xs.map fun x => rq x.1 (val x.2.1) (val x.2.2)) 4 := by
        refine ⟨by simp, fun i hi => ?_⟩
        have hi' : i < xs.length := by simpa using hi
        have hm : xs.getD i d0 ∈ xs := by
          rw [List.getD_eq_getElem?_getD, List.getElem?_eq_getElem hi']
          exact List.getElem_mem _
        have e2 : (xs.map fun x => rq x.1 (val x.2.1) (val x.2.2)).getD i 0 = rq (xs.getD i d0).1 (val (xs.getD i d0).2.1) (val (xs.getD i d0).2.2) := by
          simp [List.getD_eq_getElem?_getD, hi']
        rw [getD_fR hi', e2]
        have hk := okR_iff.1 (h _ hm)
        exact IsQ.raw (hx _ hm).1.1 (hx _ hm).1.2 hk.1 hk.2
      have c1 := qsum_ok hqs (by rw [hml]; omega) (by omega)
      have c2 := psum_ok hqs (by rw [hml]; omega) (by omega)
      have ls := sumTo_len hqs (by omega) (xs.map fR).length (Nat.le_refl _)
      have d1 := lsame_q (sumTo (xs.map fun x => rq x.1 (val x.2.1) (val x.2.2)) (xs.map fR).length) (by rw [hml] at ls ⊢; omega)
      clear hqs ls
      generalize sumTo (xs.map fun x => rq x.1 (val x.2.1) (val x.2.2)) (xs.map fR).length = S at *
      generalize xs.map fR = els at *
      refine AX.sregWV [0, 10] (And.intro @hml True.intro) (And.intro cf True.intro) (hq := ?_)
      refine AX.condF (h := ?_)
      refine AX.keepA [0] (h := ?_)
      refine AX.skip ?_
      try simp only [thenS_normal, thenS_ret, thenS_exit, blockS_normal, blockS_ret, blockS_exit, backS_ret, backS_exit, if_true]
      refine AX.sregCV [2] (And.intro c1 (And.intro c2 (And.intro d1 (And.intro caw True.intro)))) (hq := ?_)
      refine AX.ret (And.intro (Or.inl rfl) ?_)
      exact Done.one rfl rfl rfl rfl
    · rw [Bool.not_eq_true] at h
      rw [h] at cf
      generalize xs.map fR = els at *
      refine AX.sregWV [0, 10] (And.intro @hml True.intro) (And.intro cf True.intro) (hq := ?_)
      refine AX.condT (h := ?_)
      refine AX.sregCV [2] (And.intro caw True.intro) (hq := ?_)
      refine AX.ret (And.intro (Or.inl rfl) ?_)
      exact Done.one rfl rfl rfl rfl
  · generalize xs.map fR = els at *
    refine AX.sregWV [0, 10] (And.intro @hml True.intro) True.intro (hq := ?_)
    refine AX.condT (h := ?_)
    refine AX.sregCV [2] (And.intro caw True.intro) (hq := ?_)
    refine AX.ret (And.intro (Or.inl rfl) ?_)
    exact Done.one rfl rfl rfl rfl

end Go.Proofs.Ytmhjcmochemndaa
