/- Fractions whose digits are the caller's own: Neg, Mul, Div, Add, Least (printed by mkrato.py). -/
import Derived.Test.YtmhjcmochemndaaRatO1
import Derived.Test.YtmhjcmochemndaaLiftK
set_option linter.unusedVariables false
set_option linter.unusedSimpArgs false
namespace Go.Proofs.Ytmhjcmochemndaa
open Go Go.Proofs.Ytmhjcmochemndaa.Lift
attribute [local irreducible] Lift.PCall Lift.HCall
def QO (f : FuncId) (args : List V) : Prop := ∃ (s : Bool) (l1 l2 : List Nat) (n1 n2 : Nat), n1 ≤ l1.length ∧ l1.length < 2 ^ 40 ∧ n2 ≤ l2.length ∧ l2.length < 2 ^ 40 ∧ PCall Try.prog f args (.agg [.b s, .own 0 0 n1 1, .own 1 0 n2 1]) [⟨49, l1.map u⟩, ⟨49, l2.map u⟩]
def QOE (f : FuncId) (args : List V) : Prop := ∃ (s : Bool) (l1 l2 : List Nat) (n1 n2 : Nat) (e : Int), n1 ≤ l1.length ∧ l1.length < 2 ^ 40 ∧ n2 ≤ l2.length ∧ l2.length < 2 ^ 40 ∧ (0 ≤ e ∧ e < 100) ∧ PCall Try.prog f args (.tup [.agg [.b s, .own 0 0 n1 1, .own 1 0 n2 1], .i .i64 e]) [⟨49, l1.map u⟩, ⟨49, l2.map u⟩]
theorem padR_len : ∀ k v, (padD k v).length = k
 | 0, _ => rfl
 | k + 1, v => by
  show (padD k (v / 4294967296)).length + 1 = k + 1
  rw [padR_len k]
theorem kqR_le (m n : Nat) : (digits (m / n)).length ≤ (padD (kqN m n) (m / n)).length := by
 rw [padR_len]
 unfold kqN
 split
 ·rename_i h
  have h0 : m / n = 0 := by
   rcases h with rfl | h
   ·exact Nat.div_zero m
   ·exact Nat.div_eq_of_lt h
  rw [h0, digits_zero]
  exact Nat.zero_le _
 ·rename_i h
  have hn0 : n ≠ 0 := fun e => h (.inl e)
  have hl : (digits n).length ≤ (digits m).length := digits_len_mono (by omega)
  have hL : (digits n).length ≠ 0 := fun e => hn0 (digits_len_zero.1 e)
  have h1 := pow_le_digits hn0
  have h2 := lt_pow_digits m
  refine digits_length_le ?_
  rw [Nat.div_lt_iff_lt_mul (Nat.pos_of_ne_zero hn0)]
  have e : 4294967296 ^ (digits m).length = 4294967296 ^ ((digits m).length + 1 - (digits n).length) * 4294967296 ^ ((digits n).length - 1) := by
   rw [← Nat.pow_add]
   congr 1
   omega
  rw [e] at h2
  exact Nat.lt_of_lt_of_le h2 (Nat.mul_le_mul_left _ h1)
theorem kqR_b {m n : Nat} : kqN m n ≤ (digits m).length + 1 := by
 unfold kqN
 split <;> omega
theorem one_len : (digits 1).length = 1 := by rw [digits_pos (by decide), show 1 / 4294967296 = 0 from rfl, digits_zero]; rfl
theorem k1_le (m n : Nat) : k1 m n ≤ (m1 m n).length := by
 unfold k1 m1
 split
 ·exact Nat.le_refl _
 ·exact kqR_le _ _
theorem k2_le (m n : Nat) : k2 m n ≤ (m2 m n).length := by
 unfold k2 m2
 split
 ·exact Nat.le_refl _
 ·exact kqR_le _ _
theorem m1_b (m n : Nat) : (m1 m n).length ≤ (digits m).length + 1 := by
 unfold m1
 split
 ·exact Nat.zero_le _
 ·rw [padR_len]; exact kqR_b
theorem m2_b (m n : Nat) : (m2 m n).length ≤ (digits n).length + 1 := by
 unfold m2
 split
 ·rw [one_len]; omega
 ·rw [padR_len]; exact kqR_b
theorem made_qo (s : Bool) (a b : List Nat) (ha : Dg a) (hb : Dg b) (hla : a.length < 2 ^ 36) (hlb : b.length < 2 ^ 36) : QO 68 [.b s, dg a, dg b] := by
 have e1 := digits_length_val ha
 have e2 := digits_length_val hb
 have b1 := m1_b (val a) (val b)
 have b2 := m2_b (val a) (val b)
 exact ⟨_, _, _, _, _, k1_le _ _, by omega, k2_le _ _, by omega, made_o s a b ha hb hla hlb⟩
theorem made_qn (s : Bool) (m n : Nat) (hm : (digits m).length < 2 ^ 36) (hn : (digits n).length < 2 ^ 36) : QO 68 [.b s, nv m, nv n] := made_qo s (digits m) (digits n) (Dg_digits _) (Dg_digits _) hm hn
theorem of_qo (s : Bool) (a b : List Nat) (ha : Dg a) (hb : Dg b) (hla : a.length < 2 ^ 36) (hlb : b.length < 2 ^ 36) : QOE 15 [.b s, dg a, dg b] := by
 have e1 := digits_length_val ha
 have e2 := digits_length_val hb
 have b1 := m1_b (val a) (val b)
 have b2 := m2_b (val a) (val b)
 refine ⟨_, _, _, _, _, _, k1_le _ _, by omega, ?_, ?_, ?_, qof_o s a b ha hb hla hlb⟩
 ·unfold j2 o2
  split
  ·exact Nat.le_refl _
  ·exact k2_le _ _
 ·unfold o2
  split
  ·decide
  ·omega
 ·split <;> decide
theorem zero_qo : QO 22 [] := ⟨false, [], digits 1, 0, (digits 1).length, Nat.le_refl _, by decide, Nat.le_refl _, by rw [one_len]; decide, zero_o⟩
theorem one_qo : QO 24 [] := ⟨_, _, _, _, _, Nat.le_refl _, by rw [one_len]; decide, Nat.le_refl _, by rw [one_len]; decide, one_o⟩
set_option maxHeartbeats 2000000 in
theorem neg_qo (s : Bool) (a b : List Nat) (ha : Dg a) (hb : Dg b) (hla : a.length < 2 ^ 34) (hlb : b.length < 2 ^ 34) : QO 36 [rR s a b] := by
 obtain ⟨z, l1, l2, n1, n2, h1, h2, h3, h4, c1⟩ := made_qo (!s) a b ha hb (by omega) (by omega)
 refine ⟨z, l1, l2, n1, n2, h1, h2, h3, h4, ?_⟩
 refine PCall.of_ax Try.call36 Try.func36 rfl (by simp [Try.ntmps36]) fun O w => ?_
 simp only [Try.ntmps36, Try.results36, argFr]
 refine AX.sR (rgAV [1, 2]) ?_
 refine AX.sR (rgCV [2] (aI c1 oT)) ?_
 refine AX.ret ⟨.inl rfl, ?_⟩
 exact Done.cellQ rfl rfl rfl rfl (by decide)
set_option maxHeartbeats 4000000 in
theorem mul_qo (s : Bool) (a b : List Nat) (ha : Dg a) (hb : Dg b) (hla : a.length < 2 ^ 34) (hlb : b.length < 2 ^ 34) (t : Bool) (c d : List Nat) (hc : Dg c) (hd : Dg d) (hlc : c.length < 2 ^ 34) (hld : d.length < 2 ^ 34) : QO 42 [rR s a b, rR t c d] := by
 have c3 := mul_ok a c ha hc (by omega) (by omega)
 have c4 := mul_ok b d hb hd (by omega) (by omega)
 have l1 := digits_len_mul (val a) (val c)
 have l2 := digits_len_mul (val b) (val d)
 have e1 := digits_length_val ha
 have e2 := digits_length_val hb
 have e3 := digits_length_val hc
 have e4 := digits_length_val hd
 obtain ⟨z, r1, r2, n1, n2, h1, h2, h3, h4, c5⟩ := made_qn (s != t) (val a * val c) (val b * val d) (by omega) (by omega)
 refine ⟨z, r1, r2, n1, n2, h1, h2, h3, h4, ?_⟩
 refine PCall.of_ax Try.call42 Try.func42 rfl (by simp [Try.ntmps42]) fun O w => ?_
 simp only [Try.ntmps42, Try.results42, argFr]
 refine AX.sR (rgAV [2, 3, 4]) ?_
 apply AX.sdreg [4] (by kernel_rfl) (by simp only [pq]; rfl)
 ·repeat (first
 |(apply RunD.op rfl; · rfl
   ·(simp only [opsOf, valsOf, valOf, lkp, ofConst, ofCell, Array.toList, Option.toList, List.map_cons, List.map_nil, List.cons_append, List.nil_append, List.append_nil, Nat.reduceEqDiff, Nat.reducePow, Nat.reduceLT, Nat.reduceLeDiff, reduceIte, if_true, if_false, IntKind.min, IntKind.max, IntKind.bits, IntKind.signed, Int.reduceLE, Int.reduceNeg, Int.reducePow, Int.reduceSub, and_self, Bool.false_eq_true, Nat.reduceSub]; rfl)
   iterate 2 (· (simp (disch := omega) only [go_sem, i64_of, u32_of, u64_of, Nat.reduceLT, Nat.reduceLeDiff, Nat.reduceEqDiff, Nat.reduceAdd, Nat.reduceSub, Nat.reduceMul, Nat.reducePow, Nat.reduceBEq, Int.reduceLE, Int.reduceLT, Int.reduceToNat, Int.reduceEq, Int.reduceNeg, ↓reduceIte, reduceCtorEq]; rfl))
   ·(simp only [pb, Nat.reduceLT, Nat.reduceAdd, reduceIte]; rfl)
   ·rfl)
 |(apply RunD.call rfl; · rfl
   ·(simp only [opsOf, valsOf, valOf, lkp, ofConst, ofCell, Array.toList, Option.toList, List.map_cons, List.map_nil, List.cons_append, List.nil_append, List.append_nil, Nat.reduceEqDiff, Nat.reducePow, Nat.reduceLT, Nat.reduceLeDiff, reduceIte, if_true, if_false, IntKind.min, IntKind.max, IntKind.bits, IntKind.signed, Int.reduceLE, Int.reduceNeg, Int.reducePow, Int.reduceSub, and_self, Bool.false_eq_true, Nat.reduceSub]; rfl)
   ·first | rfl | (simp only [List.cons_append, List.nil_append, V.hfL, V.hf, Bool.true_and]; assumption)
   ·(first | (simp only [cnlL, cnl, List.append_nil, List.cons_append, List.nil_append]; first | exact c3 | exact c4) | (first | exact c3 | exact c4))
   ·rfl
   ·(simp only [pb, Nat.reduceLT, Nat.reduceAdd, reduceIte]; rfl)
   ·rfl)
 |(apply RunD.callOwn2 rfl; · rfl
   ·(simp only [opsOf, valsOf, valOf, lkp, ofConst, ofCell, Array.toList, Option.toList, List.map_cons, List.map_nil, List.cons_append, List.nil_append, List.append_nil, Nat.reduceEqDiff, Nat.reducePow, Nat.reduceLT, Nat.reduceLeDiff, reduceIte, if_true, if_false, IntKind.min, IntKind.max, IntKind.bits, IntKind.signed, Int.reduceLE, Int.reduceNeg, Int.reducePow, Int.reduceSub, and_self, Bool.false_eq_true, Nat.reduceSub]; rfl)
   ·first | rfl | (simp only [List.cons_append, List.nil_append, V.hfL, V.hf, Bool.true_and]; assumption)
   ·(first | (simp only [cnlL, cnl, List.append_nil, List.cons_append, List.nil_append]; exact c5) | (exact c5))
   ·(simp only [V.ren, V.renL, renL_u]; rfl)
   ·(simp only [Row.ren, V.ren, V.renL, renL_u]; rfl)
   ·(simp only [Row.ren, V.ren, V.renL, renL_u]; rfl)
   ·(simp only [pb, Nat.reduceLT, Nat.reduceAdd, reduceIte]; rfl)
   ·rfl)
 |(apply RunD.skip; · rfl
   ·(simp only [pb, Nat.reduceLT, Nat.reduceAdd, reduceIte]; rfl)
   ·rfl))
  exact RunD.nil
 ·repeat (first | exact Keep.nil | (apply Keep.take; · rfl) | (apply Keep.drop; · rfl))
 ·kernel_rfl
 refine AX.ret ⟨.inl rfl, ?_⟩
 exact Done.cellQ rfl rfl rfl rfl (by decide)
set_option maxRecDepth 20000 in
set_option maxHeartbeats 4000000 in
theorem div_qo (s : Bool) (a b : List Nat) (ha : Dg a) (hb : Dg b) (hla : a.length < 2 ^ 33) (hlb : b.length < 2 ^ 33) (t : Bool) (c d : List Nat) (hc : Dg c) (hd : Dg d) (hlc : c.length < 2 ^ 33) (hld : d.length < 2 ^ 33) : QOE 34 [rR s a b, rR t c d] := by
 have c1 := sign_ok (L := 2 ^ 33) (IsQ.raw (s := t) hc hd (by omega) (by omega)) (by omega)
 generalize rq t (val c) (val d) = q at *
 have c3 := mul_ok a d ha hd (by omega) (by omega)
 have c4 := mul_ok b c hb hc (by omega) (by omega)
 have l1 := digits_len_mul (val a) (val d)
 have l2 := digits_len_mul (val b) (val c)
 have e1 := digits_length_val ha
 have e2 := digits_length_val hb
 have e3 := digits_length_val hc
 have e4 := digits_length_val hd
 obtain ⟨z, r1, r2, n1, n2, h1, h2, h3, h4, c5⟩ := made_qn (s != t) (val a * val d) (val b * val c) (by omega) (by omega)
 generalize sgnR q = Z at *
 by_cases h0 : Z = 0
 ·refine ⟨false, [], [], 0, 0, 31, Nat.le_refl _, by decide, Nat.le_refl _, by decide, by decide, ?_⟩
  refine PCall.of_ax Try.call34 Try.func34 rfl (by simp [Try.ntmps34]) fun O w => ?_
  simp only [Try.ntmps34, Try.results34, argFr]
  refine AX.sR (rgAV [2, 3, 4, 5]) ?_
  refine AX.seq ?_
  refine AX.sR (rgCV [2, 3, 4, 8] (aI c1 oT)) ?_
  refine AX.condT ?_
  refine AX.sR (rgAV [4, 5]) ?_
  refine AX.own0c 2 1 49 1 rfl rfl (by show 1 < 3; decide) ?_
  refine AX.own0c 2 2 49 1 rfl rfl (by show 2 < 3; decide) ?_
  refine AX.ret ⟨.inl rfl, ?_⟩
  exact Done.cellQE (l := []) (l' := []) rfl rfl rfl rfl rfl (show (3 : Nat) ≠ 4 by decide)
 ·refine ⟨z, r1, r2, n1, n2, 0, h1, h2, h3, h4, by decide, ?_⟩
  refine PCall.of_ax Try.call34 Try.func34 rfl (by simp [Try.ntmps34]) fun O w => ?_
  simp only [Try.ntmps34, Try.results34, argFr]
  refine AX.sR (rgAV [2, 3, 4, 5]) ?_
  refine AX.seq ?_
  refine AX.sR (rgCV [2, 3, 4, 8] (aI c1 oT)) ?_
  refine AX.condF ?_
  refine AX.keepA [2, 3, 4] ?_
  refine AX.skip ?_
  refine nmZ ?_
  apply AX.sdreg [4, 5] (by kernel_rfl) (by simp only [pq]; rfl)
  ·repeat (first
  |(apply RunD.op rfl; · rfl
    ·(simp only [opsOf, valsOf, valOf, lkp, ofConst, ofCell, Array.toList, Option.toList, List.map_cons, List.map_nil, List.cons_append, List.nil_append, List.append_nil, Nat.reduceEqDiff, Nat.reducePow, Nat.reduceLT, Nat.reduceLeDiff, reduceIte, if_true, if_false, IntKind.min, IntKind.max, IntKind.bits, IntKind.signed, Int.reduceLE, Int.reduceNeg, Int.reducePow, Int.reduceSub, and_self, Bool.false_eq_true, Nat.reduceSub]; rfl)
    iterate 2 (· (simp (disch := omega) only [go_sem, i64_of, u32_of, u64_of, Nat.reduceLT, Nat.reduceLeDiff, Nat.reduceEqDiff, Nat.reduceAdd, Nat.reduceSub, Nat.reduceMul, Nat.reducePow, Nat.reduceBEq, Int.reduceLE, Int.reduceLT, Int.reduceToNat, Int.reduceEq, Int.reduceNeg, ↓reduceIte, reduceCtorEq]; rfl))
    ·(simp only [pb, Nat.reduceLT, Nat.reduceAdd, reduceIte]; rfl)
    ·rfl)
  |(apply RunD.call rfl; · rfl
    ·(simp only [opsOf, valsOf, valOf, lkp, ofConst, ofCell, Array.toList, Option.toList, List.map_cons, List.map_nil, List.cons_append, List.nil_append, List.append_nil, Nat.reduceEqDiff, Nat.reducePow, Nat.reduceLT, Nat.reduceLeDiff, reduceIte, if_true, if_false, IntKind.min, IntKind.max, IntKind.bits, IntKind.signed, Int.reduceLE, Int.reduceNeg, Int.reducePow, Int.reduceSub, and_self, Bool.false_eq_true, Nat.reduceSub]; rfl)
    ·first | rfl | (simp only [List.cons_append, List.nil_append, V.hfL, V.hf, Bool.true_and]; assumption)
    ·(first | (simp only [cnlL, cnl, List.append_nil, List.cons_append, List.nil_append]; first | exact c3 | exact c4) | (first | exact c3 | exact c4))
    ·rfl
    ·(simp only [pb, Nat.reduceLT, Nat.reduceAdd, reduceIte]; rfl)
    ·rfl)
  |(apply RunD.callOwn2 rfl; · rfl
    ·(simp only [opsOf, valsOf, valOf, lkp, ofConst, ofCell, Array.toList, Option.toList, List.map_cons, List.map_nil, List.cons_append, List.nil_append, List.append_nil, Nat.reduceEqDiff, Nat.reducePow, Nat.reduceLT, Nat.reduceLeDiff, reduceIte, if_true, if_false, IntKind.min, IntKind.max, IntKind.bits, IntKind.signed, Int.reduceLE, Int.reduceNeg, Int.reducePow, Int.reduceSub, and_self, Bool.false_eq_true, Nat.reduceSub]; rfl)
    ·first | rfl | (simp only [List.cons_append, List.nil_append, V.hfL, V.hf, Bool.true_and]; assumption)
    ·(first | (simp only [cnlL, cnl, List.append_nil, List.cons_append, List.nil_append]; exact c5) | (exact c5))
    ·(simp only [V.ren, V.renL, renL_u]; rfl)
    ·(simp only [Row.ren, V.ren, V.renL, renL_u]; rfl)
    ·(simp only [Row.ren, V.ren, V.renL, renL_u]; rfl)
    ·(simp only [pb, Nat.reduceLT, Nat.reduceAdd, reduceIte]; rfl)
    ·rfl)
  |(apply RunD.skip; · rfl
    ·(simp only [pb, Nat.reduceLT, Nat.reduceAdd, reduceIte]; rfl)
    ·rfl))
   exact RunD.nil
  ·repeat (first | exact Keep.nil | (apply Keep.take; · rfl) | (apply Keep.drop; · rfl))
  ·kernel_rfl
  refine AX.ret ⟨.inl rfl, ?_⟩
  exact Done.cellQE rfl rfl rfl rfl rfl (by decide)
set_option maxRecDepth 20000 in
set_option maxHeartbeats 4000000 in
theorem least_qo (s : Bool) (a b : List Nat) (ha : Dg a) (hb : Dg b) (hla : a.length < 2 ^ 33) (hlb : b.length < 2 ^ 33) (t : Bool) (c d : List Nat) (hc : Dg c) (hd : Dg d) (hlc : c.length < 2 ^ 33) (hld : d.length < 2 ^ 33) : QO 32 [rR s a b, rR t c d] := by
 have c1 := qcmp_ok (L := 2 ^ 33) (IsQ.raw (s := t) hc hd (by omega) (by omega)) (IsQ.raw (s := s) ha hb (by omega) (by omega)) (by omega)
 generalize cmpR (rq t (val c) (val d)) (rq s (val a) (val b)) = Z at *
 by_cases h : Z < 0
 ·obtain ⟨z, r1, r2, n1, n2, h1, h2, h3, h4, k1⟩ := made_qo t c d hc hd (by omega) (by omega)
  refine ⟨z, r1, r2, n1, n2, h1, h2, h3, h4, ?_⟩
  refine PCall.of_ax Try.call32 Try.func32 rfl (by simp [Try.ntmps32]) fun O w => ?_
  simp only [Try.ntmps32, Try.results32, argFr]
  refine AX.sR (rgAV [2, 3, 4]) ?_
  refine AX.seq ?_
  refine AX.sR (rgCV [2, 3, 4, 8] (aI c1 oT)) ?_
  refine AX.condT ?_
  refine AX.rR (rgAV [2, 4]) ?_
  refine nmZ ?_
  refine AX.sR (rgCV [4] (aI k1 oT)) ?_
  refine AX.ret ⟨.inl rfl, ?_⟩
  exact Done.cellQ rfl rfl rfl rfl (by decide)
 ·obtain ⟨z, r1, r2, n1, n2, h1, h2, h3, h4, k1⟩ := made_qo s a b ha hb (by omega) (by omega)
  refine ⟨z, r1, r2, n1, n2, h1, h2, h3, h4, ?_⟩
  refine PCall.of_ax Try.call32 Try.func32 rfl (by simp [Try.ntmps32]) fun O w => ?_
  simp only [Try.ntmps32, Try.results32, argFr]
  refine AX.sR (rgAV [2, 3, 4]) ?_
  refine AX.seq ?_
  refine AX.sR (rgCV [2, 3, 4, 8] (aI c1 oT)) ?_
  refine AX.condF ?_
  refine AX.keepA [2, 4] ?_
  refine AX.skip ?_
  refine nmZ ?_
  refine AX.sR (rgCV [4] (aI k1 oT)) ?_
  refine AX.ret ⟨.inl rfl, ?_⟩
  exact Done.cellQ rfl rfl rfl rfl (by decide)
set_option maxRecDepth 20000 in
set_option maxHeartbeats 8000000 in
theorem add_qo (s : Bool) (a b : List Nat) (ha : Dg a) (hb : Dg b) (hla : a.length < 2 ^ 33) (hlb : b.length < 2 ^ 33) (t : Bool) (c d : List Nat) (hc : Dg c) (hd : Dg d) (hlc : c.length < 2 ^ 33) (hld : d.length < 2 ^ 33) : QO 38 [rR s a b, rR t c d] := by
 have c1 := sign_ok (L := 2 ^ 33) (IsQ.raw (s := s) ha hb (by omega) (by omega)) (by omega)
 have c2 := sign_ok (L := 2 ^ 33) (IsQ.raw (s := t) hc hd (by omega) (by omega)) (by omega)
 generalize sgnR (rq s (val a) (val b)) = Z at *
 generalize sgnR (rq t (val c) (val d)) = Y at *
 have m1 := mul_ok a d ha hd (by omega) (by omega)
 have m2 := mul_ok c b hc hb (by omega) (by omega)
 have m3 := mul_ok b d hb hd (by omega) (by omega)
 have l1 := digits_len_mul (val a) (val d)
 have l2 := digits_len_mul (val c) (val b)
 have l3 := digits_len_mul (val b) (val d)
 have e1 := digits_length_val ha
 have e2 := digits_length_val hb
 have e3 := digits_length_val hc
 have e4 := digits_length_val hd
 by_cases h0 : Z = 0
 ·obtain ⟨z, r1, r2, n1, n2, h1, h2, h3, h4, k1⟩ := made_qo t c d hc hd (by omega) (by omega)
  refine ⟨z, r1, r2, n1, n2, h1, h2, h3, h4, ?_⟩
  refine PCall.of_ax Try.call38 Try.func38 rfl (by simp [Try.ntmps38]) fun O w => ?_
  simp only [Try.ntmps38, Try.results38, argFr]
  refine AX.sR (rgAV [2, 3, 4]) ?_
  refine AX.seq ?_
  refine AX.block ?_
  refine AX.sR (rgCV [2, 3, 4, 10] (aI c1 oT)) ?_
  refine AX.condT ?_
  refine AX.sR (rgCV [4] (aI k1 oT)) ?_
  refine AX.ret ⟨.inl rfl, ?_⟩
  exact Done.cellQ rfl rfl rfl rfl (by decide)
 by_cases h1 : Y = 0
 ·obtain ⟨z, r1, r2, n1, n2, h1', h2, h3, h4, k1⟩ := made_qo s a b ha hb (by omega) (by omega)
  refine ⟨z, r1, r2, n1, n2, h1', h2, h3, h4, ?_⟩
  refine PCall.of_ax Try.call38 Try.func38 rfl (by simp [Try.ntmps38]) fun O w => ?_
  simp only [Try.ntmps38, Try.results38, argFr]
  refine AX.sR (rgAV [2, 3, 4]) ?_
  refine AX.seq ?_
  refine AX.block ?_
  refine AX.sR (rgCV [2, 3, 4, 10] (aI c1 oT)) ?_
  refine AX.condF ?_
  refine AX.sR (rgCV [2, 3, 4, 21] (aI c2 oT)) ?_
  refine AX.condT ?_
  refine AX.sR (rgCV [4] (aI k1 oT)) ?_
  refine AX.ret ⟨.inl rfl, ?_⟩
  exact Done.cellQ rfl rfl rfl rfl (by decide)
 generalize val a * val d = X at *
 generalize val c * val b = W at *
 generalize val b * val d = D at *
 by_cases hst : s = t
 ·have ladd := digits_len_add X W
  have c3 := add_n X W (by omega) (by omega)
  obtain ⟨z, r1, r2, n1, n2, h1', h2, h3, h4, k1⟩ := made_qn s (X + W) D (by omega) (by omega)
  refine ⟨z, r1, r2, n1, n2, h1', h2, h3, h4, ?_⟩
  subst hst
  refine PCall.of_ax Try.call38 Try.func38 rfl (by simp [Try.ntmps38]) fun O w => ?_
  simp only [Try.ntmps38, Try.results38, argFr]
  refine AX.sR (rgAV [2, 3, 4]) ?_
  refine AX.seq ?_
  refine AX.block ?_
  refine AX.sR (rgCV [2, 3, 4, 10] (aI c1 oT)) ?_
  refine AX.condF ?_
  refine AX.sR (rgCV [2, 3, 4, 21] (aI c2 oT)) ?_
  refine AX.condF ?_
  refine AX.keepA [2, 3, 4] ?_
  refine AX.skip ?_
  refine nmZ ?_
  refine AX.sD (rgDCV [2, 3, 4, 5, 6, 7] (aI m1 (aI m2 (aI m3 oT)))) ?_
  refine AX.seq ?_
  apply AX.sreg [2, 3, 4, 5, 6, 7, 51] (by simp only [pq]; rfl)
  ·repeat (first
  |(apply RunO.op rfl; · rfl
    ·(simp only [opsOf, valsOf, valOf, lkp, ofConst, ofCell, Array.toList, Option.toList, List.map_cons, List.map_nil, List.cons_append, List.nil_append, List.append_nil, Nat.reduceEqDiff, Nat.reducePow, Nat.reduceLT, Nat.reduceLeDiff, reduceIte, if_true, if_false, IntKind.min, IntKind.max, IntKind.bits, IntKind.signed, Int.reduceLE, Int.reduceNeg, Int.reducePow, Int.reduceSub, and_self, Bool.false_eq_true, Nat.reduceSub]; rfl)
    iterate 2 (· (simp (disch := omega) only [go_sem, i64_of, u32_of, u64_of, Nat.reduceLT, Nat.reduceLeDiff, Nat.reduceEqDiff, Nat.reduceAdd, Nat.reduceSub, Nat.reduceMul, Nat.reducePow, Nat.reduceBEq, Int.reduceLE, Int.reduceLT, Int.reduceToNat, Int.reduceEq, Int.reduceNeg, ↓reduceIte, reduceCtorEq, beq_self_eq_true]; rfl))
    ·(simp only [pb, Nat.reduceLT, Nat.reduceAdd, reduceIte]; rfl))
  |(apply RunO.skip; · rfl
    ·(simp only [pb, Nat.reduceLT, Nat.reduceAdd, reduceIte]; rfl)))
   exact RunO.nil
  ·repeat (first | exact Keep.nil | (apply Keep.take; · rfl) | (apply Keep.drop; · rfl))
  refine AX.condT ?_
  apply AX.sdreg [4] (by kernel_rfl) (by simp only [pq]; rfl)
  ·repeat (first
  |(apply RunD.op rfl; · rfl
    ·(simp only [opsOf, valsOf, valOf, lkp, ofConst, ofCell, Array.toList, Option.toList, List.map_cons, List.map_nil, List.cons_append, List.nil_append, List.append_nil, Nat.reduceEqDiff, Nat.reducePow, Nat.reduceLT, Nat.reduceLeDiff, reduceIte, if_true, if_false, IntKind.min, IntKind.max, IntKind.bits, IntKind.signed, Int.reduceLE, Int.reduceNeg, Int.reducePow, Int.reduceSub, and_self, Bool.false_eq_true, Nat.reduceSub]; rfl)
    iterate 2 (· (simp (disch := omega) only [go_sem, i64_of, u32_of, u64_of, Nat.reduceLT, Nat.reduceLeDiff, Nat.reduceEqDiff, Nat.reduceAdd, Nat.reduceSub, Nat.reduceMul, Nat.reducePow, Nat.reduceBEq, Int.reduceLE, Int.reduceLT, Int.reduceToNat, Int.reduceEq, Int.reduceNeg, ↓reduceIte, reduceCtorEq]; rfl))
    ·(simp only [pb, Nat.reduceLT, Nat.reduceAdd, reduceIte]; rfl)
    ·rfl)
  |(apply RunD.call rfl; · rfl
    ·(simp only [opsOf, valsOf, valOf, lkp, ofConst, ofCell, Array.toList, Option.toList, List.map_cons, List.map_nil, List.cons_append, List.nil_append, List.append_nil, Nat.reduceEqDiff, Nat.reducePow, Nat.reduceLT, Nat.reduceLeDiff, reduceIte, if_true, if_false, IntKind.min, IntKind.max, IntKind.bits, IntKind.signed, Int.reduceLE, Int.reduceNeg, Int.reducePow, Int.reduceSub, and_self, Bool.false_eq_true, Nat.reduceSub]; rfl)
    ·first | rfl | (simp only [List.cons_append, List.nil_append, V.hfL, V.hf, Bool.true_and]; assumption)
    ·(first | (simp only [cnlL, cnl, List.append_nil, List.cons_append, List.nil_append]; first | exact c3) | (first | exact c3))
    ·rfl
    ·(simp only [pb, Nat.reduceLT, Nat.reduceAdd, reduceIte]; rfl)
    ·rfl)
  |(apply RunD.callOwn2 rfl; · rfl
    ·(simp only [opsOf, valsOf, valOf, lkp, ofConst, ofCell, Array.toList, Option.toList, List.map_cons, List.map_nil, List.cons_append, List.nil_append, List.append_nil, Nat.reduceEqDiff, Nat.reducePow, Nat.reduceLT, Nat.reduceLeDiff, reduceIte, if_true, if_false, IntKind.min, IntKind.max, IntKind.bits, IntKind.signed, Int.reduceLE, Int.reduceNeg, Int.reducePow, Int.reduceSub, and_self, Bool.false_eq_true, Nat.reduceSub]; rfl)
    ·first | rfl | (simp only [List.cons_append, List.nil_append, V.hfL, V.hf, Bool.true_and]; assumption)
    ·(first | (simp only [cnlL, cnl, List.append_nil, List.cons_append, List.nil_append]; exact k1) | (exact k1))
    ·(simp only [V.ren, V.renL, renL_u]; rfl)
    ·(simp only [Row.ren, V.ren, V.renL, renL_u]; rfl)
    ·(simp only [Row.ren, V.ren, V.renL, renL_u]; rfl)
    ·(simp only [pb, Nat.reduceLT, Nat.reduceAdd, reduceIte]; rfl)
    ·rfl)
  |(apply RunD.skip; · rfl
    ·(simp only [pb, Nat.reduceLT, Nat.reduceAdd, reduceIte]; rfl)
    ·rfl))
   exact RunD.nil
  ·repeat (first | exact Keep.nil | (apply Keep.take; · rfl) | (apply Keep.drop; · rfl))
  ·kernel_rfl
  refine AX.ret ⟨.inl rfl, ?_⟩
  exact Done.cellQ rfl rfl rfl rfl (by decide)
 have hbe : (s == t) = false := beq_false_of_ne hst
 have c3 := cmp_n X W (by omega) (by omega)
 by_cases hlt : X < W
 ·have c4 := sub_n W X (by omega) (by omega)
  rw [if_neg (by omega)] at c4
  unfold numE at c4
  have lsub := digits_len_mono (Nat.sub_le W X)
  obtain ⟨z, r1, r2, n1, n2, h1', h2, h3, h4, k1⟩ := made_qn t (W - X) D (by omega) (by omega)
  refine ⟨z, r1, r2, n1, n2, h1', h2, h3, h4, ?_⟩
  rw [cmp_lt hlt] at c3
  generalize W - X = S at *
  refine PCall.of_ax Try.call38 Try.func38 rfl (by simp [Try.ntmps38]) fun O w => ?_
  simp only [Try.ntmps38, Try.results38, argFr]
  refine AX.sR (rgAV [2, 3, 4]) ?_
  refine AX.seq ?_
  refine AX.block ?_
  refine AX.sR (rgCV [2, 3, 4, 10] (aI c1 oT)) ?_
  refine AX.condF ?_
  refine AX.sR (rgCV [2, 3, 4, 21] (aI c2 oT)) ?_
  refine AX.condF ?_
  refine AX.keepA [2, 3, 4] ?_
  refine AX.skip ?_
  refine nmZ ?_
  refine AX.sD (rgDCV [2, 3, 4, 5, 6, 7] (aI m1 (aI m2 (aI m3 oT)))) ?_
  refine AX.seq ?_
  refine AX.sR (rgWV [2, 3, 4, 5, 6, 7, 51] (aI @hbe oT) oT) ?_
  refine AX.condF ?_
  refine AX.keepA [2, 3, 4, 5, 6, 7] ?_
  refine AX.skip ?_
  refine nmZ ?_
  refine AX.seq ?_
  refine AX.sR (rgCV [2, 3, 4, 5, 6, 7, 62] (aI c3 oT)) ?_
  refine AX.condT ?_
  refine AX.rR (rgAV [2, 4, 5, 6, 7]) ?_
  refine nmZ ?_
  refine AX.sR (rgCV [2, 4, 7, 8] (aI c4 oT)) ?_
  refine AX.sR (rgCV [4] (aI k1 oT)) ?_
  refine AX.ret ⟨.inl rfl, ?_⟩
  exact Done.cellQ rfl rfl rfl rfl (by decide)
 ·have hcz : ¬ cmp X W < 0 := by
   unfold cmp
   rw [if_neg hlt]
   split <;> omega
  have c4 := sub_n X W (by omega) (by omega)
  rw [if_neg (by omega)] at c4
  unfold numE at c4
  have lsub := digits_len_mono (Nat.sub_le X W)
  obtain ⟨z, r1, r2, n1, n2, h1', h2, h3, h4, k1⟩ := made_qn s (X - W) D (by omega) (by omega)
  refine ⟨z, r1, r2, n1, n2, h1', h2, h3, h4, ?_⟩
  generalize cmp X W = Q at *
  generalize X - W = S at *
  refine PCall.of_ax Try.call38 Try.func38 rfl (by simp [Try.ntmps38]) fun O w => ?_
  simp only [Try.ntmps38, Try.results38, argFr]
  refine AX.sR (rgAV [2, 3, 4]) ?_
  refine AX.seq ?_
  refine AX.block ?_
  refine AX.sR (rgCV [2, 3, 4, 10] (aI c1 oT)) ?_
  refine AX.condF ?_
  refine AX.sR (rgCV [2, 3, 4, 21] (aI c2 oT)) ?_
  refine AX.condF ?_
  refine AX.keepA [2, 3, 4] ?_
  refine AX.skip ?_
  refine nmZ ?_
  refine AX.sD (rgDCV [2, 3, 4, 5, 6, 7] (aI m1 (aI m2 (aI m3 oT)))) ?_
  refine AX.seq ?_
  refine AX.sR (rgWV [2, 3, 4, 5, 6, 7, 51] (aI @hbe oT) oT) ?_
  refine AX.condF ?_
  refine AX.keepA [2, 3, 4, 5, 6, 7] ?_
  refine AX.skip ?_
  refine nmZ ?_
  refine AX.seq ?_
  refine AX.sR (rgCV [2, 3, 4, 5, 6, 7, 62] (aI c3 oT)) ?_
  refine AX.condF ?_
  refine AX.keepA [2, 4, 5, 6, 7] ?_
  refine AX.skip ?_
  refine nmZ ?_
  refine AX.sR (rgCV [2, 4, 7, 8] (aI c4 oT)) ?_
  refine AX.sR (rgCV [4] (aI k1 oT)) ?_
  refine AX.ret ⟨.inl rfl, ?_⟩
  exact Done.cellQ rfl rfl rfl rfl (by decide)
end Go.Proofs.Ytmhjcmochemndaa
