/- Factors: the program's without. -/
import Derived.Test.YtogpimmcodaljaaGreatKH
import Derived.Test.YtogpimmcodaljaaGreatFaT
set_option linter.unusedVariables false
set_option maxRecDepth 20000
set_option linter.unusedSimpArgs false
namespace Go.Proofs.YtogpimmcodaljaaGreat
open Go Go.Proofs.YtogpimmcodaljaaGreat.Lift
attribute [local irreducible] Lift.PCall Lift.HCall
theorem Lift.Done.ownZ {P : Program} {st : St} {t : Tmp} {h K : Nat} {l : List Int} {T : TypeId} (h1 : lkp st.fr t = some (.own h 0 K 1)) (h2 : lkp st.hp h = some ⟨T, zl l⟩) : Done P #[.tmp t] (.own 0 0 K 1) [⟨T, zl l⟩] st := by
 refine ⟨[.own h 0 K 1], ?_, [h], fun _ => h, .own h 0 K 1, st.hp, ?_, ?_, ?_, ?_, ?_⟩
 ·simp only [resVs, resV, h1]
 ·simp only [packV, frz, List.mem_singleton, if_true]
 ·simp only [V.ren]
 ·simp only [V.lt]; rfl
 ·intro h q hq
  match h, hq with
  | 0, hq =>
   cases hq
   refine ⟨?_, lt_zl _ _⟩
   rw [h2]
   simp only [Row.ren, ren_zl]
 ·intro a b ha hb _
  simp at ha hb
  omega
set_option maxHeartbeats 4000000 in
theorem zclone_own (l : List Int) (hl : l.length < 2 ^ 40) : PCall Tryz.prog 68 [.sl (zl l)] (.own 0 0 l.length 1) [⟨3, zl l⟩] := by
 refine PCall.of_ax Tryz.call68 Tryz.func68 rfl (by simp [Tryz.ntmps68]) fun O w => ?_
 simp only [Tryz.ntmps68, Tryz.results68, argFr]
 refine AX.sR (rgAV [0, 2]) ?_
 refine AX.seq ?_
 cases l with
 | nil =>
  refine AX.seq (AX.isnil (t0 := 0) (t3 := 3) (t4 := 4) rfl rfl rfl rfl rfl rfl (fun _ => rfl) Tryz.underlying22 rfl ⟨(by decide : 3 < 8), (by decide : 4 < 8)⟩ fun b => ?_)
  refine nmZ ?_
  cases b with
  | true =>
   refine AX.condT ?_
   refine AX.sR (rgAV [2]) ?_
   refine AX.own0 2 3 1 rfl ?_
   refine AX.ret ⟨.inl rfl, ?_⟩
   exact Lift.Done.ownZ (l := []) rfl rfl
  | false =>
   refine AX.condF ?_
   refine AX.skip ?_
   refine nmZ ?_
   refine AX.sR (rgAV [2]) ?_
   refine AX.ret ⟨.inl rfl, ?_⟩
   exact Lift.Done.ownZ (l := []) rfl rfl
 | cons x l =>
  have h0 : (zl (x :: l)).length = l.length + 1 := by rw [zl_length]; rfl
  refine AX.sR (rgAV [0, 4]) ?_
  refine AX.condF ?_
  refine AX.skip ?_
  refine nmZ ?_
  have hL : (zl (x :: l)).length = (x :: l).length := zl_length _
  have hf := (zl_hf (x :: l)).2
  have hg : ((zl (x :: l)).getD 0 .junk).cells.length = 1 := rfl
  have hc := flatCells_zl (x :: l)
  clear h0
  generalize x :: l = L at *
  refine AX.sR (rgWV [2] (aI @hL (aI @hf (aI @hc (aI @hg oT)))) oT) ?_
  refine AX.ret ⟨.inl rfl, ?_⟩
  exact Lift.Done.ownZ (l := L) rfl rfl
theorem ci_del {l : List Nat} {i : Nat} (hi : i < l.length) : (ci l).take i ++ (ci l).drop (i + 1) = ci (l.eraseIdx i) := by
 unfold ci
 rw [List.eraseIdx_eq_take_drop_succ, List.map_append, List.map_take, List.map_drop]
theorem asc_erase {l : List Nat} (hs : l.Pairwise (· < ·)) {i : Nat} (hi : i < l.length) : l.eraseIdx i = l.filter fun u => decide (u ≠ l.getD i 0) := by
 induction l generalizing i with
 | nil => exact absurd hi (Nat.not_lt_zero _)
 | cons x l ih =>
  obtain ⟨h1, h2⟩ := List.pairwise_cons.1 hs
  cases i with
  | zero =>
   have e : (x :: l).getD 0 0 = x := rfl
   rw [e, List.filter_cons_of_neg (by simp), List.eraseIdx_cons_zero]
   refine (List.filter_eq_self.2 fun u hu => ?_).symm
   have := h1 u hu
   exact decide_eq_true (by omega)
  | succ i =>
   have hi' : i < l.length := by simpa using hi
   have e : (x :: l).getD (i + 1) 0 = l.getD i 0 := rfl
   have hm : l.getD i 0 ∈ l := getD_mem0 hi'
   have := h1 _ hm
   rw [e, List.filter_cons_of_pos (p := fun u => decide (u ≠ l.getD i 0)) (decide_eq_true (show x ≠ l.getD i 0 by omega)), List.eraseIdx_cons_succ, ih h2 hi']
theorem vsT_erase {t : Nat → Nat} {i : Nat} (hi : i < (vsT t).length) : (vsT t).eraseIdx i = vsT (updT t ((vsT t).getD i 0) 0) := by
 rw [asc_erase (vsT_asc t) hi, vsT_del]
theorem asT_erase {t : Nat → Nat} {i : Nat} (hi : i < (vsT t).length) : (asT t).eraseIdx i = asT (updT t ((vsT t).getD i 0) 0) := by
 unfold asT
 have e : vsT (updT t ((vsT t).getD i 0) 0) = (vsT t).eraseIdx i := (vsT_erase hi).symm
 have e2 : ((vsT t).map t).eraseIdx i = ((vsT t).eraseIdx i).map t := by
  rw [List.eraseIdx_eq_take_drop_succ, List.eraseIdx_eq_take_drop_succ, List.map_append, List.map_take, List.map_drop]
 rw [e2, ← e]
 refine List.map_congr_left fun u hu => ?_
 have := (vsT_mem.1 hu).2
 by_cases eu : u = (vsT t).getD i 0
 ·rw [eu, updT_same] at this
  exact absurd rfl this
 ·rw [updT_ne _ _ eu]
theorem ci_bd {l : List Nat} {M : Nat} (h : ∀ j, j < l.length → l.getD j 0 ≤ M) (hM : M ≤ 2 ^ 62) : ∀ k, k < (ci l).length → -9223372036854775808 ≤ (ci l).getD k 0 ∧ (ci l).getD k 0 ≤ 9223372036854775807 := fun k hk => by
 rw [ci_length] at hk
 rw [cast_get]
 have := h k hk
 omega
end Go.Proofs.YtogpimmcodaljaaGreat
/- Factors: the program's without (walk). -/
set_option linter.unusedVariables false
set_option linter.unusedSimpArgs false
namespace Go.Proofs.YtogpimmcodaljaaGreat
open Go Go.Proofs.YtogpimmcodaljaaGreat.Lift
attribute [local irreducible] Lift.PCall Lift.HCall
theorem zl_append (D R : List Int) : zl (D ++ R) = zl D ++ zl R := List.map_append ..
theorem take_zr (D R : List Int) : ((zl (D ++ R)).drop 0).take (D.length * 1) = zl D := by
 rw [zl_append, List.drop_zero, Nat.mul_one, ← zl_length D, List.take_left]
theorem okFrz_zr (D R : List Int) : okFrz 0 D.length 1 (zl (D ++ R)) = true := by
 unfold okFrz
 rw [take_zr, (zl_hf D).1, (zl_hf D).2, zl_length, List.length_append]
 simp
theorem chunks_zr (D R : List Int) : chunks 1 D.length (((zl (D ++ R)).drop 0).take (D.length * 1)) = zl D := by
 rw [take_zr]
 exact if_pos rfl
set_option maxHeartbeats 16000000 in
theorem fwithout_ok (arm : Int) (t : Nat → Nat) (q : Nat → Rat) (ht : okT t) (i : Nat) (hi : i < (vsT t).length) (v : Nat) (hv : (vsT t).getD i 0 = v) (F : Nat) (r : Nat → Rat) (hop : ∀ n, n < szT (updT t v 0) → PCall Tryz.prog F ([.sl ((ql (t v) fun k => q (enT t (updT (deT (updT t v 0) n) v k))).map rV)] ++ []) (rV (r n)) []) :
  PCall Tryz.prog 51 [FV t q, .i .i64 i, .fn F []] (FV (updT t v 0) r) [] := by
 have hm := vsT_len t
 have hzv : (zl (ci (vsT t))).length = (vsT t).length := zn_length _
 have hza : (zl (ci (asT t))).length = (vsT t).length := (zn_length _).trans (asT_len t)
 have g1 : (zl (ci (vsT t))).getD i .junk = .i .i64 (v : Nat) := (zn_get hi).trans (by rw [hv])
 have g2 : (zl (ci (asT t))).getD i .junk = .i .i64 (t v : Nat) := (zn_get (by rw [asT_len]; exact hi)).trans (by rw [asT_get hi, hv])
 obtain ⟨b1, b2⟩ := vsT_get hi
 rw [hv] at b1 b2
 have b3 := ht.1 v
 have c1 := zclone_own (ci (vsT t)) (by rw [ci_length]; omega)
 have c2 := zclone_own (ci (asT t)) (by rw [ci_length, asT_len]; omega)
 have d1 := fdel_g (ci (vsT t)) i (by rw [ci_length]; exact hi) (by rw [ci_length]; omega) (ci_bd (M := 64) (fun j hj => by have := (vsT_get hj).1; omega) (by omega))
 have d2 := fdel_g (ci (asT t)) i (by rw [ci_length, asT_len]; exact hi) (by rw [ci_length, asT_len]; omega) (ci_bd (M := 64) (fun j hj => by rw [asT_len] at hj; rw [asT_get hj]; exact ht.1 _) (by omega))
 have ht' : okT (updT t v 0) := okT_del ht v
 have cw := fun n (hn : n < szT (updT t v 0)) => fwith1_g arm t q ht v b1 (deT (updT t v 0) n) (deT_in _ n) (deT_out (updT_same t v 0)) F (r n) (hop n hn)
 rw [ci_del hi, vsT_erase hi, hv] at d1
 rw [ci_del (by rw [asT_len]; exact hi), asT_erase hi, hv] at d2
 have cf := ffilled_ok (updT t v 0) r ht' 85 [.rp [.i .i64 (t v : Nat)], .rp [.i .i64 (v : Nat)], .rp [.sl (zl (ci (vsT t))), .sl (zl (ci (asT t))), .sl ((ql (szT t) q).map rV)], .rp [.fn F []]] (fun n hn => by rw [cnq_of rfl]; exact cw n hn)
 rw [cnq_of rfl] at cf
 have l1 : (ci (vsT t)).length = (vsT t).length := ci_length _
 have l2 : (ci (asT t)).length = (vsT t).length := by rw [ci_length, asT_len]
 have l3 : (ci (vsT (updT t v 0))).length = (vsT t).length - 1 := by rw [← hv, ← vsT_erase hi, ci_length, List.length_eraseIdx, if_pos hi]
 have l4 : (ci (asT (updT t v 0))).length = (vsT t).length - 1 := by rw [← hv, ← asT_erase hi, ci_length, List.length_eraseIdx, asT_len, if_pos hi]
 have z1 := okFrz_zr (ci (vsT (updT t v 0))) [0]
 have z2 := chunks_zr (ci (vsT (updT t v 0))) [0]
 have z3 := okFrz_zr (ci (asT (updT t v 0))) [0]
 have z4 := chunks_zr (ci (asT (updT t v 0))) [0]
 rw [l3] at z1 z2
 rw [l4] at z3 z4
 rw [l1] at c1 d1
 rw [l2] at c2 d2
 clear cw hop l1 l2 l3 l4
 unfold FV fV at *
 rw [xsT_map t q]
 generalize (xsT (updT t v 0) r).map fR = X' at *
 generalize (ql (szT t) q).map rV = X at *
 generalize ci (vsT (updT t v 0)) ++ [0] = D1 at *
 generalize ci (asT (updT t v 0)) ++ [0] = D2 at *
 generalize ci (vsT (updT t v 0)) = E1 at *
 generalize ci (asT (updT t v 0)) = E2 at *
 generalize ci (vsT t) = L1 at *
 generalize ci (asT t) = L2 at *
 generalize (vsT t).length = m at *
 generalize t v = n at *
 refine PCall.of_ax Tryz.call51 Tryz.func51 rfl (by simp [Tryz.ntmps51]) fun O w0 => ?_
 simp only [Tryz.ntmps51, Tryz.results51, argFr]
 refine AX.sR (rgAV [1, 3, 5, 6]) ?_
 refine AX.sD (rgDWV [1, 3, 5, 6, 7, 8] (aI @hzv (aI @hza (aI @g1 (aI @g2 oT)))) oT) ?_
 apply AX.sdreg [3, 5, 6, 7, 8, 9, 10] (by kernel_rfl) (by simp only [pq]; rfl)
 ·repeat (first
 |(apply RunD.op rfl; · rfl
   ·(simp only [opsOf, valsOf, valOf, lkp, ofConst, ofCell, Array.toList, Option.toList, List.map_cons, List.map_nil, List.cons_append, List.nil_append, List.append_nil, Nat.reduceEqDiff, Nat.reducePow, Nat.reduceLT, Nat.reduceLeDiff, reduceIte, if_true, if_false, IntKind.min, IntKind.max, IntKind.bits, IntKind.signed, Int.reduceLE, Int.reduceNeg, Int.reducePow, Int.reduceSub, and_self, Bool.false_eq_true, Nat.reduceSub]; rfl)
   iterate 2 (· (simp (disch := omega) only [go_sem, i64_of, u32_of, u64_of, Nat.reduceLT, Nat.reduceLeDiff, Nat.reduceEqDiff, Nat.reduceAdd, Nat.reduceSub, Nat.reduceMul, Nat.reducePow, Nat.reduceBEq, Int.reduceLE, Int.reduceLT, Int.reduceToNat, Int.reduceEq, Int.reduceNeg, reduceIte, reduceCtorEq, lit_add]; rfl))
   ·(simp only [pb, Nat.reduceLT, Nat.reduceAdd, reduceIte]; rfl)
   ·rfl)
 |(apply RunD.gcall [5] rfl; · rfl
   ·(simp only [opsOf, valsOf, valOf, lkp, ofConst, ofCell, Array.toList, Option.toList, List.map_cons, List.map_nil, List.cons_append, List.nil_append, List.append_nil, Nat.reduceEqDiff, Nat.reducePow, Nat.reduceLT, Nat.reduceLeDiff, reduceIte, if_true, if_false, IntKind.min, IntKind.max, IntKind.bits, IntKind.signed, Int.reduceLE, Int.reduceNeg, Int.reducePow, Int.reduceSub, and_self, Bool.false_eq_true, Nat.reduceSub]; rfl)
   ·exact d1
   ·first | rfl | (simp only [Row.ren, V.ren, V.renL, renS, ren_q, renL_u, ren_zl, ren_tb, ren_frw, ren_cnq]; rfl)
   ·first | rfl | (simp only [V.lt, V.ltL, ltS, lt_q, ltL_u, lt_zl, lt_tb, lt_frw, lt_cnq]; rfl)
   ·decide
   ·repeat' (first | exact trivial | rfl | (simp only [Row.ren, V.ren, V.renL, renS, ren_q, renL_u, ren_zl, ren_tb, ren_frw, ren_cnq]; done) | (simp only [Row.ren, V.ren, V.renL, renS, ren_q, renL_u, ren_zl, ren_tb, ren_frw, ren_cnq]; rfl) | (simp only [V.lt, V.ltL, ltS, lt_q, ltL_u, lt_zl, lt_tb, lt_frw, lt_cnq]; done) | apply And.intro)
   ·first | rfl | (simp only [Row.ren, V.ren, V.renL, renS, ren_q, renL_u, ren_zl, ren_tb, ren_frw, ren_cnq]; rfl)
   ·(simp only [setRows, setL, Row.ren, V.ren, V.renL, renS, ren_q, renL_u, ren_zl, ren_tb, ren_frw, ren_cnq, pb, Nat.reduceLT, Nat.reduceAdd, Nat.reduceEqDiff, reduceIte]; rfl)
   ·rfl)
 |(apply RunD.gcall [6] rfl; · rfl
   ·(simp only [opsOf, valsOf, valOf, lkp, ofConst, ofCell, Array.toList, Option.toList, List.map_cons, List.map_nil, List.cons_append, List.nil_append, List.append_nil, Nat.reduceEqDiff, Nat.reducePow, Nat.reduceLT, Nat.reduceLeDiff, reduceIte, if_true, if_false, IntKind.min, IntKind.max, IntKind.bits, IntKind.signed, Int.reduceLE, Int.reduceNeg, Int.reducePow, Int.reduceSub, and_self, Bool.false_eq_true, Nat.reduceSub]; rfl)
   ·exact d2
   ·first | rfl | (simp only [Row.ren, V.ren, V.renL, renS, ren_q, renL_u, ren_zl, ren_tb, ren_frw, ren_cnq]; rfl)
   ·first | rfl | (simp only [V.lt, V.ltL, ltS, lt_q, ltL_u, lt_zl, lt_tb, lt_frw, lt_cnq]; rfl)
   ·decide
   ·repeat' (first | exact trivial | rfl | (simp only [Row.ren, V.ren, V.renL, renS, ren_q, renL_u, ren_zl, ren_tb, ren_frw, ren_cnq]; done) | (simp only [Row.ren, V.ren, V.renL, renS, ren_q, renL_u, ren_zl, ren_tb, ren_frw, ren_cnq]; rfl) | (simp only [V.lt, V.ltL, ltS, lt_q, ltL_u, lt_zl, lt_tb, lt_frw, lt_cnq]; done) | apply And.intro)
   ·first | rfl | (simp only [Row.ren, V.ren, V.renL, renS, ren_q, renL_u, ren_zl, ren_tb, ren_frw, ren_cnq]; rfl)
   ·(simp only [setRows, setL, Row.ren, V.ren, V.renL, renS, ren_q, renL_u, ren_zl, ren_tb, ren_frw, ren_cnq, pb, Nat.reduceLT, Nat.reduceAdd, Nat.reduceEqDiff, reduceIte]; rfl)
   ·rfl)
 |(apply RunD.callOwn rfl; · rfl
   ·(simp only [opsOf, valsOf, valOf, lkp, ofConst, ofCell, Array.toList, Option.toList, List.map_cons, List.map_nil, List.cons_append, List.nil_append, List.append_nil, Nat.reduceEqDiff, Nat.reducePow, Nat.reduceLT, Nat.reduceLeDiff, reduceIte, if_true, if_false, IntKind.min, IntKind.max, IntKind.bits, IntKind.signed, Int.reduceLE, Int.reduceNeg, Int.reducePow, Int.reduceSub, and_self, Bool.false_eq_true, Nat.reduceSub]; rfl)
   ·first | rfl | (simp only [List.cons_append, List.nil_append, V.hfL, V.hf, Bool.true_and]; assumption)
   ·(first | (simp only [cnlL, cnl, List.append_nil, List.cons_append, List.nil_append]; exact c1) | (exact c1))
   ·(simp only [V.ren, V.renL, ren_q, renL_u, ren_zl, ren_tb, ren_frw, ren_cnq]; rfl)
   ·(simp only [Row.ren, V.ren, V.renL, ren_q, renL_u, ren_zl, ren_tb, ren_frw, ren_cnq]; rfl)
   ·(simp only [pb, Nat.reduceLT, Nat.reduceAdd, reduceIte]; rfl)
   ·rfl)
 |(apply RunD.callOwn rfl; · rfl
   ·(simp only [opsOf, valsOf, valOf, lkp, ofConst, ofCell, Array.toList, Option.toList, List.map_cons, List.map_nil, List.cons_append, List.nil_append, List.append_nil, Nat.reduceEqDiff, Nat.reducePow, Nat.reduceLT, Nat.reduceLeDiff, reduceIte, if_true, if_false, IntKind.min, IntKind.max, IntKind.bits, IntKind.signed, Int.reduceLE, Int.reduceNeg, Int.reducePow, Int.reduceSub, and_self, Bool.false_eq_true, Nat.reduceSub]; rfl)
   ·first | rfl | (simp only [List.cons_append, List.nil_append, V.hfL, V.hf, Bool.true_and]; assumption)
   ·(first | (simp only [cnlL, cnl, List.append_nil, List.cons_append, List.nil_append]; exact c2) | (exact c2))
   ·(simp only [V.ren, V.renL, ren_q, renL_u, ren_zl, ren_tb, ren_frw, ren_cnq]; rfl)
   ·(simp only [Row.ren, V.ren, V.renL, ren_q, renL_u, ren_zl, ren_tb, ren_frw, ren_cnq]; rfl)
   ·(simp only [pb, Nat.reduceLT, Nat.reduceAdd, reduceIte]; rfl)
   ·rfl)
 |(apply RunD.skip; · rfl
   ·(simp only [pb, Nat.reduceLT, Nat.reduceAdd, reduceIte]; rfl)
   ·rfl))
  exact RunD.nil
 ·repeat (first | exact Keep.nil | (apply Keep.take; · rfl) | (apply Keep.drop; · rfl))
 ·kernel_rfl
 refine AX.fz 0 (fr' := [(3, .rp [.sl (zl L1), .sl (zl L2), .sl X]), (5, .ptr 1 0), (6, .ptr 2 0), (7, .ptr 3 0), (8, .ptr 4 0), (9, .own 5 0 (m - 1) 1), (10, .own 6 0 (m - 1) 1)]) (hp' := [(6, ⟨3, zl D2⟩), (5, ⟨3, zl D1⟩), (4, ⟨3, [.i .i64 n]⟩), (3, ⟨3, [.i .i64 v]⟩), (2, ⟨25, [.nl, .nl, .nl]⟩), (1, ⟨55, [.fn F []]⟩)]) rfl rfl (by repeat (first | exact .nil | (refine .cons rfl ?_ ?_; · first | exact .same | exact .ptr rfl))) (by repeat (first | exact .nil | (refine .keep (by decide) rfl ?_))) ?_
 refine AX.fz 1 (fr' := [(3, .rp [.sl (zl L1), .sl (zl L2), .sl X]), (5, .rp [.fn F []]), (6, .ptr 2 0), (7, .ptr 3 0), (8, .ptr 4 0), (9, .own 5 0 (m - 1) 1), (10, .own 6 0 (m - 1) 1)]) (hp' := [(6, ⟨3, zl D2⟩), (5, ⟨3, zl D1⟩), (4, ⟨3, [.i .i64 n]⟩), (3, ⟨3, [.i .i64 v]⟩), (2, ⟨25, [.nl, .nl, .nl]⟩)]) rfl rfl (by repeat (first | exact .nil | (refine .cons rfl ?_ ?_; · first | exact .same | exact .ptr rfl))) (by repeat (first | exact .nil | (refine .keep (by decide) rfl ?_))) ?_
 refine AX.fz 3 (fr' := [(3, .rp [.sl (zl L1), .sl (zl L2), .sl X]), (5, .rp [.fn F []]), (6, .ptr 2 0), (7, .rp [.i .i64 v]), (8, .ptr 4 0), (9, .own 5 0 (m - 1) 1), (10, .own 6 0 (m - 1) 1)]) (hp' := [(6, ⟨3, zl D2⟩), (5, ⟨3, zl D1⟩), (4, ⟨3, [.i .i64 n]⟩), (2, ⟨25, [.nl, .nl, .nl]⟩)]) rfl rfl (by repeat (first | exact .nil | (refine .cons rfl ?_ ?_; · first | exact .same | exact .ptr rfl))) (by repeat (first | exact .nil | (refine .keep (by decide) rfl ?_))) ?_
 refine AX.fz 4 (fr' := [(3, .rp [.sl (zl L1), .sl (zl L2), .sl X]), (5, .rp [.fn F []]), (6, .ptr 2 0), (7, .rp [.i .i64 v]), (8, .rp [.i .i64 n]), (9, .own 5 0 (m - 1) 1), (10, .own 6 0 (m - 1) 1)]) (hp' := [(6, ⟨3, zl D2⟩), (5, ⟨3, zl D1⟩), (2, ⟨25, [.nl, .nl, .nl]⟩)]) rfl rfl (by repeat (first | exact .nil | (refine .cons rfl ?_ ?_; · first | exact .same | exact .ptr rfl))) (by repeat (first | exact .nil | (refine .keep (by decide) rfl ?_))) ?_
 refine AX.frozen 9 (zl E1) rfl rfl z1 z2 ?_
 refine AX.frozen 10 (zl E2) rfl rfl z3 z4 ?_
 refine AX.sR (rgCV [6] (aI cf oT)) ?_
 refine AX.ret ⟨.inl rfl, ?_⟩
 exact Lift.Done.facA fa_lay_fac rfl rfl
set_option maxHeartbeats 16000000 in
theorem fwithoutr_ok (arm : Int) (t : Nat → Nat) (q : Nat → Rat) (ht : okT t) (i : Nat) (hi : i < (vsT t).length) (v : Nat) (hv : (vsT t).getD i 0 = v) (F : Nat) (r : Nat → Rat) (hop : ∀ n, n < szT (updT t v 0) → PCall Tryz.prog F ([.sl ((ql (t v) fun k => q (enT t (updT (deT (updT t v 0) n) v k))).map rV)] ++ [.rp [.i .i64 arm]]) (rV (r n)) []) :
  PCall Tryz.prog 51 [FV t q, .i .i64 i, .fn F [.rp [.i .i64 arm]]] (FV (updT t v 0) r) [] := by
 have hm := vsT_len t
 have hzv : (zl (ci (vsT t))).length = (vsT t).length := zn_length _
 have hza : (zl (ci (asT t))).length = (vsT t).length := (zn_length _).trans (asT_len t)
 have g1 : (zl (ci (vsT t))).getD i .junk = .i .i64 (v : Nat) := (zn_get hi).trans (by rw [hv])
 have g2 : (zl (ci (asT t))).getD i .junk = .i .i64 (t v : Nat) := (zn_get (by rw [asT_len]; exact hi)).trans (by rw [asT_get hi, hv])
 obtain ⟨b1, b2⟩ := vsT_get hi
 rw [hv] at b1 b2
 have b3 := ht.1 v
 have c1 := zclone_own (ci (vsT t)) (by rw [ci_length]; omega)
 have c2 := zclone_own (ci (asT t)) (by rw [ci_length, asT_len]; omega)
 have d1 := fdel_g (ci (vsT t)) i (by rw [ci_length]; exact hi) (by rw [ci_length]; omega) (ci_bd (M := 64) (fun j hj => by have := (vsT_get hj).1; omega) (by omega))
 have d2 := fdel_g (ci (asT t)) i (by rw [ci_length, asT_len]; exact hi) (by rw [ci_length, asT_len]; omega) (ci_bd (M := 64) (fun j hj => by rw [asT_len] at hj; rw [asT_get hj]; exact ht.1 _) (by omega))
 have ht' : okT (updT t v 0) := okT_del ht v
 have cw := fun n (hn : n < szT (updT t v 0)) => fwith1r_g arm t q ht v b1 (deT (updT t v 0) n) (deT_in _ n) (deT_out (updT_same t v 0)) F (r n) (hop n hn)
 rw [ci_del hi, vsT_erase hi, hv] at d1
 rw [ci_del (by rw [asT_len]; exact hi), asT_erase hi, hv] at d2
 have cf := ffilled_ok (updT t v 0) r ht' 85 [.rp [.i .i64 (t v : Nat)], .rp [.i .i64 (v : Nat)], .rp [.sl (zl (ci (vsT t))), .sl (zl (ci (asT t))), .sl ((ql (szT t) q).map rV)], .rp [.fn F [.rp [.i .i64 arm]]]] (fun n hn => by rw [cnq_of rfl]; exact cw n hn)
 rw [cnq_of rfl] at cf
 have l1 : (ci (vsT t)).length = (vsT t).length := ci_length _
 have l2 : (ci (asT t)).length = (vsT t).length := by rw [ci_length, asT_len]
 have l3 : (ci (vsT (updT t v 0))).length = (vsT t).length - 1 := by rw [← hv, ← vsT_erase hi, ci_length, List.length_eraseIdx, if_pos hi]
 have l4 : (ci (asT (updT t v 0))).length = (vsT t).length - 1 := by rw [← hv, ← asT_erase hi, ci_length, List.length_eraseIdx, asT_len, if_pos hi]
 have z1 := okFrz_zr (ci (vsT (updT t v 0))) [0]
 have z2 := chunks_zr (ci (vsT (updT t v 0))) [0]
 have z3 := okFrz_zr (ci (asT (updT t v 0))) [0]
 have z4 := chunks_zr (ci (asT (updT t v 0))) [0]
 rw [l3] at z1 z2
 rw [l4] at z3 z4
 rw [l1] at c1 d1
 rw [l2] at c2 d2
 clear cw hop l1 l2 l3 l4
 unfold FV fV at *
 rw [xsT_map t q]
 generalize (xsT (updT t v 0) r).map fR = X' at *
 generalize (ql (szT t) q).map rV = X at *
 generalize ci (vsT (updT t v 0)) ++ [0] = D1 at *
 generalize ci (asT (updT t v 0)) ++ [0] = D2 at *
 generalize ci (vsT (updT t v 0)) = E1 at *
 generalize ci (asT (updT t v 0)) = E2 at *
 generalize ci (vsT t) = L1 at *
 generalize ci (asT t) = L2 at *
 generalize (vsT t).length = m at *
 generalize t v = n at *
 refine PCall.of_ax Tryz.call51 Tryz.func51 rfl (by simp [Tryz.ntmps51]) fun O w0 => ?_
 simp only [Tryz.ntmps51, Tryz.results51, argFr]
 refine AX.sR (rgAV [1, 3, 5, 6]) ?_
 refine AX.sD (rgDWV [1, 3, 5, 6, 7, 8] (aI @hzv (aI @hza (aI @g1 (aI @g2 oT)))) oT) ?_
 apply AX.sdreg [3, 5, 6, 7, 8, 9, 10] (by kernel_rfl) (by simp only [pq]; rfl)
 ·repeat (first
 |(apply RunD.op rfl; · rfl
   ·(simp only [opsOf, valsOf, valOf, lkp, ofConst, ofCell, Array.toList, Option.toList, List.map_cons, List.map_nil, List.cons_append, List.nil_append, List.append_nil, Nat.reduceEqDiff, Nat.reducePow, Nat.reduceLT, Nat.reduceLeDiff, reduceIte, if_true, if_false, IntKind.min, IntKind.max, IntKind.bits, IntKind.signed, Int.reduceLE, Int.reduceNeg, Int.reducePow, Int.reduceSub, and_self, Bool.false_eq_true, Nat.reduceSub]; rfl)
   iterate 2 (· (simp (disch := omega) only [go_sem, i64_of, u32_of, u64_of, Nat.reduceLT, Nat.reduceLeDiff, Nat.reduceEqDiff, Nat.reduceAdd, Nat.reduceSub, Nat.reduceMul, Nat.reducePow, Nat.reduceBEq, Int.reduceLE, Int.reduceLT, Int.reduceToNat, Int.reduceEq, Int.reduceNeg, reduceIte, reduceCtorEq, lit_add]; rfl))
   ·(simp only [pb, Nat.reduceLT, Nat.reduceAdd, reduceIte]; rfl)
   ·rfl)
 |(apply RunD.gcall [5] rfl; · rfl
   ·(simp only [opsOf, valsOf, valOf, lkp, ofConst, ofCell, Array.toList, Option.toList, List.map_cons, List.map_nil, List.cons_append, List.nil_append, List.append_nil, Nat.reduceEqDiff, Nat.reducePow, Nat.reduceLT, Nat.reduceLeDiff, reduceIte, if_true, if_false, IntKind.min, IntKind.max, IntKind.bits, IntKind.signed, Int.reduceLE, Int.reduceNeg, Int.reducePow, Int.reduceSub, and_self, Bool.false_eq_true, Nat.reduceSub]; rfl)
   ·exact d1
   ·first | rfl | (simp only [Row.ren, V.ren, V.renL, renS, ren_q, renL_u, ren_zl, ren_tb, ren_frw, ren_cnq]; rfl)
   ·first | rfl | (simp only [V.lt, V.ltL, ltS, lt_q, ltL_u, lt_zl, lt_tb, lt_frw, lt_cnq]; rfl)
   ·decide
   ·repeat' (first | exact trivial | rfl | (simp only [Row.ren, V.ren, V.renL, renS, ren_q, renL_u, ren_zl, ren_tb, ren_frw, ren_cnq]; done) | (simp only [Row.ren, V.ren, V.renL, renS, ren_q, renL_u, ren_zl, ren_tb, ren_frw, ren_cnq]; rfl) | (simp only [V.lt, V.ltL, ltS, lt_q, ltL_u, lt_zl, lt_tb, lt_frw, lt_cnq]; done) | apply And.intro)
   ·first | rfl | (simp only [Row.ren, V.ren, V.renL, renS, ren_q, renL_u, ren_zl, ren_tb, ren_frw, ren_cnq]; rfl)
   ·(simp only [setRows, setL, Row.ren, V.ren, V.renL, renS, ren_q, renL_u, ren_zl, ren_tb, ren_frw, ren_cnq, pb, Nat.reduceLT, Nat.reduceAdd, Nat.reduceEqDiff, reduceIte]; rfl)
   ·rfl)
 |(apply RunD.gcall [6] rfl; · rfl
   ·(simp only [opsOf, valsOf, valOf, lkp, ofConst, ofCell, Array.toList, Option.toList, List.map_cons, List.map_nil, List.cons_append, List.nil_append, List.append_nil, Nat.reduceEqDiff, Nat.reducePow, Nat.reduceLT, Nat.reduceLeDiff, reduceIte, if_true, if_false, IntKind.min, IntKind.max, IntKind.bits, IntKind.signed, Int.reduceLE, Int.reduceNeg, Int.reducePow, Int.reduceSub, and_self, Bool.false_eq_true, Nat.reduceSub]; rfl)
   ·exact d2
   ·first | rfl | (simp only [Row.ren, V.ren, V.renL, renS, ren_q, renL_u, ren_zl, ren_tb, ren_frw, ren_cnq]; rfl)
   ·first | rfl | (simp only [V.lt, V.ltL, ltS, lt_q, ltL_u, lt_zl, lt_tb, lt_frw, lt_cnq]; rfl)
   ·decide
   ·repeat' (first | exact trivial | rfl | (simp only [Row.ren, V.ren, V.renL, renS, ren_q, renL_u, ren_zl, ren_tb, ren_frw, ren_cnq]; done) | (simp only [Row.ren, V.ren, V.renL, renS, ren_q, renL_u, ren_zl, ren_tb, ren_frw, ren_cnq]; rfl) | (simp only [V.lt, V.ltL, ltS, lt_q, ltL_u, lt_zl, lt_tb, lt_frw, lt_cnq]; done) | apply And.intro)
   ·first | rfl | (simp only [Row.ren, V.ren, V.renL, renS, ren_q, renL_u, ren_zl, ren_tb, ren_frw, ren_cnq]; rfl)
   ·(simp only [setRows, setL, Row.ren, V.ren, V.renL, renS, ren_q, renL_u, ren_zl, ren_tb, ren_frw, ren_cnq, pb, Nat.reduceLT, Nat.reduceAdd, Nat.reduceEqDiff, reduceIte]; rfl)
   ·rfl)
 |(apply RunD.callOwn rfl; · rfl
   ·(simp only [opsOf, valsOf, valOf, lkp, ofConst, ofCell, Array.toList, Option.toList, List.map_cons, List.map_nil, List.cons_append, List.nil_append, List.append_nil, Nat.reduceEqDiff, Nat.reducePow, Nat.reduceLT, Nat.reduceLeDiff, reduceIte, if_true, if_false, IntKind.min, IntKind.max, IntKind.bits, IntKind.signed, Int.reduceLE, Int.reduceNeg, Int.reducePow, Int.reduceSub, and_self, Bool.false_eq_true, Nat.reduceSub]; rfl)
   ·first | rfl | (simp only [List.cons_append, List.nil_append, V.hfL, V.hf, Bool.true_and]; assumption)
   ·(first | (simp only [cnlL, cnl, List.append_nil, List.cons_append, List.nil_append]; exact c1) | (exact c1))
   ·(simp only [V.ren, V.renL, ren_q, renL_u, ren_zl, ren_tb, ren_frw, ren_cnq]; rfl)
   ·(simp only [Row.ren, V.ren, V.renL, ren_q, renL_u, ren_zl, ren_tb, ren_frw, ren_cnq]; rfl)
   ·(simp only [pb, Nat.reduceLT, Nat.reduceAdd, reduceIte]; rfl)
   ·rfl)
 |(apply RunD.callOwn rfl; · rfl
   ·(simp only [opsOf, valsOf, valOf, lkp, ofConst, ofCell, Array.toList, Option.toList, List.map_cons, List.map_nil, List.cons_append, List.nil_append, List.append_nil, Nat.reduceEqDiff, Nat.reducePow, Nat.reduceLT, Nat.reduceLeDiff, reduceIte, if_true, if_false, IntKind.min, IntKind.max, IntKind.bits, IntKind.signed, Int.reduceLE, Int.reduceNeg, Int.reducePow, Int.reduceSub, and_self, Bool.false_eq_true, Nat.reduceSub]; rfl)
   ·first | rfl | (simp only [List.cons_append, List.nil_append, V.hfL, V.hf, Bool.true_and]; assumption)
   ·(first | (simp only [cnlL, cnl, List.append_nil, List.cons_append, List.nil_append]; exact c2) | (exact c2))
   ·(simp only [V.ren, V.renL, ren_q, renL_u, ren_zl, ren_tb, ren_frw, ren_cnq]; rfl)
   ·(simp only [Row.ren, V.ren, V.renL, ren_q, renL_u, ren_zl, ren_tb, ren_frw, ren_cnq]; rfl)
   ·(simp only [pb, Nat.reduceLT, Nat.reduceAdd, reduceIte]; rfl)
   ·rfl)
 |(apply RunD.skip; · rfl
   ·(simp only [pb, Nat.reduceLT, Nat.reduceAdd, reduceIte]; rfl)
   ·rfl))
  exact RunD.nil
 ·repeat (first | exact Keep.nil | (apply Keep.take; · rfl) | (apply Keep.drop; · rfl))
 ·kernel_rfl
 refine AX.fz 0 (fr' := [(3, .rp [.sl (zl L1), .sl (zl L2), .sl X]), (5, .ptr 1 0), (6, .ptr 2 0), (7, .ptr 3 0), (8, .ptr 4 0), (9, .own 5 0 (m - 1) 1), (10, .own 6 0 (m - 1) 1)]) (hp' := [(6, ⟨3, zl D2⟩), (5, ⟨3, zl D1⟩), (4, ⟨3, [.i .i64 n]⟩), (3, ⟨3, [.i .i64 v]⟩), (2, ⟨25, [.nl, .nl, .nl]⟩), (1, ⟨55, [.fn F [.rp [.i .i64 arm]]]⟩)]) rfl rfl (by repeat (first | exact .nil | (refine .cons rfl ?_ ?_; · first | exact .same | exact .ptr rfl))) (by repeat (first | exact .nil | (refine .keep (by decide) rfl ?_))) ?_
 refine AX.fz 1 (fr' := [(3, .rp [.sl (zl L1), .sl (zl L2), .sl X]), (5, .rp [.fn F [.rp [.i .i64 arm]]]), (6, .ptr 2 0), (7, .ptr 3 0), (8, .ptr 4 0), (9, .own 5 0 (m - 1) 1), (10, .own 6 0 (m - 1) 1)]) (hp' := [(6, ⟨3, zl D2⟩), (5, ⟨3, zl D1⟩), (4, ⟨3, [.i .i64 n]⟩), (3, ⟨3, [.i .i64 v]⟩), (2, ⟨25, [.nl, .nl, .nl]⟩)]) rfl rfl (by repeat (first | exact .nil | (refine .cons rfl ?_ ?_; · first | exact .same | exact .ptr rfl))) (by repeat (first | exact .nil | (refine .keep (by decide) rfl ?_))) ?_
 refine AX.fz 3 (fr' := [(3, .rp [.sl (zl L1), .sl (zl L2), .sl X]), (5, .rp [.fn F [.rp [.i .i64 arm]]]), (6, .ptr 2 0), (7, .rp [.i .i64 v]), (8, .ptr 4 0), (9, .own 5 0 (m - 1) 1), (10, .own 6 0 (m - 1) 1)]) (hp' := [(6, ⟨3, zl D2⟩), (5, ⟨3, zl D1⟩), (4, ⟨3, [.i .i64 n]⟩), (2, ⟨25, [.nl, .nl, .nl]⟩)]) rfl rfl (by repeat (first | exact .nil | (refine .cons rfl ?_ ?_; · first | exact .same | exact .ptr rfl))) (by repeat (first | exact .nil | (refine .keep (by decide) rfl ?_))) ?_
 refine AX.fz 4 (fr' := [(3, .rp [.sl (zl L1), .sl (zl L2), .sl X]), (5, .rp [.fn F [.rp [.i .i64 arm]]]), (6, .ptr 2 0), (7, .rp [.i .i64 v]), (8, .rp [.i .i64 n]), (9, .own 5 0 (m - 1) 1), (10, .own 6 0 (m - 1) 1)]) (hp' := [(6, ⟨3, zl D2⟩), (5, ⟨3, zl D1⟩), (2, ⟨25, [.nl, .nl, .nl]⟩)]) rfl rfl (by repeat (first | exact .nil | (refine .cons rfl ?_ ?_; · first | exact .same | exact .ptr rfl))) (by repeat (first | exact .nil | (refine .keep (by decide) rfl ?_))) ?_
 refine AX.frozen 9 (zl E1) rfl rfl z1 z2 ?_
 refine AX.frozen 10 (zl E2) rfl rfl z3 z4 ?_
 refine AX.sR (rgCV [6] (aI cf oT)) ?_
 refine AX.ret ⟨.inl rfl, ?_⟩
 exact Lift.Done.facA fa_lay_fac rfl rfl
end Go.Proofs.YtogpimmcodaljaaGreat
