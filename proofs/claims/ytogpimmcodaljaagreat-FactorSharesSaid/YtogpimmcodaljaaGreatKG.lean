/- Factors: the program's clone. -/
import Derived.Test.YtogpimmcodaljaaGreatFaO
set_option linter.unusedVariables false
set_option maxRecDepth 20000
set_option linter.unusedSimpArgs false
namespace Go.Proofs.YtogpimmcodaljaaGreat
open Go Go.Proofs.YtogpimmcodaljaaGreat.Lift
attribute [local irreducible] Lift.PCall Lift.HCall
theorem flatCells_zl (l : List Int) : flatCells (zl l) = zl l := by
 induction l with
 | nil => rfl
 | cons x l ih =>
  show (V.i .i64 x).cells ++ flatCells (zl l) = _
  rw [ih]
  rfl
theorem Lift.Done.slZ {P : Program} {st : St} {t : Tmp} {h K : Nat} {l : List Int} {T : TypeId} (h1 : lkp st.fr t = some (.own h 0 K 1)) (h2 : lkp st.hp h = some ⟨T, zl l⟩) (hK : K = l.length) : Done P #[.tmp t] (.sl (zl l)) [] st := by
 subst hK
 have e : List.take (l.length * 1) (List.drop 0 (zl l)) = zl l := by rw [List.drop_zero, Nat.mul_one]; exact List.take_of_length_le (by rw [zl_length]; exact Nat.le_refl _)
 have e2 : chunks 1 l.length (zl l) = zl l := by
  have := chunks_z l
  rwa [e] at this
 rw [Nat.mul_one] at e
 refine Done.of (vs := [.own h 0 l.length 1]) (hp := dlt st.hp h) ?_ ?_ rfl ?_ ?_
 ·simp only [resVs, resV, h1]
 ·simp only [packV, frz, h2, List.not_mem_nil, if_false, e, (zl_hf l).1, (zl_hf l).2, zl_length, Nat.mul_one, Nat.zero_add, Nat.le_refl, and_self, if_true, e2, Nat.lt_succ_self, Nat.zero_lt_one, true_and]
 ·simp only [V.lt]
 ·simp only [V.ren]
set_option maxHeartbeats 4000000 in
theorem zclone_ok (l : List Int) (hl : l.length < 2 ^ 40) : PCall Tryz.prog 68 [.sl (zl l)] (.sl (zl l)) [] := by
 refine PCall.of_ax Tryz.call68 Tryz.func68 rfl (by simp [Tryz.ntmps68]) fun O w => ?_
 simp only [Tryz.ntmps68, Tryz.results68, argFr]
 refine AX.sR (rgAV [0, 2]) ?_
 refine AX.seq ?_
 cases l with
 | nil =>
  refine AX.seq (AX.isnil (t0 := 0) (t3 := 3) (t4 := 4) rfl rfl rfl rfl rfl rfl (fun _ => rfl) Tryz.underlying22 rfl ⟨(by decide : 3 < 8), (by decide : 4 < 8)⟩ fun b => ?_)
  refine nmZ ?_
  cases b with
  | true =>
   refine AX.condT ?_
   refine AX.sR (rgAV [0, 2]) ?_
   refine AX.ret ⟨.inl rfl, ?_⟩
   exact Done.one rfl (by simp only [frz]; rfl) rfl rfl
  | false =>
   refine AX.condF ?_
   refine AX.skip ?_
   refine nmZ ?_
   refine AX.sR (rgAV [2]) ?_
   refine AX.ret ⟨.inl rfl, ?_⟩
   exact Lift.Done.slZ (l := []) rfl rfl rfl
 | cons x l =>
  have h0 : (zl (x :: l)).length = l.length + 1 := by rw [zl_length]; rfl
  refine AX.sR (rgAV [0, 4]) ?_
  refine AX.condF ?_
  refine AX.skip ?_
  refine nmZ ?_
  have hL : (zl (x :: l)).length = (x :: l).length := zl_length _
  have hf := (zl_hf (x :: l)).2
  have hg : ((zl (x :: l)).getD 0 .junk).cells.length = 1 := rfl
  have hc := flatCells_zl (x :: l)
  clear h0
  generalize x :: l = L at *
  refine AX.sR (rgWV [2] (aI @hL (aI @hf (aI @hc (aI @hg oT)))) oT) ?_
  refine AX.ret ⟨.inl rfl, ?_⟩
  exact Lift.Done.slZ (l := L) rfl rfl rfl
end Go.Proofs.YtogpimmcodaljaaGreat
/- Factors: the program's clone. -/
set_option linter.unusedVariables false
set_option linter.unusedSimpArgs false
namespace Go.Proofs.YtogpimmcodaljaaGreat
open Go Go.Proofs.YtogpimmcodaljaaGreat.Lift
attribute [local irreducible] Lift.PCall Lift.HCall
theorem Lift.Done.facQ {st : St} {t : Tmp} {h h2 K : Nat} {T T' T2 : TypeId} {z z1 z2 : List V} {xs : List Rat} (hL : lay Tryz.prog T' = some ⟨3, true, 72, z⟩) (h1 : lkp st.fr t = some (.ptr h 0)) (g1 : lkp st.hp h = some ⟨T, [.sl z1, .sl z2, .own h2 0 K 3]⟩) (g2 : lkp st.hp h2 = some ⟨T2, qrow xs⟩) (hK : K = xs.length) :
  Done Tryz.prog #[.cell t T'] (.agg [.sl z1, .sl z2, .sl (xs.map rV)]) [] st := by
 subst hK
 refine Done.of (vs := [.agg [.sl z1, .sl z2, .own h2 0 xs.length 3]]) (hp := dlt st.hp h2) ?_ ?_ rfl ?_ ?_
 ·simp only [resVs, resV, h1, g1, hL]; rfl
 ·simp only [packV, frz, frzL, g2, List.not_mem_nil, if_false, take_q, flat_q, hf_q, qrow_length, Nat.zero_add, Nat.le_refl, and_self, if_true, chunks_q, Nat.zero_lt_succ, true_and]
 ·simp only [V.lt, V.ltL]; rfl
 ·simp only [V.ren, V.renL]
end Go.Proofs.YtogpimmcodaljaaGreat
/- Factors: the program's at (given the array of arms). -/
set_option linter.unusedVariables false
set_option linter.unusedSimpArgs false
namespace Go.Proofs.YtogpimmcodaljaaGreat
open Go Go.Proofs.YtogpimmcodaljaaGreat.Lift
attribute [local irreducible] Lift.PCall Lift.HCall
theorem Lift.DoneG.two {st : St} {t : Tmp} {n : Int} {T0 T1 : TypeId} {G : Nat → Nat} (h1 : lkp st.fr t = some (.i .i64 n)) (h2 : lkp st.hp 0 = some ⟨T0, tb G⟩) (h3 : lkp st.hp 1 = some ⟨T1, [.ptr 0 0]⟩) : DoneG Tryz.prog #[.tmp t] (.i .i64 n) [⟨T0, tb G⟩, ⟨T1, [.ptr 0 0]⟩] st := by
 refine ⟨[.i .i64 n], ?_, rfl, rfl, rfl, fun k hk => ?_⟩
 ·simp only [resVs, resV, h1]
 ·have : k = 0 ∨ k = 1 := by simp at hk; omega
  rcases this with rfl | rfl
  ·exact ⟨h2, lt_tb _ _, ren_tb _ _⟩
  ·exact ⟨h3, rfl, rfl⟩
set_option maxHeartbeats 4000000 in
theorem fat1_g (G : Nat → Nat) (v : Nat) (hv : v < 64) : GCall Tryz.prog 104 [.i .i64 v, .ptr 1 0] [⟨76, tb G⟩, ⟨96, [.ptr 0 0]⟩] [⟨76, tb G⟩, ⟨96, [.ptr 0 0]⟩] (.i .i64 (G v : Nat)) := by
 have hg := tb_get G hv
 have hl := tb_length G
 refine GCall.of_ax rfl Tryz.call104 Tryz.func104 rfl (by simp [Tryz.ntmps104]) fun O M w0 E0 => ?_
 simp only [Tryz.ntmps104, Tryz.results104, argFr, rowsFr, List.length_cons, List.length_nil, Nat.zero_add, Nat.reduceAdd]
 refine AX.sR (rgAV [0, 1]) ?_
 refine AX.sR (rgWV [3] (aI @hg (aI @hl oT)) oT) ?_
 refine AX.ret ⟨.inl rfl, ?_⟩
 exact Lift.DoneG.two rfl rfl rfl
set_option maxHeartbeats 8000000 in
theorem fplace_g (t : Nat → Nat) (X : List V) (ht : okT t) (G : Nat → Nat) (hG : inT t G) : GCall Tryz.prog 103 [.agg [.sl (zl (ci (vsT t))), .sl (zl (ci (asT t))), .sl X], .fn 104 [.ptr 1 0]] [⟨76, tb G⟩, ⟨96, [.ptr 0 0]⟩] [⟨76, tb G⟩, ⟨96, [.ptr 0 0]⟩] (.i .i64 (enT t G : Nat)) := by
 have hm := vsT_len t
 have hzv : (zl (ci (vsT t))).length = (vsT t).length := zn_length _
 have hza : (zl (ci (asT t))).length = (vsT t).length := (zn_length _).trans (asT_len t)
 have hgv := fun j (hj : j < (vsT t).length) => show (zl (ci (vsT t))).getD j .junk = .i .i64 (((vsT t).getD j 0 : Nat) : Int) from zn_get hj
 have hga := fun j (hj : j < (vsT t).length) => show (zl (ci (asT t))).getD j .junk = .i .i64 ((t ((vsT t).getD j 0) : Nat) : Int) from (zn_get (by rw [asT_len]; exact hj)).trans (by rw [asT_get hj])
 unfold enT
 refine GCall.of_ax rfl Tryz.call103 Tryz.func103 rfl (by simp [Tryz.ntmps103]) fun O M w0 E0 => ?_
 simp only [Tryz.ntmps103, Tryz.results103, argFr, rowsFr, List.length_cons, List.length_nil, Nat.zero_add, Nat.reduceAdd]
 generalize zl (ci (vsT t)) = Vs at *
 generalize zl (ci (asT t)) = As at *
 refine AX.sR (rgAV [1, 2]) ?_
 refine AX.sR (rgAV [1, 2, 5]) ?_
 refine AX.seq ?_
 refine AX.sR (rgWV [1, 2, 5, 9, 10, 11] (aI @hzv oT) oT) ?_
 refine AX.weaken id (st' := ⟨[(11, .i .i64 (0 : Nat)), (10, .i .i64 (vsT t).length), (9, .sl Vs), (5, .i .i64 (enI (vsT t) t G 0)), (2, .ptr 2 0), (1, .fn 104 [.ptr 1 0])], [(2, ⟨25, [.sl Vs, .sl As, .sl X]⟩), (1, ⟨96, [.ptr 0 0]⟩), (0, ⟨76, tb G⟩)], 3⟩)
  leQ4
  ?_
 refine AX.block ?_
 refine AX.loop (fun N st => ∃ (i E : Nat), i ≤ (vsT t).length ∧ N = (vsT t).length - i ∧ enI (vsT t) t G i = E ∧ st = ⟨[(11, .i .i64 i), (10, .i .i64 (vsT t).length), (9, .sl Vs), (5, .i .i64 E), (2, .ptr 2 0), (1, .fn 104 [.ptr 1 0])], [(2, ⟨25, [.sl Vs, .sl As, .sl X]⟩), (1, ⟨96, [.ptr 0 0]⟩), (0, ⟨76, tb G⟩)], 3⟩) (vsT t).length ⟨0, _, Nat.zero_le _, rfl, rfl, rfl⟩ ?_
 rintro N st ⟨i, _, hi, rfl, rfl, rfl⟩
 by_cases h1 : i < (vsT t).length
 ·have g1 := hgv i h1
  have g2 := hga i h1
  obtain ⟨b1, b2⟩ := vsT_get h1
  have b3 := ht.1 ((vsT t).getD i 0)
  have n3 := inT_get hG i h1
  have c1 := fat1_g G _ b1
  have hE := enI_lt (l := vsT t) (t := t) (a := G) i (fun j hj => inT_get hG j (by omega))
  have hP := prI_mono (l := vsT t) (t := t) (m := (vsT t).length) (fun j hj => (vsT_get hj).2) i hi
  have hnx : enI (vsT t) t G (i + 1) = enI (vsT t) t G i * t ((vsT t).getD i 0) + G ((vsT t).getD i 0) := rfl
  have hS := ht.2
  unfold szT at hS
  clear hgv hga
  obtain ⟨E', hE'⟩ : ∃ E', enI (vsT t) t G (i + 1) = E' := ⟨_, rfl⟩
  rw [hE'] at hnx
  generalize enI (vsT t) t G i = E at *
  generalize G ((vsT t).getD i 0) = x at *
  generalize t ((vsT t).getD i 0) = k at *
  generalize (vsT t).getD i 0 = v at g1 g2 b1 c1
  obtain ⟨p, hp⟩ : ∃ p, E * k = p := ⟨_, rfl⟩
  rw [hp] at hnx
  have m1 : (E : Int) * (k : Int) = (p : Int) := by rw [← Int.natCast_mul, hp]
  have bp : p ≤ 4096 * 64 := by rw [← hp]; exact Nat.mul_le_mul (by omega) b3
  have a1 : (p : Int) + (x : Int) = (E' : Int) := by omega
  refine AX.sR (rgAV [1, 2, 5, 9, 10, 11, 12]) ?_
  refine AX.seq ?_
  refine AX.condT ?_
  refine AX.keepA [1, 2, 5, 9, 10, 11] ?_
  refine AX.skip ?_
  refine nmZ ?_
  refine AX.seq ?_
  refine AX.block ?_
  refine AX.sR (rgWV [1, 2, 5, 6, 7, 9, 10, 11] (aI @hzv (aI @g1 oT)) oT) ?_
  apply AX.dreg [1, 2, 5, 9, 10, 11] (by kernel_rfl) (by simp only [pq]; rfl)
  ·repeat (first
  |(apply RunD.op rfl; · rfl
    ·(simp only [opsOf, valsOf, valOf, lkp, ofConst, ofCell, Array.toList, Option.toList, List.map_cons, List.map_nil, List.cons_append, List.nil_append, List.append_nil, Nat.reduceEqDiff, Nat.reducePow, Nat.reduceLT, Nat.reduceLeDiff, reduceIte, if_true, if_false, IntKind.min, IntKind.max, IntKind.bits, IntKind.signed, Int.reduceLE, Int.reduceNeg, Int.reducePow, Int.reduceSub, and_self, Bool.false_eq_true, Nat.reduceSub]; rfl)
    iterate 2 (· (simp (disch := omega) only [go_sem, i64_of, u32_of, u64_of, Nat.reduceLT, Nat.reduceLeDiff, Nat.reduceEqDiff, Nat.reduceAdd, Nat.reduceSub, Nat.reduceMul, Nat.reducePow, Nat.reduceBEq, Int.reduceLE, Int.reduceLT, Int.reduceToNat, Int.reduceEq, Int.reduceNeg, reduceIte, reduceCtorEq, hza, g2, m1, a1]; rfl))
    ·(simp only [pb, Nat.reduceLT, Nat.reduceAdd, reduceIte]; rfl)
    ·rfl)
  |(apply RunD.gcall [0, 1] rfl; · rfl
    ·(simp only [opsOf, valsOf, valOf, lkp, ofConst, ofCell, Array.toList, Option.toList, List.map_cons, List.map_nil, List.cons_append, List.nil_append, List.append_nil, Nat.reduceEqDiff, Nat.reducePow, Nat.reduceLT, Nat.reduceLeDiff, reduceIte, if_true, if_false, IntKind.min, IntKind.max, IntKind.bits, IntKind.signed, Int.reduceLE, Int.reduceNeg, Int.reducePow, Int.reduceSub, and_self, Bool.false_eq_true, Nat.reduceSub]; rfl)
    ·exact c1
    ·first | rfl | (simp only [Row.ren, V.ren, V.renL, renS, ren_q, renL_u, ren_zl, ren_tb, ren_frw]; rfl)
    ·first | rfl | (simp only [V.lt, V.ltL, ltS, lt_q, ltL_u, lt_zl, lt_tb, lt_frw]; rfl)
    ·decide
    ·repeat' (first | exact trivial | rfl | (simp only [Row.ren, V.ren, V.renL, renS, ren_q, renL_u, ren_zl, ren_tb, ren_frw]; done) | (simp only [Row.ren, V.ren, V.renL, renS, ren_q, renL_u, ren_zl, ren_tb, ren_frw]; rfl) | (simp only [V.lt, V.ltL, ltS, lt_q, ltL_u, lt_zl, lt_tb, lt_frw]; done) | apply And.intro)
    ·first | rfl | (simp only [Row.ren, V.ren, V.renL, renS, ren_q, renL_u, ren_zl, ren_tb, ren_frw]; rfl)
    ·(simp only [setRows, setL, Row.ren, V.ren, V.renL, renS, ren_q, renL_u, ren_zl, ren_tb, ren_frw, pb, Nat.reduceLT, Nat.reduceAdd, Nat.reduceEqDiff, reduceIte]; rfl)
    ·rfl)
  |(apply RunD.skip; · rfl
    ·(simp only [pb, Nat.reduceLT, Nat.reduceAdd, reduceIte]; rfl)
    ·rfl))
   exact RunD.nil
  ·repeat (first | exact Keep.nil | (apply Keep.take; · rfl) | (apply Keep.drop; · rfl))
  ·kernel_rfl
  refine nmZ ?_
  refine AX.rR (rgWV [1, 2, 5, 9, 10, 11] (aI @lit_add oT) oT) ?_
  refine nmZ ?_
  refine ⟨_, _, id, ?_,
   leQ4
   , ⟨i + 1, E', by omega, rfl, hE', rfl⟩⟩
  omega
 ·obtain rfl : i = (vsT t).length := by omega
  have hE := enI_lt (l := vsT t) (t := t) (a := G) (vsT t).length (fun j hj => inT_get hG j hj)
  have hS := ht.2
  unfold szT at hS
  generalize enI (vsT t) t G (vsT t).length = E at *
  refine AX.sR (rgAV [1, 2, 5, 9, 10, 11, 12]) ?_
  refine AX.seq ?_
  refine AX.condF ?_
  refine AX.exit ?_
  refine nmZ ?_
  refine AX.sR (rgAV [4]) ?_
  refine AX.ret ⟨.inl rfl, ?_⟩
  exact Lift.DoneG.two rfl rfl rfl
set_option maxHeartbeats 8000000 in
theorem fat_g (t : Nat → Nat) (q : Nat → Rat) (ht : okT t) (G : Nat → Nat) (hG : inT t G) : GCall Tryz.prog 81 [.agg [.sl (zl (ci (vsT t))), .sl (zl (ci (asT t))), .sl ((ql (szT t) q).map rV)], .ptr 0 0] [⟨76, tb G⟩] [⟨76, tb G⟩] (.agg [.b (decide ((q (enT t G)).num < 0)), dg (digits (q (enT t G)).num.natAbs), dg (digits (q (enT t G)).den)]) := by
 have hix := fun x y => effIxT (x := x) (y := y) q (enT_lt hG)
 have c1 := fplace_g t ((ql (szT t) q).map rV) ht G hG
 refine GCall.of_ax rfl Tryz.call81 Tryz.func81 rfl (by simp [Tryz.ntmps81]) fun O M w0 E0 => ?_
 simp only [Tryz.ntmps81, Tryz.results81, argFr, rowsFr, List.length_cons, List.length_nil, Nat.zero_add, Nat.reduceAdd]
 generalize zl (ci (vsT t)) = Vs at *
 generalize zl (ci (asT t)) = As at *
 generalize (ql (szT t) q).map rV = X at *
 generalize q (enT t G) = r at *
 generalize enT t G = E at *
 refine AX.sR (rgAV [2, 3, 4]) ?_
 apply AX.sdreg [4] (by kernel_rfl) (by simp only [pq]; rfl)
 ·repeat (first
 |(apply RunD.op rfl; · rfl
   ·(simp only [opsOf, valsOf, valOf, lkp, ofConst, ofCell, Array.toList, Option.toList, List.map_cons, List.map_nil, List.cons_append, List.nil_append, List.append_nil, Nat.reduceEqDiff, Nat.reducePow, Nat.reduceLT, Nat.reduceLeDiff, reduceIte, if_true, if_false, IntKind.min, IntKind.max, IntKind.bits, IntKind.signed, Int.reduceLE, Int.reduceNeg, Int.reducePow, Int.reduceSub, and_self, Bool.false_eq_true, Nat.reduceSub]; rfl)
   ·first | exact hix _ _ | (simp (disch := omega) only [go_sem, i64_of, u32_of, u64_of, Nat.reduceLT, Nat.reduceLeDiff, Nat.reduceEqDiff, Nat.reduceAdd, Nat.reduceSub, Nat.reduceMul, Nat.reducePow, Nat.reduceBEq, Int.reduceLE, Int.reduceLT, Int.reduceToNat, Int.reduceEq, Int.reduceNeg, reduceIte, reduceCtorEq]; rfl)
   ·(simp (disch := omega) only [go_sem, i64_of, u32_of, u64_of, Nat.reduceLT, Nat.reduceLeDiff, Nat.reduceEqDiff, Nat.reduceAdd, Nat.reduceSub, Nat.reduceMul, Nat.reducePow, Nat.reduceBEq, Int.reduceLE, Int.reduceLT, Int.reduceToNat, Int.reduceEq, Int.reduceNeg, reduceIte, reduceCtorEq]; rfl)
   ·(simp only [pb, Nat.reduceLT, Nat.reduceAdd, reduceIte]; rfl)
   ·rfl)
 |(apply RunD.gcall [0, 2] rfl; · rfl
   ·(simp only [opsOf, valsOf, valOf, lkp, ofConst, ofCell, Array.toList, Option.toList, List.map_cons, List.map_nil, List.cons_append, List.nil_append, List.append_nil, Nat.reduceEqDiff, Nat.reducePow, Nat.reduceLT, Nat.reduceLeDiff, reduceIte, if_true, if_false, IntKind.min, IntKind.max, IntKind.bits, IntKind.signed, Int.reduceLE, Int.reduceNeg, Int.reducePow, Int.reduceSub, and_self, Bool.false_eq_true, Nat.reduceSub]; rfl)
   ·exact c1
   ·first | rfl | (simp only [Row.ren, V.ren, V.renL, renS, ren_q, renL_u, ren_zl, ren_tb, ren_frw]; rfl)
   ·first | rfl | (simp only [V.lt, V.ltL, ltS, lt_q, ltL_u, lt_zl, lt_tb, lt_frw]; rfl)
   ·decide
   ·repeat' (first | exact trivial | rfl | (simp only [Row.ren, V.ren, V.renL, renS, ren_q, renL_u, ren_zl, ren_tb, ren_frw]; done) | (simp only [Row.ren, V.ren, V.renL, renS, ren_q, renL_u, ren_zl, ren_tb, ren_frw]; rfl) | (simp only [V.lt, V.ltL, ltS, lt_q, ltL_u, lt_zl, lt_tb, lt_frw]; done) | apply And.intro)
   ·first | rfl | (simp only [Row.ren, V.ren, V.renL, renS, ren_q, renL_u, ren_zl, ren_tb, ren_frw]; rfl)
   ·(simp only [setRows, setL, Row.ren, V.ren, V.renL, renS, ren_q, renL_u, ren_zl, ren_tb, ren_frw, pb, Nat.reduceLT, Nat.reduceAdd, Nat.reduceEqDiff, reduceIte]; rfl)
   ·rfl)
 |(apply RunD.skip; · rfl
   ·(simp only [pb, Nat.reduceLT, Nat.reduceAdd, reduceIte]; rfl)
   ·rfl))
  exact RunD.nil
 ·repeat (first | exact Keep.nil | (apply Keep.take; · rfl) | (apply Keep.drop; · rfl))
 ·kernel_rfl
 refine AX.ret ⟨.inl rfl, ?_⟩
 exact DoneG.cellT rfl rfl rfl
end Go.Proofs.YtogpimmcodaljaaGreat
/- Factors: the program's filled (the cells by a function, variable by variable). -/
set_option linter.unusedVariables false
set_option linter.unusedSimpArgs false
namespace Go.Proofs.YtogpimmcodaljaaGreat
open Go Go.Proofs.YtogpimmcodaljaaGreat.Lift
attribute [local irreducible] Lift.PCall Lift.HCall
def cnq (l : List V) : List V := if V.hfL l = true then l else []
theorem cnq_hf (l : List V) : V.hfL (cnq l) = true := by
 unfold cnq
 split
 ·assumption
 ·rfl
theorem cnq_of {l : List V} (h : V.hfL l = true) : cnq l = l := if_pos h
theorem ren_cnq (f : Nat → Nat) (l : List V) : V.renL f (cnq l) = cnq l := (hf_names f 0 _ (cnq_hf l)).1
theorem lt_cnq (k : Nat) (l : List V) : V.ltL k (cnq l) = true := (hf_names id k _ (cnq_hf l)).2
theorem leQ5 {g : Nat} {f : Nat → Nat} {st' st : St} (h1 : LeFr f st.fr st'.nx st'.fr := by simp only [ren_q, renL_u, ren_zl, ren_tb, ren_frw, ren_cnq, lt_q, ltL_u, lt_zl, lt_tb, lt_frw, lt_cnq, LeFr, LeHp, lkp, V.ren, V.renL, Row.ren, V.lt, V.ltL, renL_u, ltL_u, List.length_append, List.length_cons, List.length_nil, List.length_set, id_eq, Option.some.injEq, V.i.injEq, V.b.injEq, V.own.injEq, Row.mk.injEq, decide_true, decide_eq_true_eq, true_and, and_true, Bool.and_true, Bool.true_and, if_true, if_false, and_self, Nat.reduceLT, Nat.reduceLeDiff, Nat.reduceEqDiff, Nat.reduceAdd, Nat.reduceSub, Nat.reduceMul, Nat.reducePow, Nat.reduceBEq, Int.reduceLE, Int.reduceLT, Int.reduceToNat, Int.reduceEq, Int.reduceNeg, reduceIte, reduceCtorEq] <;> (first | done | trivial | (and_intros <;> first | trivial | omega | assumption)))
  (h2 : LeHp f st.hp st'.nx st'.hp := by simp only [ren_q, renL_u, ren_zl, ren_tb, ren_frw, ren_cnq, lt_q, ltL_u, lt_zl, lt_tb, lt_frw, lt_cnq, LeFr, LeHp, lkp, V.ren, V.renL, Row.ren, V.lt, V.ltL, renL_u, ltL_u, List.length_append, List.length_cons, List.length_nil, List.length_set, id_eq, Option.some.injEq, V.i.injEq, V.b.injEq, V.own.injEq, Row.mk.injEq, decide_true, decide_eq_true_eq, true_and, and_true, Bool.and_true, Bool.true_and, if_true, if_false, and_self, Nat.reduceLT, Nat.reduceLeDiff, Nat.reduceEqDiff, Nat.reduceAdd, Nat.reduceSub, Nat.reduceMul, Nat.reducePow, Nat.reduceBEq, Int.reduceLE, Int.reduceLT, Int.reduceToNat, Int.reduceEq, Int.reduceNeg, reduceIte, reduceCtorEq] <;> (first | done | trivial | (and_intros <;> first | trivial | omega | assumption)))
  (h3 : Apart f st'.hp := by simp [Apart]) (h4 : g ≤ st'.nx := by first | exact Nat.zero_le _ | simp) (h5 : ∀ n, n < g → f n = n := by intro n hn; first | rfl | exact absurd hn (Nat.not_lt_zero _) | (have h0 : n = 0 := Nat.lt_one_iff.1 hn; subst h0; rfl)) : Le g f st' st := ⟨h1, h2, h3, h4, h5⟩
theorem dnQ5 {P : Program} {rs : Array ResultVar} {vs : List V} {r v : V} {st : St} {hp : List (Nat × Row)} (h1 : resVs P st rs.toList = some vs := by simp (disch := omega) only [resVs, resV, go_sem, i64_of, u32_of, u64_of, Nat.reduceLT, Nat.reduceLeDiff, Nat.reduceEqDiff, Nat.reduceAdd, Nat.reduceSub, Nat.reduceMul, Nat.reducePow, Nat.reduceBEq, Int.reduceLE, Int.reduceLT, Int.reduceToNat, Int.reduceEq, Int.reduceNeg, reduceIte, reduceCtorEq]; rfl) (h2 : frz [] (packV vs) st.hp = some (v, hp) := by simp only [packV, frz, frzL]; rfl) (h : v = r := by rfl)
  (h3 : r.lt 0 = true := by simp only [V.lt, V.ltL, ltL_u, lt_q, ltL_u, lt_zl, lt_tb, lt_frw, lt_cnq]; first | done | rfl) (h4 : r.ren id = r := by simp only [V.ren, V.renL, renL_u, ren_q, renL_u, ren_zl, ren_tb, ren_frw, ren_cnq]; first | done | rfl) : Done P rs r [] st := Lift.Done.of h1 h2 h h3 h4
theorem deI_top {l : List Nat} {t : Nat → Nat} {c m : Nat} : deI l t (c + 1) m (l.getD c 0) = m % t (l.getD c 0) := updT_same _ _ _
set_option maxHeartbeats 16000000 in
theorem ffilled_ok (t : Nat → Nat) (q : Nat → Rat) (ht : okT t) (F : Nat) (cs : List V) (hcell : ∀ k, k < szT t → GCall Tryz.prog F (.ptr 0 0 :: cnq cs) [⟨76, tb (deT t k)⟩] [⟨76, tb (deT t k)⟩] (.agg [.b (decide ((q k).num < 0)), dg (digits (q k).num.natAbs), dg (digits (q k).den)])) :
  PCall Tryz.prog 79 [.sl (zl (ci (vsT t))), .sl (zl (ci (asT t))), .fn F (cnq cs)] (FV t q) [] := by
 have hm := vsT_len t
 have hzv : (zl (ci (vsT t))).length = (vsT t).length := zn_length _
 have hza : (zl (ci (asT t))).length = (vsT t).length := (zn_length _).trans (asT_len t)
 have hgv := fun j (hj : j < (vsT t).length) => show (zl (ci (vsT t))).getD j .junk = .i .i64 (((vsT t).getD j 0 : Nat) : Int) from zn_get hj
 have hga := fun j (hj : j < (vsT t).length) => show (zl (ci (asT t))).getD j .junk = .i .i64 ((t ((vsT t).getD j 0) : Nat) : Int) from (zn_get (by rw [asT_len]; exact hj)).trans (by rw [asT_get hj])
 have c1 := zclone_ok (ci (vsT t)) (by rw [ci_length]; omega)
 have c2 := zclone_ok (ci (asT t)) (by rw [ci_length, asT_len]; omega)
 have c3 := fsize_ok (ci (asT t)) (by rw [ci_length, asT_len]; omega) (fun j hj => by
  rw [ci_length, asT_len] at hj
  rw [cast_get, asT_get hj]
  have h1 := (vsT_get hj).2
  have h2 := ht.1 ((vsT t).getD j 0)
  omega)
 rw [prZ_sz, Nat.min_eq_left (by have := ht.2; omega)] at c3
 have hS := ht.2
 unfold FV fV
 rw [xsT_map]
 generalize zl (ci (vsT t)) = Vs at *
 generalize zl (ci (asT t)) = As at *
 generalize szT t = S at *
 refine PCall.of_ax Tryz.call79 Tryz.func79 rfl (by simp [Tryz.ntmps79]) fun O w0 => ?_
 simp only [Tryz.ntmps79, Tryz.results79, argFr]
 refine AX.sR (rgAV [0, 1, 2, 6]) ?_
 refine AX.sR (rgCV [0, 1, 2, 6, 7] (aI c1 (aI c2 oT))) ?_
 refine AX.sR (rgAV [0, 1, 2, 6, 7, 8]) ?_
 refine AX.own0c 1 2 38 3 rfl rfl (by show 2 < 3; decide) ?_
 refine AX.seq ?_
 refine AX.sR (rgCV [0, 1, 2, 6, 7, 8, 16, 17] (aI c3 oT)) ?_
 refine AX.weaken id (st' := ⟨[(17, .i .i64 (0 : Nat)), (16, .i .i64 S), (8, .ptr 2 0), (7, .ptr 1 0), (6, .ptr 0 0), (2, .fn F (cnq cs)), (1, .sl As), (0, .sl Vs)], [(3, ⟨38, qrow (ql 0 q)⟩), (2, ⟨76, tb fun _ => 0⟩), (1, ⟨25, [.sl Vs, .sl As, .own 3 0 (0 : Nat) 3]⟩), (0, ⟨25, [.nl, .nl, .nl]⟩)], 4⟩)
  ⟨by simp only [ren_q, renL_u, ren_zl, ren_tb, ren_frw, ren_cnq, lt_q, ltL_u, lt_zl, lt_tb, lt_frw, lt_cnq, LeFr, LeHp, lkp, V.ren, V.renL, Row.ren, V.lt, V.ltL, renL_u, ltL_u, List.length_append, List.length_cons, List.length_nil, List.length_set, id_eq, Option.some.injEq, V.i.injEq, V.b.injEq, V.own.injEq, Row.mk.injEq, decide_true, decide_eq_true_eq, true_and, and_true, Bool.and_true, Bool.true_and, if_true, if_false, and_self, Nat.reduceLT, Nat.reduceLeDiff, Nat.reduceEqDiff, Nat.reduceAdd, Nat.reduceSub, Nat.reduceMul, Nat.reducePow, Nat.reduceBEq, Int.reduceLE, Int.reduceLT, Int.reduceToNat, Int.reduceEq, Int.reduceNeg, reduceIte, reduceCtorEq] <;> (first | done | trivial | (and_intros <;> first | trivial | omega | (rfl))), by simp only [ren_q, renL_u, ren_zl, ren_tb, ren_frw, ren_cnq, lt_q, ltL_u, lt_zl, lt_tb, lt_frw, lt_cnq, LeFr, LeHp, lkp, V.ren, V.renL, Row.ren, V.lt, V.ltL, renL_u, ltL_u, List.length_append, List.length_cons, List.length_nil, List.length_set, id_eq, Option.some.injEq, V.i.injEq, V.b.injEq, V.own.injEq, Row.mk.injEq, decide_true, decide_eq_true_eq, true_and, and_true, Bool.and_true, Bool.true_and, if_true, if_false, and_self, Nat.reduceLT, Nat.reduceLeDiff, Nat.reduceEqDiff, Nat.reduceAdd, Nat.reduceSub, Nat.reduceMul, Nat.reducePow, Nat.reduceBEq, Int.reduceLE, Int.reduceLT, Int.reduceToNat, Int.reduceEq, Int.reduceNeg, reduceIte, reduceCtorEq] <;> (first | done | trivial | (and_intros <;> first | trivial | omega | (rfl))), by simp [Apart], by first | exact Nat.zero_le _ | simp, by intro n hn; first | rfl | exact absurd hn (Nat.not_lt_zero _) | (have h0 : n = 0 := Nat.lt_one_iff.1 hn; subst h0; rfl)⟩
  ?_
 refine AX.block ?_
 refine AX.loop (fun N st => ∃ (k : Nat) (zs : List Rat) (G : Nat → Nat), k ≤ S ∧ N = S - k ∧ zs = ql k q ∧ G = deT t k ∧ st = ⟨[(17, .i .i64 k), (16, .i .i64 S), (8, .ptr 2 0), (7, .ptr 1 0), (6, .ptr 0 0), (2, .fn F (cnq cs)), (1, .sl As), (0, .sl Vs)], [(3, ⟨38, qrow zs⟩), (2, ⟨76, tb G⟩), (1, ⟨25, [.sl Vs, .sl As, .own 3 0 k 3]⟩), (0, ⟨25, [.nl, .nl, .nl]⟩)], 4⟩) S ⟨0, _, _, Nat.zero_le _, rfl, rfl, funext fun u => (deI_zero _ u).symm, rfl⟩ ?_
 rintro N st ⟨k, zs, G, hk, rfl, hzs, hG, rfl⟩
 by_cases h1 : k < S
 ·have cc := hcell k h1
  rw [← hG] at cc
  have hlq : (qrow zs).length = k * 3 := by rw [qrow_length, hzs, ql_length]
  have ea : qrow zs ++ [.b (decide ((q k).num < 0)), dg (digits (q k).num.natAbs), dg (digits (q k).den)] = qrow (ql (k + 1) q) := by rw [ql_succ, qrow_app, qrow_one, hzs]
  have hend : ∀ H : Nat → Nat, H = deT t (k + 1) → tb H = tb (deT t (k + 1)) := fun H h => by rw [h]
  clear hcell c1 c2 c3
  generalize decide ((q k).num < 0) = s at *
  generalize digits (q k).num.natAbs = a at *
  generalize digits (q k).den = b at *
  refine AX.sR (rgAV [0, 1, 2, 6, 7, 8, 16, 17, 18]) ?_
  refine AX.seq ?_
  refine AX.condT ?_
  refine AX.keepA [0, 1, 2, 6, 7, 8, 16, 17] ?_
  refine AX.skip ?_
  refine nmZ ?_
  refine AX.seq ?_
  refine AX.block ?_
  apply AX.sdreg [0, 1, 2, 6, 7, 8, 16, 17] (by kernel_rfl) (by simp only [pq]; rfl)
  ·repeat (first
  |(apply RunD.op rfl; · rfl
    ·(simp only [opsOf, valsOf, valOf, lkp, ofConst, ofCell, Array.toList, Option.toList, List.map_cons, List.map_nil, List.cons_append, List.nil_append, List.append_nil, Nat.reduceEqDiff, Nat.reducePow, Nat.reduceLT, Nat.reduceLeDiff, reduceIte, if_true, if_false, IntKind.min, IntKind.max, IntKind.bits, IntKind.signed, Int.reduceLE, Int.reduceNeg, Int.reducePow, Int.reduceSub, and_self, Bool.false_eq_true, Nat.reduceSub]; rfl)
    iterate 2 (· (simp (disch := omega) only [go_sem, i64_of, u32_of, u64_of, Nat.reduceLT, Nat.reduceLeDiff, Nat.reduceEqDiff, Nat.reduceAdd, Nat.reduceSub, Nat.reduceMul, Nat.reducePow, Nat.reduceBEq, Int.reduceLE, Int.reduceLT, Int.reduceToNat, Int.reduceEq, Int.reduceNeg, reduceIte, reduceCtorEq, hlq, flat_q, zerosV_1, tkS, tk0]; rfl))
    ·(simp only [pb, Nat.reduceLT, Nat.reduceAdd, reduceIte]; rfl)
    ·rfl)
  |(apply RunD.gcall [2] rfl; · rfl
    ·(simp only [opsOf, valsOf, valOf, lkp, ofConst, ofCell, Array.toList, Option.toList, List.map_cons, List.map_nil, List.cons_append, List.nil_append, List.append_nil, Nat.reduceEqDiff, Nat.reducePow, Nat.reduceLT, Nat.reduceLeDiff, reduceIte, if_true, if_false, IntKind.min, IntKind.max, IntKind.bits, IntKind.signed, Int.reduceLE, Int.reduceNeg, Int.reducePow, Int.reduceSub, and_self, Bool.false_eq_true, Nat.reduceSub]; rfl)
    ·exact cc
    ·first | rfl | (simp only [Row.ren, V.ren, V.renL, renS, ren_q, renL_u, ren_zl, ren_tb, ren_frw, ren_cnq]; rfl)
    ·first | rfl | (simp only [V.lt, V.ltL, ltS, lt_q, ltL_u, lt_zl, lt_tb, lt_frw, lt_cnq]; rfl)
    ·decide
    ·repeat' (first | exact trivial | rfl | (simp only [Row.ren, V.ren, V.renL, renS, ren_q, renL_u, ren_zl, ren_tb, ren_frw, ren_cnq]; done) | (simp only [Row.ren, V.ren, V.renL, renS, ren_q, renL_u, ren_zl, ren_tb, ren_frw, ren_cnq]; rfl) | (simp only [V.lt, V.ltL, ltS, lt_q, ltL_u, lt_zl, lt_tb, lt_frw, lt_cnq]; done) | apply And.intro)
    ·first | rfl | (simp only [Row.ren, V.ren, V.renL, renS, ren_q, renL_u, ren_zl, ren_tb, ren_frw, ren_cnq]; rfl)
    ·(simp only [setRows, setL, Row.ren, V.ren, V.renL, renS, ren_q, renL_u, ren_zl, ren_tb, ren_frw, ren_cnq, pb, Nat.reduceLT, Nat.reduceAdd, Nat.reduceEqDiff, reduceIte]; rfl)
    ·rfl)
  |(apply RunD.skip; · rfl
    ·(simp only [pb, Nat.reduceLT, Nat.reduceAdd, reduceIte]; rfl)
    ·rfl))
   exact RunD.nil
  ·repeat (first | exact Keep.nil | (apply Keep.take; · rfl) | (apply Keep.drop; · rfl))
  ·kernel_rfl
  rw [ea]
  refine AX.sR (rgWV [0, 1, 2, 6, 7, 8, 9, 16, 17] (aI @hzv oT) oT) ?_
  obtain ⟨ys, hys⟩ : ∃ ys, ql (k + 1) q = ys := ⟨_, rfl⟩
  rw [hys]
  refine AX.weaken (fun n => if n = 3 then 5 else n) (st' := ⟨[(17, .i .i64 k), (16, .i .i64 S), (9, .i .i64 (((vsT t).length : Int) - 1)), (8, .ptr 2 0), (7, .ptr 1 0), (6, .ptr 0 0), (2, .fn F (cnq cs)), (1, .sl As), (0, .sl Vs)], [(3, ⟨38, qrow ys⟩), (2, ⟨76, tb G⟩), (1, ⟨25, [.sl Vs, .sl As, .own 3 0 (k + 1) 3]⟩), (0, ⟨25, [.nl, .nl, .nl]⟩)], 4⟩)
   leQ5
   ?_
  refine AX.block ?_
  refine AX.loop (fun N st => ∃ (i m : Nat) (e : Int) (H : Nat → Nat), i ≤ (vsT t).length ∧ N = i ∧ e + 1 = (i : Int) ∧ deI (vsT t) t i (m + 1) = deT t (k + 1) ∧ H = deI (vsT t) t i m ∧ st = ⟨[(17, .i .i64 k), (16, .i .i64 S), (9, .i .i64 e), (8, .ptr 2 0), (7, .ptr 1 0), (6, .ptr 0 0), (2, .fn F (cnq cs)), (1, .sl As), (0, .sl Vs)], [(3, ⟨38, qrow ys⟩), (2, ⟨76, tb H⟩), (1, ⟨25, [.sl Vs, .sl As, .own 3 0 (k + 1) 3]⟩), (0, ⟨25, [.nl, .nl, .nl]⟩)], 4⟩) (vsT t).length ⟨_, k, _, G, Nat.le_refl _, rfl, by omega, rfl, hG, rfl⟩ ?_
  rintro N st ⟨i, m, e, H, hi, hN, he, hd, hH, rfl⟩
  obtain rfl : i = N := hN.symm
  refine AX.seq ?_
  by_cases h2 : 0 < i
  ·obtain ⟨c, rfl⟩ : ∃ c, i = c + 1 := ⟨i - 1, by omega⟩
   obtain rfl : e = (c : Int) := by omega
   have g1 := hgv c (by omega)
   have g2 := hga c (by omega)
   obtain ⟨b1, b2⟩ := vsT_get (show c < (vsT t).length by omega)
   have b3 := ht.1 ((vsT t).getD c 0)
   have g3 := tb_get H b1
   have hx : H ((vsT t).getD c 0) = m % t ((vsT t).getD c 0) := by rw [hH]; exact deI_top
   rw [hx] at g3
   have hl := tb_length H
   have hset := tb_set H (m % t ((vsT t).getD c 0) + 1) b1
   have hl2 := tb_length (updT H ((vsT t).getD c 0) (m % t ((vsT t).getD c 0) + 1))
   have g4 := tb_get (updT H ((vsT t).getD c 0) (m % t ((vsT t).getD c 0) + 1)) b1
   rw [updT_same] at g4
   have hset0 : (tb (updT H ((vsT t).getD c 0) (m % t ((vsT t).getD c 0) + 1))).set ((vsT t).getD c 0) (V.i .i64 0) = _ := tb_set (updT H ((vsT t).getD c 0) (m % t ((vsT t).getD c 0) + 1)) 0 b1
   have hup : m % t ((vsT t).getD c 0) + 1 < t ((vsT t).getD c 0) → tb (updT H ((vsT t).getD c 0) (m % t ((vsT t).getD c 0) + 1)) = tb (deT t (k + 1)) := fun h => by
    rw [hH, de_up h, hd]
   have hov : ¬ m % t ((vsT t).getD c 0) + 1 < t ((vsT t).getD c 0) → updT (updT H ((vsT t).getD c 0) (m % t ((vsT t).getD c 0) + 1)) ((vsT t).getD c 0) 0 = deI (vsT t) t c (m / t ((vsT t).getD c 0)) ∧ deI (vsT t) t c (m / t ((vsT t).getD c 0) + 1) = deT t (k + 1) := fun h => by
    obtain ⟨o1, o2⟩ := de_over ((vsT_dis t).mono hi) b2 h
    rw [← hH] at o1
    rw [hd] at o2
    refine ⟨?_, o2.symm⟩
    rw [← o1]
    funext u
    by_cases eu : u = (vsT t).getD c 0
    ·rw [eu, updT_same, updT_same]
    ·rw [updT_ne _ _ eu, updT_ne _ _ eu, updT_ne _ _ eu]
   have hmx : m % t ((vsT t).getD c 0) < 64 := Nat.lt_of_lt_of_le (Nat.mod_lt _ (by omega)) b3
   clear hgv hga hH hx hG hd cc hlq ea
   obtain ⟨H1, hH1⟩ : ∃ H1, updT H ((vsT t).getD c 0) (m % t ((vsT t).getD c 0) + 1) = H1 := ⟨_, rfl⟩
   rw [hH1] at hset hl2 g4 hset0 hup hov
   obtain ⟨H2, hH2⟩ : ∃ H2, updT H1 ((vsT t).getD c 0) 0 = H2 := ⟨_, rfl⟩
   rw [hH2] at hset0 hov
   clear hH1 hH2
   generalize m / t ((vsT t).getD c 0) = kq at *
   generalize m % t ((vsT t).getD c 0) = x at *
   generalize t ((vsT t).getD c 0) = w at *
   generalize (vsT t).getD c 0 = d at g1 b1 hset g3 g4 hset0
   refine AX.sR (rgAV [0, 1, 2, 6, 7, 8, 9, 16, 17, 30]) ?_
   refine AX.condT ?_
   refine AX.keepA [0, 1, 2, 6, 7, 8, 9, 16, 17] ?_
   refine AX.skip ?_
   refine nmZ ?_
   refine AX.seq ?_
   refine AX.block ?_
   refine AX.sR (rgWV [0, 1, 2, 6, 7, 8, 9, 16, 17] (aI @hzv (aI @g1 (aI @g3 (aI @hl (aI @lit_add oT))))) oT) ?_
   rw [hset]
   refine AX.seq ?_
   by_cases h3 : x + 1 < w
   ·have hup := hup h3
    refine AX.sD (rgDWV [0, 1, 2, 6, 7, 8, 9, 16, 17, 51] (aI @hzv (aI @hza (aI @g1 (aI @g2 (aI @g4 (aI @hl2 oT)))))) oT) ?_
    refine AX.condT ?_
    refine AX.exit ?_
    refine nmZ ?_
    rw [hup]
    refine AX.rR (rgWV [0, 1, 2, 6, 7, 8, 16, 17] (aI @lit_add oT) oT) ?_
    refine nmZ ?_
    refine ⟨_, _, id, ?_,
     leQ5
     , ⟨k + 1, ys, _, by omega, rfl, hys.symm, rfl, rfl⟩⟩
    omega
   ·obtain ⟨hov1, hov2⟩ := hov h3
    refine AX.sD (rgDWV [0, 1, 2, 6, 7, 8, 9, 16, 17, 51] (aI @hzv (aI @hza (aI @g1 (aI @g2 (aI @g4 (aI @hl2 oT)))))) oT) ?_
    refine AX.condF ?_
    refine AX.keepA [0, 1, 2, 6, 7, 8, 9, 16, 17] ?_
    refine AX.skip ?_
    refine nmZ ?_
    refine AX.rR (rgWV [0, 1, 2, 6, 7, 8, 9, 16, 17] (aI @hzv (aI @g1 (aI @hl2 oT))) oT) ?_
    refine nmZ ?_
    rw [hset0]
    refine AX.rR (rgAV [0, 1, 2, 6, 7, 8, 9, 16, 17]) ?_
    refine nmZ ?_
    refine ⟨_, _, id, ?_,
     leQ5
     , ⟨c, kq, (c : Int) - 1, H2, by omega, rfl, by omega, hov2, hov1, rfl⟩⟩
    omega
  ·obtain rfl : i = 0 := by omega
   obtain rfl : e = -1 := by omega
   have hd' : tb H = tb (deT t (k + 1)) := by rw [← hd, hH]; rfl
   rw [hd']
   clear hgv hga hH hG hd cc hlq ea
   refine AX.sR (rgAV [0, 1, 2, 6, 7, 8, 9, 16, 17, 30]) ?_
   refine AX.condF ?_
   refine AX.exit ?_
   refine nmZ ?_
   refine AX.rR (rgWV [0, 1, 2, 6, 7, 8, 16, 17] (aI @lit_add oT) oT) ?_
   refine nmZ ?_
   refine ⟨_, _, id, ?_,
    leQ5
    , ⟨k + 1, ys, _, by omega, rfl, hys.symm, rfl, rfl⟩⟩
   omega
 ·obtain rfl : k = S := by omega
  subst hzs
  refine AX.sR (rgAV [0, 1, 2, 6, 7, 8, 16, 17, 18]) ?_
  refine AX.seq ?_
  refine AX.condF ?_
  refine AX.exit ?_
  refine nmZ ?_
  refine AX.sR (rgAV [6]) ?_
  refine AX.ret ⟨.inl rfl, ?_⟩
  exact Lift.Done.facQ fa_lay_fac rfl rfl rfl (ql_length _ _).symm
end Go.Proofs.YtogpimmcodaljaaGreat
