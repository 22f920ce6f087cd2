/- The law FactorMosts: the walk where the factor is right. -/
import Derived.Test.YtogpimmcodaljaaKK
set_option linter.unusedVariables false
set_option maxRecDepth 20000
set_option linter.unusedSimpArgs false
namespace Go.Proofs.Ytogpimmcodaljaa
open Go Go.Proofs.Ytogpimmcodaljaa.Lift
attribute [local irreducible] Lift.PCall Lift.HCall
theorem take_bd {l : List Int} {m : Nat} (hb : ∀ j, j < l.length → -9223372036854775808 ≤ l.getD j 0 ∧ l.getD j 0 ≤ 9223372036854775807) : ∀ j, j < (l.take m).length → -9223372036854775808 ≤ (l.take m).getD j 0 ∧ (l.take m).getD j 0 ≤ 9223372036854775807 := fun j hj => by
 rw [List.length_take] at hj
 have e : (l.take m).getD j 0 = l.getD j 0 := by rw [List.getD_eq_getElem?_getD, List.getD_eq_getElem?_getD, List.getElem?_take, if_pos (by omega)]
 rw [e]
 exact hb j (by omega)
set_option maxHeartbeats 32000000 in
theorem factorMosts_core (V0 W0 X0 : List V) (t : Nat → Nat) (q : Nat → Rat) (ht : okT t) (hq : ∀ k, k < szT t → rL (q k) ≤ 3) (v : Int) (hv : -9223372036854775808 ≤ v ∧ v ≤ 9223372036854775807) (l : List Int) (hl : l.length < 2 ^ 62) (hlb : ∀ j, j < l.length → -9223372036854775808 ≤ l.getD j 0 ∧ l.getD j 0 ≤ 9223372036854775807)
  (t1 : Nat → Nat) (q1 : Nat → Rat) (c1 : PCall Try.prog 8 [.agg [.sl V0, .sl W0, .sl X0]] (FV t q) []) (c2 : PCall Try.prog 20 [FV t q, .i .i64 v] (.tup [FV t1 q1, .i .i64 0]) [])
  (hcase : ∀ i, i < (vsT t).length → (((vsT t).getD i 0 : Nat) : Int) = v → t1 = updT t ((vsT t).getD i 0) 0 ∧ q1 = woQ t q ((vsT t).getD i 0) 1 0) :
  PCall Try.prog 4 [.agg [.sl V0, .sl W0, .sl X0], .i .i64 v, .sl (zl l)] (.b true) [] := by
 have hm := vsT_len t
 have hzv : (zl (ci (vsT t))).length = (vsT t).length := zn_length _
 have hza : (zl (ci (asT t))).length = (vsT t).length := (zn_length _).trans (asT_len t)
 have hgv := fun j (hj : j < (vsT t).length) => show (zl (ci (vsT t))).getD j .junk = .i .i64 (((vsT t).getD j 0 : Nat) : Int) from zn_get hj
 have hga := fun j (hj : j < (vsT t).length) => show (zl (ci (asT t))).getD j .junk = .i .i64 ((t ((vsT t).getD j 0) : Nat) : Int) from (zn_get (by rw [asT_len]; exact hj)).trans (by rw [asT_get hj])
 have cal := lalive26_ok
 obtain ⟨n0, m0, l0, tt0, k0⟩ := fmin l 80
 have e0 := fHiZ l0
 rw [tt0] at e0
 have m0 : (if (80 : Int) < (l.length : Int) then (80 : Int) else (l.length : Int)) = (n0 : Int) := m0
 have hal : (zl l).length = l.length := zl_length l
 have hab := take_bd (m := 80) hlb
 have hA80 : (l.take 80).length ≤ 80 := by rw [List.length_take]; omega
 generalize l.take 80 = a at *
 have eap := fun x y => fAppZ (l := a) (h := 1) (by omega) x y
 have hz0 := zl_length a
 have hzf := (zl_hf a).2
 have cA := fun (b : List Int) (hb : b.length = a.length) (hbb : ∀ j, j < b.length → -9223372036854775808 ≤ b.getD j 0 ∧ b.getD j 0 ≤ 9223372036854775807) => fAtA_g t q ht (fun k hk => Nat.le_trans (hq k hk) (by omega)) b (by omega) hbb
 have cB := fun (w : Nat) (hw : w < 64) (h0 : t w ≠ 0) (b : List Int) (hb : b.length = a.length) (hbb : ∀ j, j < b.length → -9223372036854775808 ≤ b.getD j 0 ∧ b.getD j 0 ≤ 9223372036854775807) => fAtA_g (updT t w 0) (woQ t q w 1 0) (okT_del ht w) (fun k hk => Nat.le_trans (woQ_len ht hq k) (by omega)) b (by omega) hbb
 have htb := ht.1
 have hmt := fun w (h0 : t w ≠ 0) => Nat.pos_of_ne_zero h0
 have hqt := fun (b : List Int) (hb : inA t b) => hq (enT t (anL b)) (enT_lt (anL_in hb))
 unfold FV fV at c1 c2
 rw [xsT_map] at c1 c2
 rw [xsT_map] at c2
 refine PCall.of_ax Try.call4 Try.func4 rfl (by simp [Try.ntmps4]) fun O w9 => ?_
 simp only [Try.ntmps4, Try.results4, argFr]
 unfold FV fV at cA cB
 simp only [xsT_map] at cA cB
 have cB := fun (w : Nat) (hw : w < 64) (h0 : t w ≠ 0) (et : t1 = updT t w 0) (eq : q1 = woQ t q w 1 0) (b : List Int) (hb : b.length = a.length) (hbb : ∀ j, j < b.length → -9223372036854775808 ≤ b.getD j 0 ∧ b.getD j 0 ≤ 9223372036854775807) =>
  (show GCall Try.prog 9 [.agg [.sl (zl (ci (vsT t1))), .sl (zl (ci (asT t1))), .sl ((ql (szT t1) q1).map rV)], .own 0 0 b.length 1] [⟨3, zl b⟩] [⟨3, zl b⟩] (atA (updT t w 0) (woQ t q w 1 0) b) by rw [et, eq]; exact cB w hw h0 b hb hbb)
 generalize zl (ci (vsT t)) = Vs at *
 generalize zl (ci (asT t)) = As at *
 generalize (ql (szT t) q).map rV = X at *
 generalize zl (ci (vsT t1)) = V1 at *
 generalize zl (ci (asT t1)) = A1 at *
 generalize (ql (szT t1) q1).map rV = X1 at *
 refine AX.sR (rgAV [1, 2, 3]) ?_
 refine AX.sD (rgDEV [1, 2, 3] (aI @hal (aI @m0 (aI @hz0 (aI @hzf oT)))) (aI c1 oT) (aI e0 (aI eap oT))) ?_
 refine AX.sR (rgCV [1, 2, 3, 7, 8] (aI c2 oT)) ?_
 refine AX.seq ?_
 refine AX.sR (rgAV [1, 2, 3, 7, 8, 35]) ?_
 refine AX.condF ?_
 refine AX.keepA [1, 2, 3, 7] ?_
 refine AX.skip ?_
 refine nmZ ?_
 refine AX.seq ?_
 refine AX.sR (rgWV [1, 2, 3, 7, 47, 48, 49] (aI @hzv oT) oT) ?_
 refine AX.weaken id (st' := ⟨[(49, .i .i64 (0 : Nat)), (48, .i .i64 (vsT t).length), (47, .sl Vs), (7, .ptr 3 0), (3, .ptr 0 0), (2, .own 2 0 a.length 1), (1, .i .i64 v)], [(3, ⟨25, [.sl V1, .sl A1, .sl X1]⟩), (2, ⟨3, zl a⟩), (0, ⟨25, [.sl Vs, .sl As, .sl X]⟩)], 4⟩)
  leQ5
  ?_
 clear c1 c2 eap e0
 refine AX.block ?_
 refine AX.loop (fun N st => ∃ i : Nat, i ≤ (vsT t).length ∧ N = (vsT t).length - i ∧ st = ⟨[(49, .i .i64 i), (48, .i .i64 (vsT t).length), (47, .sl Vs), (7, .ptr 3 0), (3, .ptr 0 0), (2, .own 2 0 a.length 1), (1, .i .i64 v)], [(3, ⟨25, [.sl V1, .sl A1, .sl X1]⟩), (2, ⟨3, zl a⟩), (0, ⟨25, [.sl Vs, .sl As, .sl X]⟩)], 4⟩) (vsT t).length ⟨0, Nat.zero_le _, rfl, rfl⟩ ?_
 rintro N st ⟨i, hi, rfl, rfl⟩
 by_cases h2 : i < (vsT t).length
 ·have g1 := hgv i h2
  have g2 := hga i h2
  obtain ⟨b1, b2⟩ := vsT_get h2
  have hca := hcase i h2
  clear hgv hga hcase
  generalize (vsT t).getD i 0 = w at *
  refine AX.sR (rgAV [1, 2, 3, 7, 47, 48, 49, 50]) ?_
  refine AX.seq ?_
  refine AX.condT ?_
  refine AX.keepA [1, 2, 3, 7, 47, 48, 49] ?_
  refine AX.skip ?_
  refine nmZ ?_
  refine AX.seq ?_
  refine AX.block ?_
  refine AX.sR (rgWV [1, 2, 3, 7, 9, 10, 47, 48, 49] (aI @hzv (aI @g1 oT)) oT) ?_
  refine AX.seq ?_
  by_cases h3 : (w : Int) = v
  ·subst h3
   by_cases h4 : a.length ≤ w
   ·clear hca cA cB
    refine AX.sR (rgAV [1, 2, 3, 7, 9, 47, 48, 49, 62]) ?_
    refine AX.condT ?_
    refine AX.exit ?_
    refine nmZ ?_
    refine AX.rR (rgWV [1, 2, 3, 7, 47, 48, 49] (aI @lit_add oT) oT) ?_
    refine nmZ ?_
    refine ⟨_, _, id, ?_,
     leQ5
     , ⟨i + 1, by omega, rfl, rfl⟩⟩
    omega
   ·obtain ⟨et, eq⟩ := hca rfl
    have hwa : w < a.length := by omega
    have cB := cB w b1 b2 et eq
    have hs0 : (zl a).set w (.i .i64 0) = zl (a.set w 0) := zl_set a w 0
    have hbk : ∀ k : Nat, k ≤ 64 → ∀ j, j < (a.set w (k : Int)).length → -9223372036854775808 ≤ (a.set w (k : Int)).getD j 0 ∧ (a.set w (k : Int)).getD j 0 ≤ 9223372036854775807 := fun k hk j hj => by
     rw [List.length_set] at hj
     rw [getD_set_int hwa]
     split
     ·omega
     ·exact hab j hj
    have cA0 := cA (a.set w ((0 : Nat) : Int)) List.length_set (hbk 0 (by omega))
    have cB0 := cB (a.set w ((0 : Nat) : Int)) List.length_set (hbk 0 (by omega))
    have cAk := fun (k : Nat) (hk : k < t w) => cA (a.set w (k : Int)) List.length_set (hbk k (by have := htb w; omega))
    have hin := fun h (k : Nat) (hk : k < t w) => inA_set (t := t) hwa h hk
    have hdel := fun h : inA t (a.set w 0) => inA_del w h
    have hX := fun h => woQ_at (t := t) (q := q) (what := 1) (arm := 0) b1 hwa h
    have hset : ∀ A : List Int, (∀ x, A.set w x = a.set w x) → ∀ k : Nat, (zl A).set w (.i .i64 (k : Int)) = zl (a.set w (k : Int)) := fun A hA k => by rw [zl_set, hA]
    have hss : ∀ (y x : Int), (a.set w y).set w x = a.set w x := fun y x => List.set_set ..
    simp only [List.length_set] at cA0 cB0 cAk
    clear cA cB hbk hab hca
    refine AX.sR (rgAV [1, 2, 3, 7, 9, 47, 48, 49, 62]) ?_
    refine AX.condF ?_
    refine AX.keepA [1, 2, 3, 7, 9] ?_
    refine AX.skip ?_
    refine nmZ ?_
    refine AX.sR (rgWV [1, 2, 3, 7, 9] (aI @hz0 oT) oT) ?_
    refine AX.weaken id (st' := ⟨[(9, .i .i64 i), (7, .ptr 3 0), (3, .ptr 0 0), (2, .own 2 0 a.length 1), (1, .i .i64 w)], [(3, ⟨25, [.sl V1, .sl A1, .sl X1]⟩), (2, ⟨3, zl (a.set w 0)⟩), (0, ⟨25, [.sl Vs, .sl As, .sl X]⟩)], 4⟩)
     ⟨by simp only [ren_q, renL_u, ren_zl, ren_tb, ren_frw, ren_cnq, lt_q, ltL_u, lt_zl, lt_tb, lt_frw, lt_cnq, LeFr, LeHp, lkp, V.ren, V.renL, Row.ren, V.lt, V.ltL, renL_u, ltL_u, List.length_append, List.length_cons, List.length_nil, List.length_set, id_eq, Option.some.injEq, V.i.injEq, V.b.injEq, V.own.injEq, Row.mk.injEq, decide_true, decide_eq_true_eq, true_and, and_true, Bool.and_true, Bool.true_and, if_true, if_false, and_self, Nat.reduceLT, Nat.reduceLeDiff, Nat.reduceEqDiff, Nat.reduceAdd, Nat.reduceSub, Nat.reduceMul, Nat.reducePow, Nat.reduceBEq, Int.reduceLE, Int.reduceLT, Int.reduceToNat, Int.reduceEq, Int.reduceNeg, reduceIte, reduceCtorEq] <;> (first | done | trivial | (and_intros <;> first | trivial | omega | (exact hs0))), by simp only [ren_q, renL_u, ren_zl, ren_tb, ren_frw, ren_cnq, lt_q, ltL_u, lt_zl, lt_tb, lt_frw, lt_cnq, LeFr, LeHp, lkp, V.ren, V.renL, Row.ren, V.lt, V.ltL, renL_u, ltL_u, List.length_append, List.length_cons, List.length_nil, List.length_set, id_eq, Option.some.injEq, V.i.injEq, V.b.injEq, V.own.injEq, Row.mk.injEq, decide_true, decide_eq_true_eq, true_and, and_true, Bool.and_true, Bool.true_and, if_true, if_false, and_self, Nat.reduceLT, Nat.reduceLeDiff, Nat.reduceEqDiff, Nat.reduceAdd, Nat.reduceSub, Nat.reduceMul, Nat.reducePow, Nat.reduceBEq, Int.reduceLE, Int.reduceLT, Int.reduceToNat, Int.reduceEq, Int.reduceNeg, reduceIte, reduceCtorEq] <;> (first | done | trivial | (and_intros <;> first | trivial | omega | (exact hs0))), by simp [Apart], by first | exact Nat.zero_le _ | simp, by intro n hn; first | rfl | exact absurd hn (Nat.not_lt_zero _) | (have h0 : n = 0 := Nat.lt_one_iff.1 hn; subst h0; rfl)⟩
     ?_
    refine AX.seq ?_
    by_cases hA : inA t (a.set w 0)
    ·have eA0 : atA t q (a.set w ((0 : Nat) : Int)) = .tup [.agg [.b (decide ((q (enT t (anL (a.set w 0)))).num < 0)), dg (digits (q (enT t (anL (a.set w 0)))).num.natAbs), dg (digits (q (enT t (anL (a.set w 0)))).den)], .i .i64 0] := if_pos hA
     have eB0 : atA (updT t w 0) (woQ t q w 1 0) (a.set w ((0 : Nat) : Int)) = .tup [rV (woX 1 0 (fun k => q (enT t (anL (a.set w (k : Int))))) (t w)), .i .i64 0] := (if_pos (hdel hA)).trans (by rw [← hX hA]; rfl)
     have eAk : ∀ k : Nat, k < t w → atA t q (a.set w (k : Int)) = .tup [rV (q (enT t (anL (a.set w (k : Int))))), .i .i64 0] := fun k hk => if_pos (hin hA k hk)
     have hgl : ∀ k : Nat, k < t w → rL (q (enT t (anL (a.set w (k : Int))))) ≤ 3 := fun k hk => hqt _ (hin hA k hk)
     rw [eA0] at cA0
     rw [eB0] at cB0
     have cAk := fun (k : Nat) (hk : k < t w) => (show GCall Try.prog _ _ _ _ (.tup [rV (q (enT t (anL (a.set w (k : Int))))), .i .i64 0]) by rw [← eAk k hk]; exact cAk k hk)
     clear eA0 eB0 eAk hin hdel hX hqt
     obtain ⟨g, hg⟩ : ∃ g : Nat → Rat, (fun k : Nat => q (enT t (anL (a.set w (k : Int))))) = g := ⟨_, rfl⟩
     have hgk : ∀ k : Nat, q (enT t (anL (a.set w (k : Int)))) = g k := fun k => by rw [← hg]
     rw [hg] at cB0
     simp only [hgk] at cAk hgl
     have hge := woX1_ge (f := g) (t w)
     obtain ⟨k9, hk9, hk9e⟩ := woX1_att (f := g) (t w) (hmt w b2)
     have hmet := metB_of (X := woX 1 0 g (t w)) (g := g) hk9e (t w) hk9
     have hXl : rL (woX 1 0 g (t w)) ≤ 3 := by rw [hk9e]; exact hgl k9 hk9
     have ccmp := fun (k : Nat) (hk : k < t w) => pcmp_ok (IsQ.of (hgl k hk)) (IsQ.of hXl) (by omega) (by omega)
     have csam := fun (k : Nat) (hk : k < t w) => psame_ok (IsQ.of hXl) (IsQ.of (hgl k hk)) (by omega) (by omega)
     have hle : ∀ k, k < t w → ¬ 0 < cmpR (g k) (woX 1 0 g (t w)) := fun k hk => cmpR_ngt (Rat.not_lt.2 (hge k hk))
     have hcb : ∀ k, -1 ≤ cmpR (g k) (woX 1 0 g (t w)) ∧ cmpR (g k) (woX 1 0 g (t w)) ≤ 1 := fun k => by
      unfold cmpR
      split
      ·decide
      ·split <;> decide
     clear hk9e hk9 hge hXl hgl hg hgk hmt
     generalize woX 1 0 g (t w) = M at *
     unfold rV rR at cB0 cAk ccmp csam
     have htw := htb w
     generalize t w = n at *
     apply AX.sreg [1, 2, 3, 7, 9, 12] (by simp only [pq]; rfl)
     ·repeat (first
     |(apply RunO.op rfl; · rfl
       ·(simp only [opsOf, valsOf, valOf, lkp, ofConst, ofCell, Array.toList, Option.toList, List.map_cons, List.map_nil, List.cons_append, List.nil_append, List.append_nil, Nat.reduceEqDiff, Nat.reducePow, Nat.reduceLT, Nat.reduceLeDiff, reduceIte, if_true, if_false, IntKind.min, IntKind.max, IntKind.bits, IntKind.signed, Int.reduceLE, Int.reduceNeg, Int.reducePow, Int.reduceSub, and_self, Bool.false_eq_true, Nat.reduceSub]; rfl)
       iterate 2 (· (simp (disch := omega) only [go_sem, i64_of, u32_of, u64_of, Nat.reduceLT, Nat.reduceLeDiff, Nat.reduceEqDiff, Nat.reduceAdd, Nat.reduceSub, Nat.reduceMul, Nat.reducePow, Nat.reduceBEq, Int.reduceLE, Int.reduceLT, Int.reduceToNat, Int.reduceEq, Int.reduceNeg, reduceIte, reduceCtorEq]; rfl))
       ·(simp only [pb, Nat.reduceLT, Nat.reduceAdd, reduceIte]; rfl))
     |(apply RunO.gcall [2] rfl; · rfl
       ·(simp only [opsOf, valsOf, valOf, lkp, ofConst, ofCell, Array.toList, Option.toList, List.map_cons, List.map_nil, List.cons_append, List.nil_append, List.append_nil, Nat.reduceEqDiff, Nat.reducePow, Nat.reduceLT, Nat.reduceLeDiff, reduceIte, if_true, if_false, IntKind.min, IntKind.max, IntKind.bits, IntKind.signed, Int.reduceLE, Int.reduceNeg, Int.reducePow, Int.reduceSub, and_self, Bool.false_eq_true, Nat.reduceSub]; rfl)
       ·exact cA0
       ·first | rfl | (simp only [Row.ren, V.ren, V.renL, renS, ren_q, renL_u, ren_zl, ren_tb, ren_frw, ren_cnq]; rfl)
       ·first | rfl | (simp only [V.lt, V.ltL, ltS, lt_q, ltL_u, lt_zl, lt_tb, lt_frw, lt_cnq]; rfl)
       ·decide
       ·repeat' (first | exact trivial | rfl | (simp only [Row.ren, V.ren, V.renL, renS, ren_q, renL_u, ren_zl, ren_tb, ren_frw, ren_cnq]; done) | (simp only [Row.ren, V.ren, V.renL, renS, ren_q, renL_u, ren_zl, ren_tb, ren_frw, ren_cnq]; rfl) | (simp only [V.lt, V.ltL, ltS, lt_q, ltL_u, lt_zl, lt_tb, lt_frw, lt_cnq]; done) | apply And.intro)
       ·first | rfl | (simp only [Row.ren, V.ren, V.renL, renS, ren_q, renL_u, ren_zl, ren_tb, ren_frw, ren_cnq]; rfl)
       ·(simp only [setRows, setL, Row.ren, V.ren, V.renL, renS, ren_q, renL_u, ren_zl, ren_tb, ren_frw, ren_cnq, pb, Nat.reduceLT, Nat.reduceAdd, Nat.reduceEqDiff, reduceIte]; rfl))
     |(apply RunO.skip; · rfl
       ·(simp only [pb, Nat.reduceLT, Nat.reduceAdd, reduceIte]; rfl)))
      exact RunO.nil
     ·repeat (first | exact Keep.nil | (apply Keep.take; · rfl) | (apply Keep.drop; · rfl))
     refine AX.sR (rgAV [1, 2, 3, 7, 9, 73]) ?_
     refine AX.condF ?_
     refine AX.keepA [1, 2, 3, 7, 9] ?_
     refine AX.skip ?_
     refine nmZ ?_
     apply AX.sreg [1, 2, 3, 9, 13, 14] (by simp only [pq]; rfl)
     ·repeat (first
     |(apply RunO.op rfl; · rfl
       ·(simp only [opsOf, valsOf, valOf, lkp, ofConst, ofCell, Array.toList, Option.toList, List.map_cons, List.map_nil, List.cons_append, List.nil_append, List.append_nil, Nat.reduceEqDiff, Nat.reducePow, Nat.reduceLT, Nat.reduceLeDiff, reduceIte, if_true, if_false, IntKind.min, IntKind.max, IntKind.bits, IntKind.signed, Int.reduceLE, Int.reduceNeg, Int.reducePow, Int.reduceSub, and_self, Bool.false_eq_true, Nat.reduceSub]; rfl)
       iterate 2 (· (simp (disch := omega) only [go_sem, i64_of, u32_of, u64_of, Nat.reduceLT, Nat.reduceLeDiff, Nat.reduceEqDiff, Nat.reduceAdd, Nat.reduceSub, Nat.reduceMul, Nat.reducePow, Nat.reduceBEq, Int.reduceLE, Int.reduceLT, Int.reduceToNat, Int.reduceEq, Int.reduceNeg, reduceIte, reduceCtorEq]; rfl))
       ·(simp only [pb, Nat.reduceLT, Nat.reduceAdd, reduceIte]; rfl))
     |(apply RunO.gcall [2] rfl; · rfl
       ·(simp only [opsOf, valsOf, valOf, lkp, ofConst, ofCell, Array.toList, Option.toList, List.map_cons, List.map_nil, List.cons_append, List.nil_append, List.append_nil, Nat.reduceEqDiff, Nat.reducePow, Nat.reduceLT, Nat.reduceLeDiff, reduceIte, if_true, if_false, IntKind.min, IntKind.max, IntKind.bits, IntKind.signed, Int.reduceLE, Int.reduceNeg, Int.reducePow, Int.reduceSub, and_self, Bool.false_eq_true, Nat.reduceSub]; rfl)
       ·exact cB0
       ·first | rfl | (simp only [Row.ren, V.ren, V.renL, renS, ren_q, renL_u, ren_zl, ren_tb, ren_frw, ren_cnq]; rfl)
       ·first | rfl | (simp only [V.lt, V.ltL, ltS, lt_q, ltL_u, lt_zl, lt_tb, lt_frw, lt_cnq]; rfl)
       ·decide
       ·repeat' (first | exact trivial | rfl | (simp only [Row.ren, V.ren, V.renL, renS, ren_q, renL_u, ren_zl, ren_tb, ren_frw, ren_cnq]; done) | (simp only [Row.ren, V.ren, V.renL, renS, ren_q, renL_u, ren_zl, ren_tb, ren_frw, ren_cnq]; rfl) | (simp only [V.lt, V.ltL, ltS, lt_q, ltL_u, lt_zl, lt_tb, lt_frw, lt_cnq]; done) | apply And.intro)
       ·first | rfl | (simp only [Row.ren, V.ren, V.renL, renS, ren_q, renL_u, ren_zl, ren_tb, ren_frw, ren_cnq]; rfl)
       ·(simp only [setRows, setL, Row.ren, V.ren, V.renL, renS, ren_q, renL_u, ren_zl, ren_tb, ren_frw, ren_cnq, pb, Nat.reduceLT, Nat.reduceAdd, Nat.reduceEqDiff, reduceIte]; rfl))
     |(apply RunO.skip; · rfl
       ·(simp only [pb, Nat.reduceLT, Nat.reduceAdd, reduceIte]; rfl)))
      exact RunO.nil
     ·repeat (first | exact Keep.nil | (apply Keep.take; · rfl) | (apply Keep.drop; · rfl))
     refine AX.sR (rgAV [1, 2, 3, 9, 13, 14, 15]) ?_
     refine AX.seq ?_
     refine AX.sR (rgAV [1, 2, 3, 9, 13, 14, 15, 16]) ?_
     refine AX.weaken id (st' := ⟨[(16, .i .i64 (0 : Nat)), (15, .b false), (14, .i .i64 0), (13, .ptr 5 0), (9, .i .i64 i), (3, .ptr 0 0), (2, .own 2 0 a.length 1), (1, .i .i64 w)], [(5, ⟨29, [.b (decide (M.num < 0)), dg (digits M.num.natAbs), dg (digits M.den)]⟩), (2, ⟨3, zl (a.set w 0)⟩), (0, ⟨25, [.sl Vs, .sl As, .sl X]⟩)], 6⟩)
      leQ5
      ?_
     clear cA0 cB0
     refine AX.block ?_
     refine AX.loop (fun N st => ∃ (k : Nat) (A : List Int) (B : Bool), k ≤ n ∧ N = n - k ∧ A.length = a.length ∧ (∀ x, A.set w x = a.set w x) ∧ metB M g k = B ∧ st = ⟨[(16, .i .i64 k), (15, .b B), (14, .i .i64 0), (13, .ptr 5 0), (9, .i .i64 i), (3, .ptr 0 0), (2, .own 2 0 a.length 1), (1, .i .i64 w)], [(5, ⟨29, [.b (decide (M.num < 0)), dg (digits M.num.natAbs), dg (digits M.den)]⟩), (2, ⟨3, zl A⟩), (0, ⟨25, [.sl Vs, .sl As, .sl X]⟩)], 6⟩) n ⟨0, _, _, Nat.zero_le _, rfl, List.length_set, hss 0, rfl, rfl⟩ ?_
     rintro N st ⟨k, A, B, hk, rfl, hAl, hAs, hB, rfl⟩
     refine AX.seq ?_
     by_cases h5 : k < n
     ·have c1 := cAk k h5
      have c2 := ccmp k h5
      have c3 := csam k h5
      have hle := hle k h5
      have hcb := hcb k
      have hset := hset A hAs k
      have hzA := zl_length A
      rw [hAl] at hzA
      have hB' : metB M g (k + 1) = (if B = true then true else decide (M = g k)) := by rw [← hB]; rfl
      have hs' := hss (k : Int)
      clear cAk ccmp csam hB hmet
      generalize cmpR (g k) M = c at *
      generalize decide ((g k).num < 0) = s1 at *
      generalize digits (g k).num.natAbs = s2 at *
      generalize digits (g k).den = s3 at *
      generalize decide (M = g k) = B2 at *
      generalize decide (M.num < 0) = m1 at *
      generalize digits M.num.natAbs = m2 at *
      generalize digits M.den = m3 at *
      refine AX.sR (rgWV [1, 2, 3, 9, 13, 14, 15, 16, 87] (aI @hza (aI @g2 oT)) oT) ?_
      refine AX.condT ?_
      refine AX.keepA [1, 2, 3, 9, 13, 14, 15, 16] ?_
      refine AX.skip ?_
      refine nmZ ?_
      refine AX.seq ?_
      refine AX.block ?_
      refine AX.sR (rgWV [1, 2, 3, 9, 13, 14, 15, 16] (aI @hzA oT) oT) ?_
      rw [hset]
      apply AX.sreg [1, 2, 3, 9, 13, 14, 15, 16, 17] (by simp only [pq]; rfl)
      ·repeat (first
      |(apply RunO.op rfl; · rfl
        ·(simp only [opsOf, valsOf, valOf, lkp, ofConst, ofCell, Array.toList, Option.toList, List.map_cons, List.map_nil, List.cons_append, List.nil_append, List.append_nil, Nat.reduceEqDiff, Nat.reducePow, Nat.reduceLT, Nat.reduceLeDiff, reduceIte, if_true, if_false, IntKind.min, IntKind.max, IntKind.bits, IntKind.signed, Int.reduceLE, Int.reduceNeg, Int.reducePow, Int.reduceSub, and_self, Bool.false_eq_true, Nat.reduceSub]; rfl)
        iterate 2 (· (simp (disch := omega) only [go_sem, i64_of, u32_of, u64_of, Nat.reduceLT, Nat.reduceLeDiff, Nat.reduceEqDiff, Nat.reduceAdd, Nat.reduceSub, Nat.reduceMul, Nat.reducePow, Nat.reduceBEq, Int.reduceLE, Int.reduceLT, Int.reduceToNat, Int.reduceEq, Int.reduceNeg, reduceIte, reduceCtorEq]; rfl))
        ·(simp only [pb, Nat.reduceLT, Nat.reduceAdd, reduceIte]; rfl))
      |(apply RunO.gcall [2] rfl; · rfl
        ·(simp only [opsOf, valsOf, valOf, lkp, ofConst, ofCell, Array.toList, Option.toList, List.map_cons, List.map_nil, List.cons_append, List.nil_append, List.append_nil, Nat.reduceEqDiff, Nat.reducePow, Nat.reduceLT, Nat.reduceLeDiff, reduceIte, if_true, if_false, IntKind.min, IntKind.max, IntKind.bits, IntKind.signed, Int.reduceLE, Int.reduceNeg, Int.reducePow, Int.reduceSub, and_self, Bool.false_eq_true, Nat.reduceSub]; rfl)
        ·exact c1
        ·first | rfl | (simp only [Row.ren, V.ren, V.renL, renS, ren_q, renL_u, ren_zl, ren_tb, ren_frw, ren_cnq]; rfl)
        ·first | rfl | (simp only [V.lt, V.ltL, ltS, lt_q, ltL_u, lt_zl, lt_tb, lt_frw, lt_cnq]; rfl)
        ·decide
        ·repeat' (first | exact trivial | rfl | (simp only [Row.ren, V.ren, V.renL, renS, ren_q, renL_u, ren_zl, ren_tb, ren_frw, ren_cnq]; done) | (simp only [Row.ren, V.ren, V.renL, renS, ren_q, renL_u, ren_zl, ren_tb, ren_frw, ren_cnq]; rfl) | (simp only [V.lt, V.ltL, ltS, lt_q, ltL_u, lt_zl, lt_tb, lt_frw, lt_cnq]; done) | apply And.intro)
        ·first | rfl | (simp only [Row.ren, V.ren, V.renL, renS, ren_q, renL_u, ren_zl, ren_tb, ren_frw, ren_cnq]; rfl)
        ·(simp only [setRows, setL, Row.ren, V.ren, V.renL, renS, ren_q, renL_u, ren_zl, ren_tb, ren_frw, ren_cnq, pb, Nat.reduceLT, Nat.reduceAdd, Nat.reduceEqDiff, reduceIte]; rfl))
      |(apply RunO.skip; · rfl
        ·(simp only [pb, Nat.reduceLT, Nat.reduceAdd, reduceIte]; rfl)))
       exact RunO.nil
      ·repeat (first | exact Keep.nil | (apply Keep.take; · rfl) | (apply Keep.drop; · rfl))
      refine AX.seq ?_
      refine AX.sR (rgCV [1, 2, 3, 9, 13, 14, 15, 16, 17, 103] (aI c2 oT)) ?_
      refine AX.condF ?_
      refine AX.keepA [1, 2, 3, 9, 13, 14, 15, 16, 17] ?_
      refine AX.skip ?_
      refine nmZ ?_
      cases B with
      | true =>
       refine AX.rR (rgAV [1, 2, 3, 9, 13, 14, 15, 16]) ?_
       refine nmZ ?_
       refine AX.rR (rgWV [1, 2, 3, 9, 13, 14, 15, 16] (aI @lit_add oT) oT) ?_
       refine nmZ ?_
       refine ⟨_, _, id, ?_,
        leQ5
        , ⟨k + 1, _, true, by omega, rfl, List.length_set, hs', hB', rfl⟩⟩
       omega
      | false =>
       refine AX.rR (rgCV [1, 2, 3, 9, 13, 14, 15, 16] (aI c3 oT)) ?_
       refine nmZ ?_
       refine AX.rR (rgWV [1, 2, 3, 9, 13, 14, 15, 16] (aI @lit_add oT) oT) ?_
       refine nmZ ?_
       refine ⟨_, _, id, ?_,
        leQ5
        , ⟨k + 1, _, B2, by omega, rfl, List.length_set, hs', hB', rfl⟩⟩
       omega
     ·obtain rfl : k = n := by omega
      obtain rfl : B = true := by rw [← hB, hmet]
      clear cAk ccmp csam hB hmet
      refine AX.sR (rgWV [1, 2, 3, 9, 13, 14, 15, 16, 87] (aI @hza (aI @g2 oT)) oT) ?_
      refine AX.condF ?_
      refine AX.exit ?_
      refine nmZ ?_
      refine AX.sR (rgCV [6] (aI cal oT)) ?_
      refine AX.ret ⟨.inl rfl, ?_⟩
      exact Done.one rfl rfl rfl rfl
    ·have eA0 : atA t q (a.set w ((0 : Nat) : Int)) = .tup [zA, .i .i64 1] := if_neg hA
     rw [eA0] at cA0
     clear eA0 hin hdel hX cAk hset hss cB0
     apply AX.sreg [1, 2, 3, 7, 9, 12] (by simp only [pq]; rfl)
     ·repeat (first
     |(apply RunO.op rfl; · rfl
       ·(simp only [opsOf, valsOf, valOf, lkp, ofConst, ofCell, Array.toList, Option.toList, List.map_cons, List.map_nil, List.cons_append, List.nil_append, List.append_nil, Nat.reduceEqDiff, Nat.reducePow, Nat.reduceLT, Nat.reduceLeDiff, reduceIte, if_true, if_false, IntKind.min, IntKind.max, IntKind.bits, IntKind.signed, Int.reduceLE, Int.reduceNeg, Int.reducePow, Int.reduceSub, and_self, Bool.false_eq_true, Nat.reduceSub]; rfl)
       iterate 2 (· (simp (disch := omega) only [go_sem, i64_of, u32_of, u64_of, Nat.reduceLT, Nat.reduceLeDiff, Nat.reduceEqDiff, Nat.reduceAdd, Nat.reduceSub, Nat.reduceMul, Nat.reducePow, Nat.reduceBEq, Int.reduceLE, Int.reduceLT, Int.reduceToNat, Int.reduceEq, Int.reduceNeg, reduceIte, reduceCtorEq]; rfl))
       ·(simp only [pb, Nat.reduceLT, Nat.reduceAdd, reduceIte]; rfl))
     |(apply RunO.gcall [2] rfl; · rfl
       ·(simp only [opsOf, valsOf, valOf, lkp, ofConst, ofCell, Array.toList, Option.toList, List.map_cons, List.map_nil, List.cons_append, List.nil_append, List.append_nil, Nat.reduceEqDiff, Nat.reducePow, Nat.reduceLT, Nat.reduceLeDiff, reduceIte, if_true, if_false, IntKind.min, IntKind.max, IntKind.bits, IntKind.signed, Int.reduceLE, Int.reduceNeg, Int.reducePow, Int.reduceSub, and_self, Bool.false_eq_true, Nat.reduceSub]; rfl)
       ·exact cA0
       ·first | rfl | (simp only [Row.ren, V.ren, V.renL, renS, ren_q, renL_u, ren_zl, ren_tb, ren_frw, ren_cnq]; rfl)
       ·first | rfl | (simp only [V.lt, V.ltL, ltS, lt_q, ltL_u, lt_zl, lt_tb, lt_frw, lt_cnq]; rfl)
       ·decide
       ·repeat' (first | exact trivial | rfl | (simp only [Row.ren, V.ren, V.renL, renS, ren_q, renL_u, ren_zl, ren_tb, ren_frw, ren_cnq]; done) | (simp only [Row.ren, V.ren, V.renL, renS, ren_q, renL_u, ren_zl, ren_tb, ren_frw, ren_cnq]; rfl) | (simp only [V.lt, V.ltL, ltS, lt_q, ltL_u, lt_zl, lt_tb, lt_frw, lt_cnq]; done) | apply And.intro)
       ·first | rfl | (simp only [Row.ren, V.ren, V.renL, renS, ren_q, renL_u, ren_zl, ren_tb, ren_frw, ren_cnq]; rfl)
       ·(simp only [setRows, setL, Row.ren, V.ren, V.renL, renS, ren_q, renL_u, ren_zl, ren_tb, ren_frw, ren_cnq, pb, Nat.reduceLT, Nat.reduceAdd, Nat.reduceEqDiff, reduceIte]; rfl))
     |(apply RunO.skip; · rfl
       ·(simp only [pb, Nat.reduceLT, Nat.reduceAdd, reduceIte]; rfl)))
      exact RunO.nil
     ·repeat (first | exact Keep.nil | (apply Keep.take; · rfl) | (apply Keep.drop; · rfl))
     refine AX.sR (rgAV [1, 2, 3, 7, 9, 73]) ?_
     refine AX.condT ?_
     refine AX.sR (rgCV [6] (aI cal oT)) ?_
     refine AX.ret ⟨.inl rfl, ?_⟩
     exact Done.one rfl rfl rfl rfl
  ·clear hca cA cB
   refine AX.sR (rgWV [1, 2, 3, 7, 9, 47, 48, 49, 62] (aI @h3 oT) oT) ?_
   refine AX.condT ?_
   refine AX.exit ?_
   refine nmZ ?_
   refine AX.rR (rgWV [1, 2, 3, 7, 47, 48, 49] (aI @lit_add oT) oT) ?_
   refine nmZ ?_
   refine ⟨_, _, id, ?_,
    leQ5
    , ⟨i + 1, by omega, rfl, rfl⟩⟩
   omega
 ·clear hcase cA cB hgv hga
  refine AX.sR (rgAV [1, 2, 3, 7, 47, 48, 49, 50]) ?_
  refine AX.seq ?_
  refine AX.condF ?_
  refine AX.exit ?_
  refine nmZ ?_
  refine AX.sR (rgCV [6] (aI cal oT)) ?_
  refine AX.ret ⟨.inl rfl, ?_⟩
  exact Done.one rfl rfl rfl rfl
end Go.Proofs.Ytogpimmcodaljaa
/- The law FactorMosts. -/
set_option linter.unusedVariables false
set_option linter.unusedSimpArgs false
namespace Go.Proofs.Ytogpimmcodaljaa
open Go Go.Proofs.Ytogpimmcodaljaa.Lift
attribute [local irreducible] Lift.PCall Lift.HCall
set_option maxHeartbeats 16000000 in
theorem factorMosts_bad (V0 W0 X0 : List V) (vs ws : List Int) (xs : List RT) (h1 : vs.length < 2 ^ 40) (h2 : ws.length < 2 ^ 40) (h3 : xs.length < 2 ^ 40) (hx : okX xs) (h : isF vs ws xs = false) (v : Int) (l : List Int) (hl : l.length < 2 ^ 62)
  (c1 : PCall Try.prog 8 [.agg [.sl V0, .sl W0, .sl X0]] (fV vs ws xs) []) : PCall Try.prog 4 [.agg [.sl V0, .sl W0, .sl X0], .i .i64 v, .sl (zl l)] (.b true) [] := by
 have c2 := fMost_not vs ws xs h1 h2 h3 hx h v
 have c3 := fright26_ok vs ws xs h1 h2 h3 hx
 rw [h] at c3
 have cal := lalive26_ok
 obtain ⟨n0, m0, l0, tt0, k0⟩ := fmin l 80
 have e0 := fHiZ l0
 rw [tt0] at e0
 have m0 : (if (80 : Int) < (l.length : Int) then (80 : Int) else (l.length : Int)) = (n0 : Int) := m0
 have hal : (zl l).length = l.length := zl_length l
 have hA80 : (l.take 80).length ≤ 80 := by rw [List.length_take]; omega
 generalize l.take 80 = a at *
 have eap := fun x y => fAppZ (l := a) (h := 1) (by omega) x y
 have hz0 := zl_length a
 have hzf := (zl_hf a).2
 unfold fV at *
 generalize zl vs = Vs at *
 generalize zl ws = As at *
 generalize xs.map fR = X at *
 generalize zl ([] : List Int) = E1 at *
 generalize ([] : List RT).map fR = E2 at *
 refine PCall.of_ax Try.call4 Try.func4 rfl (by simp [Try.ntmps4]) fun O w9 => ?_
 simp only [Try.ntmps4, Try.results4, argFr]
 refine AX.sR (rgAV [1, 2, 3]) ?_
 refine AX.sD (rgDEV [1, 2, 3] (aI @hal (aI @m0 (aI @hz0 (aI @hzf oT)))) (aI c1 oT) (aI e0 (aI eap oT))) ?_
 refine AX.sR (rgCV [1, 2, 3, 7, 8] (aI c2 oT)) ?_
 refine AX.seq ?_
 refine AX.sR (rgAV [1, 2, 3, 7, 8, 35]) ?_
 refine AX.condT ?_
 refine AX.sR (rgCV [6] (aI c3 (aI cal oT))) ?_
 refine AX.ret ⟨.inl rfl, ?_⟩
 exact Done.one rfl rfl rfl rfl
set_option maxHeartbeats 4000000 in
theorem factorMosts_ok (u0 w0 : List Int) (x0 : List RT) (v : Int) (l : List Int) (hu0 : u0.length < 2 ^ 62) (hw0 : w0.length < 2 ^ 62) (hx0 : x0.length < 2 ^ 62) (hd0 : ∀ x ∈ x0, Dg x.2.1 ∧ Dg x.2.2 ∧ x.2.1.length < 2 ^ 62 ∧ x.2.2.length < 2 ^ 62)
  (hv : -9223372036854775808 ≤ v ∧ v ≤ 9223372036854775807) (hl : l.length < 2 ^ 62) (hlb : ∀ j, j < l.length → -9223372036854775808 ≤ l.getD j 0 ∧ l.getD j 0 ≤ 9223372036854775807) :
  PCall Try.prog 4 [fV u0 w0 x0, .i .i64 v, .sl (zl l)] (.b true) [] := by
 obtain ⟨vf, wf, xf, sf, c1⟩ := ffew_ok u0 w0 x0 hu0 hw0 hx0 hd0
 have q1 := sf.v
 have q2 := sf.w
 have q3 := sf.l
 rcases sf.f with hbad | ⟨t, q, ht, hs, hq, rfl, rfl, rfl⟩
 ·exact factorMosts_bad _ _ _ vf wf xf (by omega) (by omega) (by omega) sf.okY.x hbad v l hl c1
 ·by_cases h0 : tz t v = 0
  ·exact factorMosts_core _ _ _ t q ht hq v hv l hl hlb t q c1 (fMost_none t q ht (fun k hk => Nat.le_trans (hq k hk) (by omega)) v hv h0) (fun i hi e => absurd h0 (tz_mem hi e))
  ·obtain ⟨w, rfl, hw, hw0, _⟩ := lt64 h0
   exact factorMosts_core _ _ _ t q ht hq w hv l hl hlb _ _ c1 (fMost_some t q ht 3 (by omega) (by omega) hq w hw hw0) (fun i hi e => by
    have e' : (vsT t).getD i 0 = w := by omega
    rw [e']
    exact ⟨rfl, rfl⟩)
end Go.Proofs.Ytogpimmcodaljaa
