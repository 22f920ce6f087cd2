/- Factors: the reference's tables (armsOf, table, over, place). -/
import Derived.Test.YtogpimmcodaljaaGreatFaE
set_option linter.unusedVariables false
set_option maxRecDepth 20000
set_option linter.unusedSimpArgs false
namespace Go.Proofs.YtogpimmcodaljaaGreat
open Go Go.Proofs.YtogpimmcodaljaaGreat.Lift
attribute [local irreducible] Lift.PCall Lift.HCall
def tb (G : Nat → Nat) : List V := zl (ci ((List.range 64).map G))
theorem tb_length (G : Nat → Nat) : (tb G).length = 64 := by
 unfold tb
 rw [zl_length, ci_length, List.length_map, List.length_range]
theorem tb_get {v : Nat} (G : Nat → Nat) (h : v < 64) : (tb G).getD v .junk = .i .i64 ((G v : Nat) : Int) := by
 unfold tb
 rw [zl_get (by rw [ci_length, List.length_map, List.length_range]; exact h), cast_get]
 simp [List.getD_eq_getElem?_getD, h]
theorem tb_congr {G H : Nat → Nat} (h : ∀ v, v < 64 → G v = H v) : tb G = tb H := by
 unfold tb
 rw [List.map_congr_left fun v hv => h v (by simpa using hv)]
theorem tb_set {v : Nat} (G : Nat → Nat) (x : Nat) (h : v < 64) : (tb G).set v (.i .i64 (x : Int)) = tb (updT G v x) := by
 apply List.ext_getElem?
 intro j
 by_cases hj : j < 64
 ·have h1 := tb_get (updT G v x) hj
  have h2 := tb_get G hj
  rw [List.getD_eq_getElem?_getD, List.getElem?_eq_getElem (by rw [tb_length]; exact hj)] at h1 h2
  rw [List.getElem?_set, tb_length, List.getElem?_eq_getElem (by rw [tb_length]; exact hj), List.getElem?_eq_getElem (by rw [tb_length]; exact hj)]
  have h1 : (tb (updT G v x))[j]'(by rw [tb_length]; exact hj) = .i .i64 ((updT G v x j : Nat) : Int) := h1
  have h2 : (tb G)[j]'(by rw [tb_length]; exact hj) = .i .i64 ((G j : Nat) : Int) := h2
  rw [h1, h2]
  by_cases e : v = j
  ·rw [if_pos e, if_pos h, ← e, updT_same]
  ·rw [if_neg e, updT_ne _ _ (fun h => e h.symm)]
 ·rw [List.getElem?_eq_none (by rw [List.length_set, tb_length]; omega), List.getElem?_eq_none (by rw [tb_length]; omega)]
theorem tb_take (G : Nat → Nat) : List.take 64 (tb G) = tb G := List.take_of_length_le (by rw [tb_length]; exact Nat.le_refl _)
theorem tb_take0 (G : Nat → Nat) : List.take 64 (List.drop 0 (tb G)) = tb G := tb_take G
theorem tb_hf (G : Nat → Nat) : V.hfL (tb G) = true ∧ (tb G).all V.flat = true := zl_hf _
theorem tb_flat (G : Nat → Nat) : (tb G).all V.flat = true := (zl_hf _).2
theorem tb_setR (G H : Nat → Nat) : setR (tb G) 0 (tb H) = tb H := by
 apply List.ext_getElem?
 intro j
 by_cases hj : j < 64
 ·have h := setR_get (tb H) (tb G) 0 j (by rw [tb_length, tb_length]; exact Nat.le_refl _)
  rw [if_pos ⟨Nat.zero_le _, by rw [tb_length]; omega⟩, Nat.sub_zero] at h
  rw [List.getD_eq_getElem?_getD, List.getD_eq_getElem?_getD, List.getElem?_eq_getElem (by rw [setR_length, tb_length]; exact hj), List.getElem?_eq_getElem (by rw [tb_length]; exact hj)] at h
  rw [List.getElem?_eq_getElem (by rw [setR_length, tb_length]; exact hj), List.getElem?_eq_getElem (by rw [tb_length]; exact hj)]
  exact congrArg some h
 ·rw [List.getElem?_eq_none (by rw [setR_length, tb_length]; omega), List.getElem?_eq_none (by rw [tb_length]; omega)]
theorem ren_tb (f : Nat → Nat) (G : Nat → Nat) : V.renL f (tb G) = tb G := ren_zl f _
theorem lt_tb (k : Nat) (G : Nat → Nat) : V.ltL k (tb G) = true := lt_zl k _
theorem tb_zero : zerosV 64 [V.i .i64 0] = tb fun _ => 0 := rfl
theorem fa_lay_tab : lay Tryz.prog 76 = some ⟨64, true, 512, tb fun _ => 0⟩ := by kernel_rfl
attribute [go_sem] Tryz.underlying76 fa_lay_tab
theorem leQ3 {g : Nat} {f : Nat → Nat} {st' st : St} (h1 : LeFr f st.fr st'.nx st'.fr := by simp only [ren_q, renL_u, ren_zl, ren_tb, lt_q, ltL_u, lt_zl, lt_tb, LeFr, LeHp, lkp, V.ren, V.renL, Row.ren, V.lt, V.ltL, renL_u, ltL_u, List.length_append, List.length_cons, List.length_nil, List.length_set, id_eq, Option.some.injEq, V.i.injEq, V.b.injEq, V.own.injEq, Row.mk.injEq, decide_true, decide_eq_true_eq, true_and, and_true, Bool.and_true, Bool.true_and, if_true, if_false, and_self, Nat.reduceLT, Nat.reduceLeDiff, Nat.reduceEqDiff, Nat.reduceAdd, Nat.reduceSub, Nat.reduceMul, Nat.reducePow, Nat.reduceBEq, Int.reduceLE, Int.reduceLT, Int.reduceToNat, Int.reduceEq, Int.reduceNeg, reduceIte, reduceCtorEq] <;> (first | done | trivial | (and_intros <;> first | trivial | omega | assumption)))
  (h2 : LeHp f st.hp st'.nx st'.hp := by simp only [ren_q, renL_u, ren_zl, ren_tb, lt_q, ltL_u, lt_zl, lt_tb, LeFr, LeHp, lkp, V.ren, V.renL, Row.ren, V.lt, V.ltL, renL_u, ltL_u, List.length_append, List.length_cons, List.length_nil, List.length_set, id_eq, Option.some.injEq, V.i.injEq, V.b.injEq, V.own.injEq, Row.mk.injEq, decide_true, decide_eq_true_eq, true_and, and_true, Bool.and_true, Bool.true_and, if_true, if_false, and_self, Nat.reduceLT, Nat.reduceLeDiff, Nat.reduceEqDiff, Nat.reduceAdd, Nat.reduceSub, Nat.reduceMul, Nat.reducePow, Nat.reduceBEq, Int.reduceLE, Int.reduceLT, Int.reduceToNat, Int.reduceEq, Int.reduceNeg, reduceIte, reduceCtorEq] <;> (first | done | trivial | (and_intros <;> first | trivial | omega | assumption)))
  (h3 : Apart f st'.hp := by simp [Apart]) (h4 : g ≤ st'.nx := by first | exact Nat.zero_le _ | simp) (h5 : ∀ n, n < g → f n = n := by intro n hn; first | rfl | exact absurd hn (Nat.not_lt_zero _) | (have h0 : n = 0 := Nat.lt_one_iff.1 hn; subst h0; rfl)) : Le g f st' st := ⟨h1, h2, h3, h4, h5⟩
theorem dnQ3 {P : Program} {rs : Array ResultVar} {vs : List V} {r v : V} {st : St} {hp : List (Nat × Row)} (h1 : resVs P st rs.toList = some vs := by simp (disch := omega) only [resVs, resV, go_sem, i64_of, u32_of, u64_of, Nat.reduceLT, Nat.reduceLeDiff, Nat.reduceEqDiff, Nat.reduceAdd, Nat.reduceSub, Nat.reduceMul, Nat.reducePow, Nat.reduceBEq, Int.reduceLE, Int.reduceLT, Int.reduceToNat, Int.reduceEq, Int.reduceNeg, reduceIte, reduceCtorEq]; rfl) (h2 : frz [] (packV vs) st.hp = some (v, hp) := by simp only [packV, frz, frzL]; rfl) (h : v = r := by rfl)
  (h3 : r.lt 0 = true := by simp only [V.lt, V.ltL, ltL_u, lt_q, ltL_u, lt_zl, lt_tb]; first | done | rfl) (h4 : r.ren id = r := by simp only [V.ren, V.renL, renL_u, ren_q, renL_u, ren_zl, ren_tb]; first | done | rfl) : Done P rs r [] st := Lift.Done.of h1 h2 h h3 h4
theorem okFrz_z (l : List Int) : okFrz 0 l.length 1 (zl l) = true := by
 unfold okFrz
 have e : ((zl l).drop 0).take (l.length * 1) = zl l := by rw [List.drop_zero, Nat.mul_one]; exact List.take_of_length_le (by rw [zl_length]; exact Nat.le_refl _)
 rw [e, (zl_hf l).1, (zl_hf l).2, zl_length]
 simp
theorem chunks_z (l : List Int) : chunks 1 l.length ((List.drop 0 (zl l)).take (l.length * 1)) = zl l := by
 unfold chunks
 rw [if_pos rfl, List.drop_zero, Nat.mul_one]
 exact List.take_of_length_le (by rw [zl_length]; exact Nat.le_refl _)
def tz (t : Nat → Nat) (v : Int) : Nat := if 0 ≤ v ∧ v < 64 then t v.toNat else 0
theorem tz_at {t : Nat → Nat} {i : Nat} (h : i < (vsT t).length) : tz t ((vsT t).getD i 0 : Nat) = t ((vsT t).getD i 0) := by
 have := (vsT_get h).1
 unfold tz
 rw [if_pos ⟨by omega, by omega⟩, Int.toNat_natCast]
theorem tz_no {t : Nat → Nat} {v : Int} (h : ∀ i, i < (vsT t).length → (((vsT t).getD i 0 : Nat) : Int) ≠ v) : tz t v = 0 := by
 unfold tz
 split
 ·rename_i hv
  apply Classical.byContradiction
  intro h0
  obtain ⟨i, hi, e⟩ := mem_getD0 (vsT_mem.2 ⟨(by omega : v.toNat < 64), h0⟩)
  exact h i hi (by omega)
 ·rfl
set_option maxHeartbeats 8000000 in
theorem farms_ok (t : Nat → Nat) (X : List V) (ht : ∀ v, t v ≤ 64) (v : Int) (hv : -9223372036854775808 ≤ v ∧ v ≤ 9223372036854775807) : PCall Tryz.prog 34 [.agg [.sl (zl (ci (vsT t))), .sl (zl (ci (asT t))), .sl X], .i .i64 v] (.i .i64 (tz t v)) [] := by
 have hm := vsT_len t
 have hzv : (zl (ci (vsT t))).length = (vsT t).length := zn_length _
 have hza : (zl (ci (asT t))).length = (vsT t).length := (zn_length _).trans (asT_len t)
 have hgv := fun j (hj : j < (vsT t).length) => show (zl (ci (vsT t))).getD j .junk = .i .i64 (((vsT t).getD j 0 : Nat) : Int) from zn_get hj
 have hga := fun j (hj : j < (vsT t).length) => show (zl (ci (asT t))).getD j .junk = .i .i64 ((t ((vsT t).getD j 0) : Nat) : Int) from (zn_get (by rw [asT_len]; exact hj)).trans (by rw [asT_get hj])
 have hyes : ∀ i, i < (vsT t).length → (((vsT t).getD i 0 : Nat) : Int) = v → tz t v = t ((vsT t).getD i 0) := fun i hi e => by rw [← e]; exact tz_at hi
 have hno : (∀ i, i < (vsT t).length → (((vsT t).getD i 0 : Nat) : Int) ≠ v) → tz t v = 0 := tz_no
 generalize tz t v = w at *
 generalize zl (ci (vsT t)) = Vs at *
 generalize zl (ci (asT t)) = As at *
 refine PCall.of_ax Tryz.call34 Tryz.func34 rfl (by simp [Tryz.ntmps34]) fun O w0 => ?_
 simp only [Tryz.ntmps34, Tryz.results34, argFr]
 refine AX.sR (rgAV [1, 2]) ?_
 refine AX.seq ?_
 refine AX.sR (rgWV [1, 2, 8, 9, 10] (aI @hzv oT) oT) ?_
 refine AX.weaken id (st' := ⟨[(10, .i .i64 (0 : Nat)), (9, .i .i64 (vsT t).length), (8, .sl Vs), (2, .ptr 0 0), (1, .i .i64 v)], [(0, ⟨30, [.sl Vs, .sl As, .sl X]⟩)], 1⟩)
  leQ3
  ?_
 refine AX.block ?_
 refine AX.loop (fun N st => ∃ i : Nat, i ≤ (vsT t).length ∧ N = (vsT t).length - i ∧ (∀ j, j < i → (((vsT t).getD j 0 : Nat) : Int) ≠ v) ∧ st = ⟨[(10, .i .i64 i), (9, .i .i64 (vsT t).length), (8, .sl Vs), (2, .ptr 0 0), (1, .i .i64 v)], [(0, ⟨30, [.sl Vs, .sl As, .sl X]⟩)], 1⟩) (vsT t).length ⟨0, Nat.zero_le _, rfl, fun j hj => absurd hj (Nat.not_lt_zero _), rfl⟩ ?_
 rintro N st ⟨i, hi, rfl, hp, rfl⟩
 by_cases h1 : i < (vsT t).length
 ·have g1 := hgv i h1
  have g2 := hga i h1
  have hy := hyes i h1
  have hp' : (((vsT t).getD i 0 : Nat) : Int) ≠ v → ∀ j, j < i + 1 → (((vsT t).getD j 0 : Nat) : Int) ≠ v := fun hb j hj => by
   by_cases e : j = i
   ·rw [e]; exact hb
   ·exact hp j (by omega)
  have b1 := (vsT_get h1).1
  have b2 := ht ((vsT t).getD i 0)
  clear hp hgv hga hyes hno
  generalize t ((vsT t).getD i 0) = k at *
  generalize (vsT t).getD i 0 = d at g1 hy hp' b1
  refine AX.sR (rgAV [1, 2, 8, 9, 10, 11]) ?_
  refine AX.seq ?_
  refine AX.condT ?_
  refine AX.keepA [1, 2, 8, 9, 10] ?_
  refine AX.skip ?_
  refine nmZ ?_
  refine AX.seq ?_
  refine AX.block ?_
  refine AX.sR (rgWV [1, 2, 5, 6, 8, 9, 10] (aI @hzv (aI @g1 oT)) oT) ?_
  by_cases e : (d : Int) = v
  ·obtain rfl := hy e
   subst e
   refine AX.sR (rgAV [1, 2, 5, 8, 9, 10, 17]) ?_
   refine AX.condT ?_
   refine AX.sR (rgWV [4] (aI @hza (aI @g2 oT)) oT) ?_
   refine AX.ret ⟨.inl rfl, ?_⟩
   exact Done.one rfl rfl rfl rfl
  ·have hp'' := hp' e
   refine AX.sR (rgWV [1, 2, 5, 8, 9, 10, 17] (aI @e oT) oT) ?_
   refine AX.condF ?_
   refine AX.keepA [1, 2, 8, 9, 10] ?_
   refine AX.skip ?_
   refine nmZ ?_
   refine AX.rR (rgWV [1, 2, 8, 9, 10] (aI @lit_add oT) oT) ?_
   refine nmZ ?_
   refine ⟨_, _, id, ?_,
    leQ3
    , ⟨i + 1, by omega, rfl, hp'', rfl⟩⟩
   omega
 ·obtain rfl : i = (vsT t).length := by omega
  obtain rfl := hno hp
  refine AX.sR (rgAV [1, 2, 8, 9, 10, 11]) ?_
  refine AX.seq ?_
  refine AX.condF ?_
  refine AX.exit ?_
  refine nmZ ?_
  refine AX.sR (rgAV [4]) ?_
  refine AX.ret ⟨.inl rfl, ?_⟩
  exact Done.one rfl rfl rfl rfl
def tabI (l : List Nat) (t : Nat → Nat) : Nat → Nat → Nat
 | 0 => fun _ => 0
 | i + 1 => updT (tabI l t i) (l.getD i 0) (t (l.getD i 0))
theorem tabI_eq {l : List Nat} {t : Nat → Nat} : ∀ i u, tabI l t i u = t u ∨ (tabI l t i u = 0 ∧ ∀ j, j < i → l.getD j 0 ≠ u)
 | 0, u => .inr ⟨rfl, fun j hj => absurd hj (Nat.not_lt_zero _)⟩
 | i + 1, u => by
  show updT _ _ _ u = _ ∨ (updT _ _ _ u = _ ∧ _)
  by_cases e : u = l.getD i 0
  ·rw [e, updT_same]; exact .inl rfl
  ·rw [updT_ne _ _ e]
   rcases tabI_eq i u with h | ⟨h, h'⟩
   ·exact .inl h
   ·refine .inr ⟨h, fun j hj => ?_⟩
    by_cases ej : j = i
    ·rw [ej]; exact fun h => e h.symm
    ·exact h' j (by omega)
theorem tabI_end (t : Nat → Nat) : tb (tabI (vsT t) t (vsT t).length) = tb t := tb_congr fun v hv => by
 rcases tabI_eq (l := vsT t) (t := t) (vsT t).length v with h | ⟨h, h'⟩
 ·exact h
 ·rw [h]
  apply Eq.symm
  apply Classical.byContradiction
  intro h0
  obtain ⟨i, hi, e⟩ := mem_getD0 (vsT_mem.2 ⟨hv, h0⟩)
  exact h' i hi e
set_option maxHeartbeats 8000000 in
theorem ftable_ok (t : Nat → Nat) (X : List V) (ht : ∀ v, t v ≤ 64) : PCall Tryz.prog 53 [.agg [.sl (zl (ci (vsT t))), .sl (zl (ci (asT t))), .sl X]] (.agg (tb t)) [] := by
 have hm := vsT_len t
 have hzv : (zl (ci (vsT t))).length = (vsT t).length := zn_length _
 have hza : (zl (ci (asT t))).length = (vsT t).length := (zn_length _).trans (asT_len t)
 have hgv := fun j (hj : j < (vsT t).length) => show (zl (ci (vsT t))).getD j .junk = .i .i64 (((vsT t).getD j 0 : Nat) : Int) from zn_get hj
 have hga := fun j (hj : j < (vsT t).length) => show (zl (ci (asT t))).getD j .junk = .i .i64 ((t ((vsT t).getD j 0) : Nat) : Int) from (zn_get (by rw [asT_len]; exact hj)).trans (by rw [asT_get hj])
 have hend := tabI_end t
 generalize zl (ci (vsT t)) = Vs at *
 generalize zl (ci (asT t)) = As at *
 refine PCall.of_ax Tryz.call53 Tryz.func53 rfl (by simp [Tryz.ntmps53]) fun O w0 => ?_
 simp only [Tryz.ntmps53, Tryz.results53, argFr]
 refine AX.sR (rgAV [1, 2]) ?_
 refine AX.sR (rgAV [1, 2, 3]) ?_
 refine AX.seq ?_
 refine AX.sR (rgWV [1, 2, 3, 7, 8, 9] (aI @hzv oT) oT) ?_
 refine AX.weaken id (st' := ⟨[(9, .i .i64 (0 : Nat)), (8, .i .i64 (vsT t).length), (7, .sl Vs), (3, .ptr 2 0), (2, .ptr 1 0), (1, .ptr 0 0)], [(2, ⟨76, tb (tabI (vsT t) t 0)⟩), (1, ⟨76, tb fun _ => 0⟩), (0, ⟨30, [.sl Vs, .sl As, .sl X]⟩)], 3⟩)
  ⟨by simp only [ren_q, renL_u, ren_zl, ren_tb, lt_q, ltL_u, lt_zl, lt_tb, LeFr, LeHp, lkp, V.ren, V.renL, Row.ren, V.lt, V.ltL, renL_u, ltL_u, List.length_append, List.length_cons, List.length_nil, List.length_set, id_eq, Option.some.injEq, V.i.injEq, V.b.injEq, V.own.injEq, Row.mk.injEq, decide_true, decide_eq_true_eq, true_and, and_true, Bool.and_true, Bool.true_and, if_true, if_false, and_self, Nat.reduceLT, Nat.reduceLeDiff, Nat.reduceEqDiff, Nat.reduceAdd, Nat.reduceSub, Nat.reduceMul, Nat.reducePow, Nat.reduceBEq, Int.reduceLE, Int.reduceLT, Int.reduceToNat, Int.reduceEq, Int.reduceNeg, reduceIte, reduceCtorEq] <;> (first | done | trivial | (and_intros <;> first | trivial | omega | (rfl))), by simp only [ren_q, renL_u, ren_zl, ren_tb, lt_q, ltL_u, lt_zl, lt_tb, LeFr, LeHp, lkp, V.ren, V.renL, Row.ren, V.lt, V.ltL, renL_u, ltL_u, List.length_append, List.length_cons, List.length_nil, List.length_set, id_eq, Option.some.injEq, V.i.injEq, V.b.injEq, V.own.injEq, Row.mk.injEq, decide_true, decide_eq_true_eq, true_and, and_true, Bool.and_true, Bool.true_and, if_true, if_false, and_self, Nat.reduceLT, Nat.reduceLeDiff, Nat.reduceEqDiff, Nat.reduceAdd, Nat.reduceSub, Nat.reduceMul, Nat.reducePow, Nat.reduceBEq, Int.reduceLE, Int.reduceLT, Int.reduceToNat, Int.reduceEq, Int.reduceNeg, reduceIte, reduceCtorEq] <;> (first | done | trivial | (and_intros <;> first | trivial | omega | (rfl))), by simp [Apart], by first | exact Nat.zero_le _ | simp, by intro n hn; first | rfl | exact absurd hn (Nat.not_lt_zero _) | (have h0 : n = 0 := Nat.lt_one_iff.1 hn; subst h0; rfl)⟩
  ?_
 refine AX.block ?_
 refine AX.loop (fun N st => ∃ (i : Nat) (G : Nat → Nat), i ≤ (vsT t).length ∧ N = (vsT t).length - i ∧ tabI (vsT t) t i = G ∧ st = ⟨[(9, .i .i64 i), (8, .i .i64 (vsT t).length), (7, .sl Vs), (3, .ptr 2 0), (2, .ptr 1 0), (1, .ptr 0 0)], [(2, ⟨76, tb G⟩), (1, ⟨76, tb fun _ => 0⟩), (0, ⟨30, [.sl Vs, .sl As, .sl X]⟩)], 3⟩) (vsT t).length ⟨0, _, Nat.zero_le _, rfl, rfl, rfl⟩ ?_
 rintro N st ⟨i, G, hi, rfl, hG, rfl⟩
 by_cases h1 : i < (vsT t).length
 ·have g1 := hgv i h1
  have g2 := hga i h1
  have b1 := (vsT_get h1).1
  have b2 := ht ((vsT t).getD i 0)
  have hnx : tabI (vsT t) t (i + 1) = updT G ((vsT t).getD i 0) (t ((vsT t).getD i 0)) := by rw [← hG]; rfl
  have hset := tb_set G (t ((vsT t).getD i 0)) b1
  have hl := tb_length G
  clear hgv hga hend
  generalize t ((vsT t).getD i 0) = k at *
  generalize (vsT t).getD i 0 = d at g1 b1 hnx hset
  obtain ⟨G', hG'⟩ : ∃ G', updT G d k = G' := ⟨_, rfl⟩
  rw [hG'] at hnx hset
  refine AX.sR (rgAV [1, 2, 3, 7, 8, 9, 10]) ?_
  refine AX.seq ?_
  refine AX.condT ?_
  refine AX.keepA [1, 2, 3, 7, 8, 9] ?_
  refine AX.skip ?_
  refine nmZ ?_
  refine AX.seq ?_
  refine AX.block ?_
  refine AX.sR (rgWV [1, 2, 3, 4, 5, 7, 8, 9] (aI @hzv (aI @g1 oT)) oT) ?_
  refine AX.rR (rgWV [1, 2, 3, 7, 8, 9] (aI @hza (aI @g2 (aI @hl oT))) oT) ?_
  refine nmZ ?_
  rw [hset]
  refine AX.rR (rgWV [1, 2, 3, 7, 8, 9] (aI @lit_add oT) oT) ?_
  refine nmZ ?_
  refine ⟨_, _, id, ?_,
   leQ3
   , ⟨i + 1, G', by omega, rfl, hnx, rfl⟩⟩
  omega
 ·obtain rfl : i = (vsT t).length := by omega
  rw [hG] at hend
  refine AX.sR (rgAV [1, 2, 3, 7, 8, 9, 10]) ?_
  refine AX.seq ?_
  refine AX.condF ?_
  refine AX.exit ?_
  refine nmZ ?_
  rw [hend]
  refine AX.sR (rgWV [2] (aI @tb_take (aI @tb_take0 (aI @tb_flat (aI @tb_length (aI @tb_setR oT))))) oT) ?_
  refine AX.ret ⟨.inl rfl, ?_⟩
  exact Done.of (by simp (disch := omega) only [resVs, resV, go_sem, i64_of, u32_of, u64_of, Nat.reduceLT, Nat.reduceLeDiff, Nat.reduceEqDiff, Nat.reduceAdd, Nat.reduceSub, Nat.reduceMul, Nat.reducePow, Nat.reduceBEq, Int.reduceLE, Int.reduceLT, Int.reduceToNat, Int.reduceEq, Int.reduceNeg, reduceIte, reduceCtorEq, tb_take, tb_take0, tb_length, tb_hf]; rfl) (by simp only [packV, frz, frzL]; rfl) rfl (by simp only [V.lt, V.ltL, ltL_u, lt_q, ltL_u, lt_zl, lt_tb]; first | done | rfl) (by simp only [V.ren, V.renL, renL_u, ren_q, renL_u, ren_zl, ren_tb]; first | done | rfl)
def voI (t : Nat → Nat) (v : Nat) : List Nat := (List.range v).filter fun u => decide (t u ≠ 0)
theorem voI_succ (t : Nat → Nat) (v : Nat) : voI t (v + 1) = if t v ≠ 0 then voI t v ++ [v] else voI t v := by
 unfold voI
 rw [List.range_succ, List.filter_append]
 by_cases h : t v = 0
 ·rw [if_neg (fun h' => h' h)]
  simp [h]
 ·rw [if_pos h]
  simp [h]
theorem voI_len (t : Nat → Nat) (v : Nat) : (voI t v).length ≤ v := by
 have := List.length_filter_le (fun u => decide (t u ≠ 0)) (List.range v)
 rwa [List.length_range] at this
theorem Lift.Done.facO {st : St} {t : Tmp} {h h2 K : Nat} {T T' T2 : TypeId} {z z1 z2 : List V} {xs : List Rat} (hL : lay Tryz.prog T' = some ⟨3, true, 72, z⟩) (h1 : lkp st.fr t = some (.ptr h 0)) (g1 : lkp st.hp h = some ⟨T, [.sl z1, .sl z2, .own h2 0 K 3]⟩) (g2 : lkp st.hp h2 = some ⟨T2, qrow xs⟩) :
  Done Tryz.prog #[.cell t T'] (.agg [.sl z1, .sl z2, .own 0 0 K 3]) [⟨T2, qrow xs⟩] st := by
 refine ⟨[.agg [.sl z1, .sl z2, .own h2 0 K 3]], ?_, [h2], fun _ => h2, .agg [.sl z1, .sl z2, .own h2 0 K 3], st.hp, ?_, ?_, ?_, ?_, ?_⟩
 ·simp only [resVs, resV, h1, g1, hL]; rfl
 ·simp only [packV, frz, frzL, List.mem_singleton, if_true]
 ·simp only [V.ren, V.renL]
 ·simp only [V.lt, V.ltL]; rfl
 ·intro h q hq
  match h, hq with
  | 0, hq =>
   cases hq
   refine ⟨?_, lt_q _ _⟩
   rw [g2]
   simp only [Row.ren, ren_q]
 ·intro a b ha hb _
  simp at ha hb
  omega
theorem rep1 (x : V) : List.replicate 1 x = [x] := rfl
set_option maxHeartbeats 16000000 in
theorem fover_ok (t : Nat → Nat) (ht : ∀ v, t v ≤ 64) : PCall Tryz.prog 54 [.agg (tb t)] (.agg [.sl (zl (ci (vsT t))), .sl (zl (ci (asT t))), .own 0 0 (0 : Nat) 3]) [⟨38, qrow []⟩] := by
 have hl := tb_length t
 have hg := fun v (hv : v < 64) => tb_get t hv
 have htk := tb_take t
 have htf := tb_flat t
 refine PCall.of_ax Tryz.call54 Tryz.func54 rfl (by simp [Tryz.ntmps54]) fun O w0 => ?_
 simp only [Tryz.ntmps54, Tryz.results54, argFr]
 refine AX.sR (rgAV [1, 2]) ?_
 refine AX.sR (rgAV [1, 2, 3]) ?_
 refine AX.own0c 2 0 3 1 rfl rfl (by show 0 < 3; decide) ?_
 refine AX.own0c 2 1 3 1 rfl rfl (by show 1 < 3; decide) ?_
 refine AX.own0c 2 2 38 3 rfl rfl (by show 2 < 3; decide) ?_
 refine AX.seq ?_
 refine AX.sR (rgWV [2, 3, 7, 8] (aI @hl (aI @htk oT)) oT) ?_
 refine AX.weaken id (st' := ⟨[(8, .i .i64 (0 : Nat)), (7, .agg (tb t)), (3, .ptr 2 0), (2, .ptr 1 0)], [(5, ⟨38, qrow []⟩), (4, ⟨3, zl (ci ((voI t 0).map t))⟩), (3, ⟨3, zl (ci (voI t 0))⟩), (2, ⟨30, [.own 3 0 (0 : Nat) 1, .own 4 0 (0 : Nat) 1, .own 5 0 (0 : Nat) 3]⟩), (1, ⟨30, [.nl, .nl, .nl]⟩)], 6⟩)
  ⟨by simp only [ren_q, renL_u, ren_zl, ren_tb, lt_q, ltL_u, lt_zl, lt_tb, LeFr, LeHp, lkp, V.ren, V.renL, Row.ren, V.lt, V.ltL, renL_u, ltL_u, List.length_append, List.length_cons, List.length_nil, List.length_set, id_eq, Option.some.injEq, V.i.injEq, V.b.injEq, V.own.injEq, Row.mk.injEq, decide_true, decide_eq_true_eq, true_and, and_true, Bool.and_true, Bool.true_and, if_true, if_false, and_self, Nat.reduceLT, Nat.reduceLeDiff, Nat.reduceEqDiff, Nat.reduceAdd, Nat.reduceSub, Nat.reduceMul, Nat.reducePow, Nat.reduceBEq, Int.reduceLE, Int.reduceLT, Int.reduceToNat, Int.reduceEq, Int.reduceNeg, reduceIte, reduceCtorEq] <;> (first | done | trivial | (and_intros <;> first | trivial | omega | (rfl))), by simp only [ren_q, renL_u, ren_zl, ren_tb, lt_q, ltL_u, lt_zl, lt_tb, LeFr, LeHp, lkp, V.ren, V.renL, Row.ren, V.lt, V.ltL, renL_u, ltL_u, List.length_append, List.length_cons, List.length_nil, List.length_set, id_eq, Option.some.injEq, V.i.injEq, V.b.injEq, V.own.injEq, Row.mk.injEq, decide_true, decide_eq_true_eq, true_and, and_true, Bool.and_true, Bool.true_and, if_true, if_false, and_self, Nat.reduceLT, Nat.reduceLeDiff, Nat.reduceEqDiff, Nat.reduceAdd, Nat.reduceSub, Nat.reduceMul, Nat.reducePow, Nat.reduceBEq, Int.reduceLE, Int.reduceLT, Int.reduceToNat, Int.reduceEq, Int.reduceNeg, reduceIte, reduceCtorEq] <;> (first | done | trivial | (and_intros <;> first | trivial | omega | (rfl))), by simp [Apart], by first | exact Nat.zero_le _ | simp, by intro n hn; first | rfl | exact absurd hn (Nat.not_lt_zero _) | (have h0 : n = 0 := Nat.lt_one_iff.1 hn; subst h0; rfl)⟩
  ?_
 refine AX.block ?_
 refine AX.loop (fun N st => ∃ (v K : Nat) (l1 l2 : List Int), v ≤ 64 ∧ N = 64 - v ∧ l1 = ci (voI t v) ∧ l2 = ci ((voI t v).map t) ∧ K = (voI t v).length ∧ st = ⟨[(8, .i .i64 v), (7, .agg (tb t)), (3, .ptr 2 0), (2, .ptr 1 0)], [(5, ⟨38, qrow []⟩), (4, ⟨3, zl l2⟩), (3, ⟨3, zl l1⟩), (2, ⟨30, [.own 3 0 K 1, .own 4 0 K 1, .own 5 0 (0 : Nat) 3]⟩), (1, ⟨30, [.nl, .nl, .nl]⟩)], 6⟩) 64 ⟨0, _, _, _, Nat.zero_le _, rfl, rfl, rfl, rfl, rfl⟩ ?_
 rintro N st ⟨v, K, l1, l2, hv, rfl, hl1, hl2, hK, rfl⟩
 have hK64 : K ≤ 64 := by rw [hK]; exact Nat.le_trans (voI_len t v) hv
 have n1 : (zl l1).length = K := by rw [zl_length, hl1, ci_length, hK]
 have n2 : (zl l2).length = K := by rw [zl_length, hl2, ci_length, List.length_map, hK]
 by_cases h1 : v < 64
 ·have g1 := hg v h1
  have b1 := ht v
  have f1 := (zl_hf l1).2
  have f2 := (zl_hf l2).2
  refine AX.sR (rgAV [2, 3, 7, 8, 9]) ?_
  refine AX.seq ?_
  refine AX.condT ?_
  refine AX.keepA [2, 3, 7, 8] ?_
  refine AX.skip ?_
  refine nmZ ?_
  refine AX.seq ?_
  refine AX.block ?_
  by_cases h0 : t v = 0
  ·have e1 : l1 = ci (voI t (v + 1)) := by rw [voI_succ, if_neg (fun h => h h0)]; exact hl1
   have e2 : l2 = ci ((voI t (v + 1)).map t) := by rw [voI_succ, if_neg (fun h => h h0)]; exact hl2
   have e3 : K = (voI t (v + 1)).length := by rw [voI_succ, if_neg (fun h => h h0)]; exact hK
   rw [h0] at g1
   refine AX.sR (rgWV [2, 3, 4, 5, 7, 8] (aI @hl (aI @g1 oT)) oT) ?_
   refine AX.sR (rgAV [2, 3, 4, 5, 7, 8, 13]) ?_
   refine AX.condF ?_
   refine AX.keepA [2, 3, 7, 8] ?_
   refine AX.skip ?_
   refine nmZ ?_
   refine AX.rR (rgWV [2, 3, 7, 8] (aI @lit_add oT) oT) ?_
   refine nmZ ?_
   refine ⟨_, _, id, ?_,
    leQ3
    , ⟨v + 1, K, l1, l2, by omega, rfl, e1, e2, e3, rfl⟩⟩
   omega
  ·have e1 : l1 ++ [(v : Int)] = ci (voI t (v + 1)) := by rw [voI_succ, if_pos h0, hl1]; simp [ci]
   have e2 : l2 ++ [((t v : Nat) : Int)] = ci ((voI t (v + 1)).map t) := by rw [voI_succ, if_pos h0, hl2]; simp [ci]
   have e3 : K + 1 = (voI t (v + 1)).length := by rw [voI_succ, if_pos h0, hK]; simp
   have a1 := zl_app l1 (v : Int)
   have a2 := zl_app l2 ((t v : Nat) : Int)
   have hpos : 0 < t v := Nat.pos_of_ne_zero h0
   clear hg hl1 hl2 hK
   generalize t v = k at *
   refine AX.sR (rgWV [2, 3, 4, 5, 7, 8] (aI @hl (aI @g1 oT)) oT) ?_
   refine AX.sR (rgAV [2, 3, 4, 5, 7, 8, 13]) ?_
   refine AX.condT ?_
   refine AX.rD (rgDWV [2, 3, 7, 8] (aI @n1 (aI @n2 (aI @f1 (aI @f2 (aI @rep1 (aI @tkS (aI @tk0 oT))))))) oT) ?_
   refine nmZ ?_
   rw [a1, a2]
   refine AX.rR (rgWV [2, 3, 7, 8] (aI @lit_add oT) oT) ?_
   refine nmZ ?_
   refine ⟨_, _, fun n => if n = 3 then 7 else if n = 4 then 9 else n, ?_,
    leQ3
    , ⟨v + 1, K + 1, _, _, by omega, rfl, e1, e2, e3, rfl⟩⟩
   omega
 ·obtain rfl : v = 64 := by omega
  have hl1 : l1 = ci (vsT t) := hl1
  have hl2 : l2 = ci (asT t) := hl2
  have k1 : K = l1.length := by rw [hl1, ci_length, hK]; rfl
  have k2 : K = l2.length := by rw [hl2, ci_length, asT_len, hK]; rfl
  rw [← hl1, ← hl2]
  clear hl1 hl2 hK
  have o1 : okFrz 0 K 1 (zl l1) = true := by rw [k1]; exact okFrz_z l1
  have o2 : okFrz 0 K 1 (zl l2) = true := by rw [k2]; exact okFrz_z l2
  have c1 : chunks 1 K ((List.drop 0 (zl l1)).take (K * 1)) = zl l1 := by rw [k1]; exact chunks_z l1
  have c2 : chunks 1 K ((List.drop 0 (zl l2)).take (K * 1)) = zl l2 := by rw [k2]; exact chunks_z l2
  refine AX.sR (rgAV [2, 3, 7, 8, 9]) ?_
  refine AX.seq ?_
  refine AX.condF ?_
  refine AX.exit ?_
  refine nmZ ?_
  refine AX.keepA [2, 3] ?_
  refine AX.fz 3 (fr' := [(2, .ptr 1 0), (3, .ptr 2 0)]) (hp' := [(5, ⟨38, qrow []⟩), (4, ⟨3, zl l2⟩), (2, ⟨30, [.sl (zl l1), .own 4 0 K 1, .own 5 0 (0 : Nat) 3]⟩), (1, ⟨30, [.nl, .nl, .nl]⟩)]) rfl (zl_hf l1).1 (.cons rfl .same (.cons rfl .same .nil)) (.keep (by decide) rfl (.keep (by decide) rfl (.cons (by decide) rfl rfl rfl (fun t ht => ?_) (.keep (by decide) rfl .nil)))) ?_
  ·have : t = 0 ∨ t = 1 ∨ t = 2 := by simp at ht; omega
   rcases this with rfl | rfl | rfl
   ·exact .own o1 c1
   ·exact .same
   ·exact .same
  refine AX.fz 4 (fr' := [(2, .ptr 1 0), (3, .ptr 2 0)]) (hp' := [(5, ⟨38, qrow []⟩), (2, ⟨30, [.sl (zl l1), .sl (zl l2), .own 5 0 (0 : Nat) 3]⟩), (1, ⟨30, [.nl, .nl, .nl]⟩)]) rfl (zl_hf l2).1 (.cons rfl .same (.cons rfl .same .nil)) (.keep (by decide) rfl (.cons (by decide) rfl rfl rfl (fun t ht => ?_) (.keep (by decide) rfl .nil))) ?_
  ·have : t = 0 ∨ t = 1 ∨ t = 2 := by simp at ht; omega
   rcases this with rfl | rfl | rfl
   ·exact .same
   ·exact .own o2 c2
   ·exact .same
  generalize zl l1 = Z1 at *
  generalize zl l2 = Z2 at *
  refine AX.sR (rgAV [2]) ?_
  refine AX.ret ⟨.inl rfl, ?_⟩
  exact Done.facO fa_lay_fac26 rfl rfl rfl
theorem Lift.Done.ownT {P : Program} {st : St} {t : Tmp} {h K E : Nat} {G : Nat → Nat} {T : TypeId} (h1 : lkp st.fr t = some (.own h 0 K E)) (h2 : lkp st.hp h = some ⟨T, tb G⟩) : Done P #[.tmp t] (.own 0 0 K E) [⟨T, tb G⟩] st := by
 refine ⟨[.own h 0 K E], ?_, [h], fun _ => h, .own h 0 K E, st.hp, ?_, ?_, ?_, ?_, ?_⟩
 ·simp only [resVs, resV, h1]
 ·simp only [packV, frz, List.mem_singleton, if_true]
 ·simp only [V.ren]
 ·simp only [V.lt]; rfl
 ·intro h q hq
  match h, hq with
  | 0, hq =>
   cases hq
   refine ⟨?_, lt_tb _ _⟩
   rw [h2]
   simp only [Row.ren, ren_tb]
 ·intro a b ha hb _
  simp at ha hb
  omega
set_option maxHeartbeats 16000000 in
theorem fplace26_ok (t : Nat → Nat) (ht : ∀ v, t v ≤ 64) (n : Nat) (hn : n ≤ 4096) : PCall Tryz.prog 55 [.agg [.sl (zl (ci (vsT t))), .sl (zl (ci (asT t))), .junk], .i .i64 n] (.own 0 0 64 1) [⟨3, tb (deT t n)⟩] := by
 have hm := vsT_len t
 have hzv : (zl (ci (vsT t))).length = (vsT t).length := zn_length _
 have hza : (zl (ci (asT t))).length = (vsT t).length := (zn_length _).trans (asT_len t)
 have hgv := fun j (hj : j < (vsT t).length) => show (zl (ci (vsT t))).getD j .junk = .i .i64 (((vsT t).getD j 0 : Nat) : Int) from zn_get hj
 have hga := fun j (hj : j < (vsT t).length) => show (zl (ci (asT t))).getD j .junk = .i .i64 ((t ((vsT t).getD j 0) : Nat) : Int) from (zn_get (by rw [asT_len]; exact hj)).trans (by rw [asT_get hj])
 unfold deT
 generalize zl (ci (vsT t)) = Vs at *
 generalize zl (ci (asT t)) = As at *
 refine PCall.of_ax Tryz.call55 Tryz.func55 rfl (by simp [Tryz.ntmps55]) fun O w0 => ?_
 simp only [Tryz.ntmps55, Tryz.results55, argFr]
 refine AX.sR (rgAV [1, 2]) ?_
 refine AX.sR (rgWV [1, 2, 5] (aI @tb_zero oT) oT) ?_
 refine AX.seq ?_
 refine AX.sR (rgWV [1, 2, 5, 6] (aI @hzv oT) oT) ?_
 refine AX.weaken id (st' := ⟨[(6, .i .i64 ((vsT t).length - 1)), (5, .own 1 0 64 1), (2, .ptr 0 0), (1, .i .i64 n)], [(1, ⟨3, tb fun _ => 0⟩), (0, ⟨30, [.sl Vs, .sl As, .junk]⟩)], 2⟩)
  ⟨by simp only [ren_q, renL_u, ren_zl, ren_tb, lt_q, ltL_u, lt_zl, lt_tb, LeFr, LeHp, lkp, V.ren, V.renL, Row.ren, V.lt, V.ltL, renL_u, ltL_u, List.length_append, List.length_cons, List.length_nil, List.length_set, id_eq, Option.some.injEq, V.i.injEq, V.b.injEq, V.own.injEq, Row.mk.injEq, decide_true, decide_eq_true_eq, true_and, and_true, Bool.and_true, Bool.true_and, if_true, if_false, and_self, Nat.reduceLT, Nat.reduceLeDiff, Nat.reduceEqDiff, Nat.reduceAdd, Nat.reduceSub, Nat.reduceMul, Nat.reducePow, Nat.reduceBEq, Int.reduceLE, Int.reduceLT, Int.reduceToNat, Int.reduceEq, Int.reduceNeg, reduceIte, reduceCtorEq] <;> (first | done | trivial | (and_intros <;> first | trivial | omega | (rfl))), by simp only [ren_q, renL_u, ren_zl, ren_tb, lt_q, ltL_u, lt_zl, lt_tb, LeFr, LeHp, lkp, V.ren, V.renL, Row.ren, V.lt, V.ltL, renL_u, ltL_u, List.length_append, List.length_cons, List.length_nil, List.length_set, id_eq, Option.some.injEq, V.i.injEq, V.b.injEq, V.own.injEq, Row.mk.injEq, decide_true, decide_eq_true_eq, true_and, and_true, Bool.and_true, Bool.true_and, if_true, if_false, and_self, Nat.reduceLT, Nat.reduceLeDiff, Nat.reduceEqDiff, Nat.reduceAdd, Nat.reduceSub, Nat.reduceMul, Nat.reducePow, Nat.reduceBEq, Int.reduceLE, Int.reduceLT, Int.reduceToNat, Int.reduceEq, Int.reduceNeg, reduceIte, reduceCtorEq] <;> (first | done | trivial | (and_intros <;> first | trivial | omega | (rfl))), by simp [Apart], by first | exact Nat.zero_le _ | simp, by intro n hn; first | rfl | exact absurd hn (Nat.not_lt_zero _) | (have h0 : n = 0 := Nat.lt_one_iff.1 hn; subst h0; rfl)⟩
  ?_
 refine AX.block ?_
 refine AX.loop (fun N st => ∃ (i k : Nat) (G : Nat → Nat), i ≤ (vsT t).length ∧ N = i ∧ k ≤ 4096 ∧ (∀ u, deI (vsT t) t (vsT t).length n u = G u + deI (vsT t) t i k u) ∧ (∀ j, j < i → G ((vsT t).getD j 0) = 0) ∧ st = ⟨[(6, .i .i64 ((i : Int) - 1)), (5, .own 1 0 64 1), (2, .ptr 0 0), (1, .i .i64 k)], [(1, ⟨3, tb G⟩), (0, ⟨30, [.sl Vs, .sl As, .junk]⟩)], 2⟩) (vsT t).length ⟨_, n, fun _ => 0, Nat.le_refl _, rfl, hn, fun u => (Nat.zero_add _).symm, fun _ _ => rfl, rfl⟩ ?_
 rintro N st ⟨i, k, G, hi, hN, hk, hd, hz, rfl⟩
 obtain rfl : i = N := hN.symm
 refine AX.seq ?_
 by_cases h1 : 0 < i
 ·obtain ⟨c, rfl⟩ : ∃ c, i = c + 1 := ⟨i - 1, by omega⟩
  have g1 := hgv c (by omega)
  have g2 := hga c (by omega)
  obtain ⟨b1, b2⟩ := vsT_get (show c < (vsT t).length by omega)
  have b3 := ht ((vsT t).getD c 0)
  have hset := tb_set G (k % t ((vsT t).getD c 0)) b1
  have hl := tb_length G
  have hd' : ∀ u, deI (vsT t) t (vsT t).length n u = updT G ((vsT t).getD c 0) (k % t ((vsT t).getD c 0)) u + deI (vsT t) t c (k / t ((vsT t).getD c 0)) u := fun u => by
   rw [hd u]
   show G u + updT _ _ _ u = _
   by_cases e : u = (vsT t).getD c 0
   ·rw [e, updT_same, updT_same, hz c (by omega), deI_out c _ fun j hj h => by have := vsT_inj (show j < (vsT t).length by omega) (show c < (vsT t).length by omega) h; omega]
    omega
   ·rw [updT_ne _ _ e, updT_ne _ _ e]
  have hz' : ∀ j, j < c → updT G ((vsT t).getD c 0) (k % t ((vsT t).getD c 0)) ((vsT t).getD j 0) = 0 := fun j hj => by
   rw [updT_ne _ _ (fun h => by have := vsT_inj (show j < (vsT t).length by omega) (show c < (vsT t).length by omega) h; omega)]
   exact hz j (by omega)
  have hmod : Int.tmod (k : Int) ((t ((vsT t).getD c 0) : Nat) : Int) = ((k % t ((vsT t).getD c 0) : Nat) : Int) := rfl
  have hdiv : Int.tdiv (k : Int) ((t ((vsT t).getD c 0) : Nat) : Int) = ((k / t ((vsT t).getD c 0) : Nat) : Int) := rfl
  have hq : k / t ((vsT t).getD c 0) ≤ 4096 := Nat.le_trans (Nat.div_le_self _ _) hk
  have hne : ¬ ((t ((vsT t).getD c 0) : Nat) : Int) = 0 := by omega
  have e1 : (((c + 1 : Nat) : Int) - 1).toNat = c := by omega
  have e2 : ((c + 1 : Nat) : Int) - 1 = (c : Int) := by omega
  clear hd hz hgv hga
  obtain ⟨G', hG'⟩ : ∃ G', updT G ((vsT t).getD c 0) (k % t ((vsT t).getD c 0)) = G' := ⟨_, rfl⟩
  rw [hG'] at hset hd' hz'
  generalize k / t ((vsT t).getD c 0) = kq at *
  generalize k % t ((vsT t).getD c 0) = kr at *
  generalize t ((vsT t).getD c 0) = a at *
  generalize (vsT t).getD c 0 = d at g1 b1 hset
  rw [e2]
  refine AX.sR (rgAV [1, 2, 5, 6, 13]) ?_
  refine AX.condT ?_
  refine AX.keepA [1, 2, 5, 6] ?_
  refine AX.skip ?_
  refine nmZ ?_
  refine AX.seq ?_
  refine AX.block ?_
  refine AX.sD (rgDWV [1, 2, 5, 6] (aI @hzv (aI @hza (aI @g1 (aI @g2 (aI @hl (aI @hmod (aI @hne oT))))))) oT) ?_
  rw [hset]
  refine AX.rR (rgWV [1, 2, 5, 6] (aI @hza (aI @g2 (aI @hdiv (aI @hne oT)))) oT) ?_
  refine nmZ ?_
  refine AX.rR (rgAV [1, 2, 5, 6]) ?_
  refine nmZ ?_
  refine ⟨_, _, id, ?_,
   leQ3
   , ⟨c, kq, G', by omega, rfl, hq, hd', hz', rfl⟩⟩
  omega
 ·obtain rfl : i = 0 := by omega
  have e : tb G = tb (deI (vsT t) t (vsT t).length n) := tb_congr fun v _ => (hd v).symm
  rw [e]
  generalize deI (vsT t) t (vsT t).length n = D at *
  refine AX.sR (rgAV [1, 2, 5, 6, 13]) ?_
  refine AX.condF ?_
  refine AX.exit ?_
  refine nmZ ?_
  refine AX.sR (rgAV [4]) ?_
  refine AX.ret ⟨.inl rfl, ?_⟩
  exact Done.ownT rfl rfl
end Go.Proofs.YtogpimmcodaljaaGreat
