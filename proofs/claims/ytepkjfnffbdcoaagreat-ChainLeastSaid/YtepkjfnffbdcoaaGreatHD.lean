/- Statements about chains: the cuts nat, list; of. -/
import Derived.Test.YtepkjfnffbdcoaaGreatHL
import Derived.Test.YtepkjfnffbdcoaaGreatHC
import Derived.Test.YtepkjfnffbdcoaaGreatHI
set_option linter.unusedVariables false
set_option maxRecDepth 20000
set_option linter.unusedSimpArgs false
namespace Go.Proofs.YtepkjfnffbdcoaaGreat
open Go Go.Proofs.YtepkjfnffbdcoaaGreat.Lift
attribute [local irreducible] Lift.PCall Lift.HCall
theorem effHiN {l : List Nat} {b : Nat} (hb : b ≤ l.length) (x hi : Operand) : eff Tryz.prog (.slice 39 x none (some hi) none) [dg l, .i .i64 (b : Int)] = some (.val (dg (l.take b))) := by
 cases l with
 | nil =>
  have : b = 0 := by simpa using hb
  subst this
  simp only [eff, effSlice, lowHigh, sliceV, bound, Tryz.underlying39, lay_u32, Option.isSome_some, Option.isSome_none]
  rfl
 | cons a l =>
  have hl : ((a :: l).map u).length = l.length + 1 := by simp
  have h3 : (((a :: l).map u).getD 0 .junk).cells.length = 1 := rfl
  have ht : ((a :: l).map u).take b = ((a :: l).take b).map u := (List.map_take ..).symm
  unfold dg
  generalize (a :: l).map u = ls at *
  simp only [eff, effSlice, lowHigh, sliceV, bound, Tryz.underlying39, lay_u32, Option.isSome_some, Option.isSome_none]
  rw [if_pos ⟨by omega, by omega, by rw [hl]; simp at hb; omega, h3⟩, Int.toNat_natCast, ht]
  rfl
theorem effHiR {xs : List RT} {b : Nat} (hb : b ≤ xs.length) (x hi : Operand) : eff Tryz.prog (.slice 22 x none (some hi) none) [.sl (xs.map fR), .i .i64 (b : Int)] = some (.val (.sl ((xs.take b).map fR))) := by
 cases xs with
 | nil =>
  have : b = 0 := by simpa using hb
  subst this
  simp only [eff, effSlice, lowHigh, sliceV, bound, Tryz.underlying22, lay_ratio, Option.isSome_some, Option.isSome_none]
  rfl
 | cons a l =>
  have hl : ((a :: l).map fR).length = l.length + 1 := by simp
  have h3 : (((a :: l).map fR).getD 0 .junk).cells.length = 3 := rfl
  have ht : ((a :: l).map fR).take b = ((a :: l).take b).map fR := (List.map_take ..).symm
  generalize (a :: l).map fR = ls at *
  simp only [eff, effSlice, lowHigh, sliceV, bound, Tryz.underlying22, lay_ratio, Option.isSome_some, Option.isSome_none]
  rw [if_pos ⟨by omega, by omega, by rw [hl]; simp at hb; omega, h3⟩, Int.toNat_natCast, ht]
  rfl
set_option maxHeartbeats 2000000 in
theorem lnat_ok (l : List Nat) (hl : l.length < 2 ^ 62) : PCall Tryz.prog 73 [dg l] (dg (l.take 3)) [] := by
 refine PCall.of_ax Tryz.call73 Tryz.func73 rfl (by simp [Tryz.ntmps73]) fun O w => ?_
 simp only [Tryz.ntmps73, Tryz.results73, argFr]
 by_cases h : l.length < 3
 ·have he := effHiN (l := l) (b := l.length) (Nat.le_refl _)
  rw [List.take_length] at he
  rw [List.take_of_length_le (by omega)]
  have hm : (if (3 : Int) < (l.length : Int) then (3 : Int) else (l.length : Int)) = (l.length : Int) := if_neg (by omega)
  refine AX.sR (rgAV [0]) ?_
  refine AX.sR (rgEV [2] (aI @hm oT) oT (aI he oT)) ?_
  refine AX.ret ⟨.inl rfl, ?_⟩
  exact Done.one rfl rfl rfl rfl
 ·have he := effHiN (l := l) (b := 3) (by omega)
  have hm : (if (3 : Int) < (l.length : Int) then (3 : Int) else (l.length : Int)) = ((3 : Nat) : Int) := by split <;> omega
  refine AX.sR (rgAV [0]) ?_
  refine AX.sR (rgEV [2] (aI @hm oT) oT (aI he oT)) ?_
  refine AX.ret ⟨.inl rfl, ?_⟩
  exact Done.one rfl rfl rfl rfl
def cut3 (x : RT) : RT := (x.1, x.2.1.take 3, x.2.2.take 3)
def rrow (xs : List RT) : List V := xs.flatMap fun x => (fR x).cells
theorem rrow_app (xs : List RT) (x : RT) : rrow xs ++ [.b x.1, dg x.2.1, dg x.2.2] = rrow (xs ++ [x]) := by
 unfold rrow
 rw [List.flatMap_append]
 simp only [List.flatMap_cons, List.flatMap_nil, List.append_nil]
 rfl
theorem rrow_length (xs : List RT) : (rrow xs).length = xs.length * 3 := by
 induction xs with
 | nil => rfl
 | cons x xs ih =>
  show ((fR x).cells ++ rrow xs).length = _
  rw [List.length_append, ih, List.length_cons]
  show 3 + xs.length * 3 = _
  omega
theorem rrow_hf (xs : List RT) : V.hfL (rrow xs) = true ∧ (rrow xs).all V.flat = true := by
 induction xs with
 | nil => exact ⟨rfl, rfl⟩
 | cons x xs ih =>
  show V.hfL ((fR x).cells ++ rrow xs) = true ∧ ((fR x).cells ++ rrow xs).all V.flat = true
  rw [hfL_app, ih.1, List.all_append, ih.2]
  exact ⟨rfl, rfl⟩
theorem ren_rr (f : Nat → Nat) (xs : List RT) : V.renL f (rrow xs) = rrow xs := (hf_names f 0 _ (rrow_hf xs).1).1
theorem lt_rr (k : Nat) (xs : List RT) : V.ltL k (rrow xs) = true := (hf_names id k _ (rrow_hf xs).1).2
theorem leQ5 {g : Nat} {f : Nat → Nat} {st' st : St} (h1 : LeFr f st.fr st'.nx st'.fr := by simp only [ren_q, renL_u, ren_z, ren_bl, ren_il, ren_rr, lt_q, ltL_u, lt_z, lt_bl, lt_il, lt_rr, LeFr, LeHp, lkp, V.ren, V.renL, Row.ren, V.lt, V.ltL, renL_u, ltL_u, List.length_append, List.length_cons, List.length_nil, List.length_set, id_eq, Option.some.injEq, V.i.injEq, V.b.injEq, V.own.injEq, Row.mk.injEq, decide_true, decide_eq_true_eq, true_and, and_true, Bool.and_true, Bool.true_and, if_true, if_false, and_self, Nat.reduceLT, Nat.reduceLeDiff, Nat.reduceEqDiff, Nat.reduceAdd, Nat.reduceSub, Nat.reduceMul, Nat.reducePow, Nat.reduceBEq, Int.reduceLE, Int.reduceLT, Int.reduceToNat, Int.reduceEq, Int.reduceNeg, reduceIte, reduceCtorEq] <;> (first | done | trivial | (and_intros <;> first | trivial | omega | assumption)))
  (h2 : LeHp f st.hp st'.nx st'.hp := by simp only [ren_q, renL_u, ren_z, ren_bl, ren_il, ren_rr, lt_q, ltL_u, lt_z, lt_bl, lt_il, lt_rr, LeFr, LeHp, lkp, V.ren, V.renL, Row.ren, V.lt, V.ltL, renL_u, ltL_u, List.length_append, List.length_cons, List.length_nil, List.length_set, id_eq, Option.some.injEq, V.i.injEq, V.b.injEq, V.own.injEq, Row.mk.injEq, decide_true, decide_eq_true_eq, true_and, and_true, Bool.and_true, Bool.true_and, if_true, if_false, and_self, Nat.reduceLT, Nat.reduceLeDiff, Nat.reduceEqDiff, Nat.reduceAdd, Nat.reduceSub, Nat.reduceMul, Nat.reducePow, Nat.reduceBEq, Int.reduceLE, Int.reduceLT, Int.reduceToNat, Int.reduceEq, Int.reduceNeg, reduceIte, reduceCtorEq] <;> (first | done | trivial | (and_intros <;> first | trivial | omega | assumption)))
  (h3 : Apart f st'.hp := by simp [Apart]) (h4 : g ≤ st'.nx := by first | exact Nat.zero_le _ | simp) (h5 : ∀ n, n < g → f n = n := by intro n hn; first | rfl | exact absurd hn (Nat.not_lt_zero _) | (have h0 : n = 0 := Nat.lt_one_iff.1 hn; subst h0; rfl)) : Le g f st' st := ⟨h1, h2, h3, h4, h5⟩
theorem dnQ5 {P : Program} {rs : Array ResultVar} {vs : List V} {r v : V} {st : St} {hp : List (Nat × Row)} (h1 : resVs P st rs.toList = some vs := by simp (disch := omega) only [resVs, resV, go_sem, i64_of, u32_of, u64_of, Nat.reduceLT, Nat.reduceLeDiff, Nat.reduceEqDiff, Nat.reduceAdd, Nat.reduceSub, Nat.reduceMul, Nat.reducePow, Nat.reduceBEq, Int.reduceLE, Int.reduceLT, Int.reduceToNat, Int.reduceEq, Int.reduceNeg, reduceIte, reduceCtorEq]; rfl) (h2 : frz [] (packV vs) st.hp = some (v, hp) := by simp only [packV, frz, frzL]; rfl) (h : v = r := by rfl)
  (h3 : r.lt 0 = true := by simp only [V.lt, V.ltL, ltL_u, lt_q, ltL_u, lt_z, lt_bl, lt_il, lt_rr]; first | done | rfl) (h4 : r.ren id = r := by simp only [V.ren, V.renL, renL_u, ren_q, renL_u, ren_z, ren_bl, ren_il, ren_rr]; first | done | rfl) : Done P rs r [] st := Lift.Done.of h1 h2 h h3 h4
theorem rrow_drop (xs : List RT) : ∀ j, (rrow xs).drop (j * 3) = rrow (xs.drop j) := by
 induction xs with
 | nil => intro j; simp [rrow]
 | cons x xs ih =>
  intro j
  cases j with
  | zero => rfl
  | succ j =>
   show ((fR x).cells ++ rrow xs).drop _ = _
   rw [List.drop_succ_cons, ← ih j, show (j + 1) * 3 = j * 3 + 3 by omega]
   rfl
theorem chunks_rr (xs : List RT) : chunks 3 xs.length (rrow xs) = xs.map fR := by
 unfold chunks
 rw [if_neg (by omega)]
 apply List.ext_getElem?
 intro j
 by_cases h : j < xs.length
 ·simp only [List.getElem?_map, List.getElem?_range h, List.getElem?_eq_getElem h, Option.map_some]
  rw [rrow_drop, ← List.getElem_cons_drop h]
  rfl
 ·rw [List.getElem?_eq_none (by simp; omega), List.getElem?_eq_none (by simp; omega)]
theorem Lift.Done.slRR {P : Program} {st : St} {t : Tmp} {h K : Nat} {xs : List RT} {T : TypeId} (h1 : lkp st.fr t = some (.own h 0 K 3)) (h2 : lkp st.hp h = some ⟨T, rrow xs⟩) (hK : K = xs.length) : Done P #[.tmp t] (.sl (xs.map fR)) [] st := by
 subst hK
 have e : List.take (xs.length * 3) (List.drop 0 (rrow xs)) = rrow xs := by rw [List.drop_zero, ← rrow_length, List.take_length]
 refine Done.of (vs := [.own h 0 xs.length 3]) (hp := dlt st.hp h) ?_ ?_ rfl ?_ ?_
 ·simp only [resVs, resV, h1]
 ·simp only [packV, frz, h2, List.not_mem_nil, if_false, e, (rrow_hf xs).1, (rrow_hf xs).2, rrow_length, Nat.zero_add, Nat.le_refl, and_self, if_true, chunks_rr, Nat.zero_lt_succ, true_and]
 ·simp only [V.lt]
 ·simp only [V.ren]
set_option maxHeartbeats 8000000 in
theorem llist_ok (most : Nat) (hm : most < 2 ^ 20) (xs : List RT) (hl : xs.length < 2 ^ 62) (hx : ∀ x ∈ xs, x.2.1.length < 2 ^ 62 ∧ x.2.2.length < 2 ^ 62) : PCall Tryz.prog 29 [.sl (xs.map fR), .i .i64 most] (.sl (((xs.take most).map cut3).map fR)) [] := by
 refine PCall.of_ax Tryz.call29 Tryz.func29 rfl (by simp [Tryz.ntmps29]) fun O w => ?_
 simp only [Tryz.ntmps29, Tryz.results29, argFr]
 obtain ⟨b, hb, hb1, hb2⟩ : ∃ b : Nat, (if (most : Int) < (xs.length : Int) then (most : Int) else (xs.length : Int)) = (b : Int) ∧ b ≤ xs.length ∧ b = (xs.take most).length := by
  by_cases h : most < xs.length
  ·exact ⟨most, if_pos (by omega), by omega, by rw [List.length_take]; omega⟩
  ·exact ⟨xs.length, if_neg (by omega), Nat.le_refl _, by rw [List.length_take]; omega⟩
 have hbm : b ≤ most := by rw [hb2, List.length_take]; omega
 have he := effHiR hb1
 have htk : xs.take b = xs.take most := by
  rw [hb2, List.length_take]
  by_cases h : most ≤ xs.length
  ·rw [Nat.min_eq_left h]
  ·rw [Nat.min_eq_right (by omega), List.take_length, List.take_of_length_le (by omega)]
 have hml0 : (xs.map fR).length = xs.length := List.length_map ..
 rw [htk] at he
 have hx' : ∀ x ∈ xs.take most, x.2.1.length < 2 ^ 62 ∧ x.2.2.length < 2 ^ 62 := fun x h => hx x (List.mem_of_mem_take h)
 generalize xs.take most = ys at *
 have hml : (ys.map fR).length = b := by rw [List.length_map, hb2]
 have hix := fun (j : Nat) (h1 : j < ys.length) => fun x y => effIxR (x := x) (y := y) (els := ys.map fR) (j := j) (s := (ys.getD j d0).1) (a := (ys.getD j d0).2.1) (b := (ys.getD j d0).2.2) (by rw [List.length_map]; exact h1) (by rw [List.getD_eq_getElem?_getD, List.getElem?_map, List.getElem?_eq_getElem h1, List.getD_eq_getElem?_getD, List.getElem?_eq_getElem h1]; rfl)
 clear hx htk
 generalize xs.map fR = xl at *
 generalize hyl : ys.map fR = yl at *
 refine AX.sR (rgAV [0, 1]) ?_
 refine AX.sR (rgAV [0, 1, 5]) ?_
 refine AX.own0 5 41 3 rfl ?_
 refine AX.seq ?_
 refine AX.sR (rgEV [5, 13, 14, 15] (aI @hml0 (aI @hb (aI @hml oT))) oT (aI he oT)) ?_
 refine AX.weaken id (st' := ⟨[(15, .i .i64 (0 : Nat)), (14, .i .i64 b), (13, .sl yl), (5, .own 0 0 0 3)], [(0, ⟨41, rrow []⟩)], 1⟩)
  leQ5
  ?_
 refine AX.block ?_
 refine AX.loop (fun N st => ∃ (j : Nat) (zs : List RT), j ≤ b ∧ N = b - j ∧ zs = (ys.take j).map cut3 ∧ st = ⟨[(15, .i .i64 j), (14, .i .i64 b), (13, .sl yl), (5, .own 0 0 j 3)], [(0, ⟨41, rrow zs⟩)], 1⟩) b ⟨0, [], Nat.zero_le _, rfl, rfl, rfl⟩ ?_
 rintro N st ⟨j, zs, hj, rfl, hzs, rfl⟩
 by_cases h1 : j < b
 ·have hj' : j < ys.length := by omega
  have hix1 := hix j hj'
  obtain ⟨l1, l2⟩ := hx' _ (getD_mem_RT hj')
  have c1 := lnat_ok _ l1
  have c2 := lnat_ok _ l2
  have hlen : (rrow zs).length = j * 3 := by rw [rrow_length, hzs, List.length_map, List.length_take]; omega
  have hrow := rrow_app zs (cut3 (ys.getD j d0))
  have hnew : zs ++ [cut3 (ys.getD j d0)] = (ys.take (j + 1)).map cut3 := by
   rw [hzs, List.take_add_one, List.map_append, List.getElem?_eq_getElem hj', List.getD_eq_getElem?_getD, List.getElem?_eq_getElem hj']
   rfl
  clear hix hx'
  generalize zs ++ [cut3 (ys.getD j d0)] = us at *
  have hrow : rrow zs ++ [.b (ys.getD j d0).1, dg ((ys.getD j d0).2.1.take 3), dg ((ys.getD j d0).2.2.take 3)] = rrow us := hrow
  generalize ys.getD j d0 = x at *
  obtain ⟨s, p, q⟩ := x
  dsimp only at c1 c2 hix1 hrow
  generalize p.take 3 = p3 at *
  generalize q.take 3 = q3 at *
  refine AX.sR (rgAV [5, 13, 14, 15, 16]) ?_
  refine AX.seq ?_
  refine AX.condT ?_
  refine AX.keepA [5, 13, 14, 15] ?_
  refine AX.skip ?_
  refine nmZ ?_
  refine AX.seq ?_
  refine AX.block ?_
  refine AX.sR (rgEV [5, 7, 13, 14, 15] oT oT (aI hix1 oT)) ?_
  refine AX.rD (rgDWV [5, 13, 14, 15] (aI @hlen (aI @zerosV_1 (aI @tkS (aI @tk0 oT)))) (aI c1 (aI c2 oT))) ?_
  refine nmZ ?_
  rw [hrow]
  refine AX.rR (rgWV [5, 13, 14, 15] (aI @lit_add oT) oT) ?_
  refine nmZ ?_
  refine ⟨_, _, fun n => if n = 0 then 3 else n, ?_,
   leQ5
   , ⟨j + 1, us, by omega, rfl, hnew, rfl⟩⟩
  omega
 ·have e : j = b := by omega
  have hfin : zs = ys.map cut3 := by rw [hzs, List.take_of_length_le (by omega)]
  rw [← hfin]
  refine AX.sR (rgAV [5, 13, 14, 15, 16]) ?_
  refine AX.seq ?_
  refine AX.condF ?_
  refine AX.exit ?_
  refine nmZ ?_
  refine AX.sR (rgAV [4]) ?_
  refine AX.ret ⟨.inl rfl, ?_⟩
  exact Done.slRR rfl rfl (by rw [hfin, List.length_map]; omega)
end Go.Proofs.YtepkjfnffbdcoaaGreat
/- Statements about chains: of; few where nothing is cut. -/
set_option linter.unusedVariables false
set_option linter.unusedSimpArgs false
namespace Go.Proofs.YtepkjfnffbdcoaaGreat
open Go Go.Proofs.YtepkjfnffbdcoaaGreat.Lift
attribute [local irreducible] Lift.PCall Lift.HCall
theorem effSliceSeg {p m i o t : Nat} (X : Mx) (hi : i < p) (hot : o + t ≤ m) (hpm : p * m ≤ 60 * 60) (x lo hi' : Operand) {a b : Int} (ha : a = ((i * m + o : Nat) : Int)) (hb : b = ((i * m + o + t : Nat) : Int)) :
  eff Tryz.prog (.slice 22 x (some lo) (some hi') none) [.sl ((mcells m X (p * m)).map rV), .i .i64 a, .i .i64 b] = some (.val (.sl ((vl t fun c => X i (o + c)).map rV))) := by
 subst ha hb
 by_cases ht : m = 0
 ·subst ht
  obtain ⟨rfl, rfl⟩ : o = 0 ∧ t = 0 := by omega
  have e : (mcells 0 X (p * 0)).map rV = [] := rfl
  have e2 : (vl 0 fun c => X i (0 + c)).map rV = [] := rfl
  rw [e, e2]
  simp only [Nat.mul_zero, Nat.add_zero]
  simp only [eff, effSlice, lowHigh, sliceV, bound, Tryz.underlying22, lay_ratio, Option.isSome_some, Option.isSome_none]
  rfl
 have ht : 0 < m := Nat.pos_of_ne_zero ht
 have hl : ((mcells m X (p * m)).map rV).length = p * m := by rw [List.length_map, mcells_length]
 have hle : i * m + m ≤ p * m := by
  have : (i + 1) * m ≤ p * m := Nat.mul_le_mul_right _ hi
  rwa [Nat.succ_mul] at this
 have hrow : List.drop (i * m + o) (List.take (i * m + o + t) ((mcells m X (p * m)).map rV)) = (vl t fun c => X i (o + c)).map rV := by
  rw [← List.map_take, ← List.map_drop]
  congr 1
  apply List.ext_getElem?
  intro j
  rw [List.getElem?_drop, List.getElem?_take]
  by_cases hj : j < t
  ·rw [if_pos (by omega)]
   have h1 : (mcells m X (p * m))[i * m + o + j]? = some (X i (o + j)) := by
    obtain ⟨h1, h2⟩ := mcells_get (r := p) (c := m) X hi (show o + j < m by omega)
    rw [← Nat.add_assoc] at h1 h2
    have hl : i * m + o + j < (mcells m X (p * m)).length := by rw [mcells_length]; exact h1
    rw [List.getD_eq_getElem?_getD, List.getElem?_eq_getElem hl] at h2
    rw [List.getElem?_eq_getElem hl]
    exact congrArg some h2
   rw [h1]
   simp [vl, hj]
  ·rw [if_neg (by omega)]
   exact (List.getElem?_eq_none (by rw [vl_length]; omega)).symm
 have h3 : (((mcells m X (p * m)).map rV).getD 0 .junk).cells.length = 3 := by
  rw [getD_rV (by rw [mcells_length]; omega)]
  rfl
 generalize (mcells m X (p * m)).map rV = Xl at *
 simp only [eff, effSlice, lowHigh, sliceV, bound, Tryz.underlying22, lay_ratio, Option.isSome_some, Option.isSome_none]
 rw [if_pos ⟨by omega, by omega, by rw [hl]; omega, h3⟩, Int.toNat_natCast, Int.toNat_natCast, hrow]
set_option maxHeartbeats 2000000 in
theorem lof_ok (R1 C1 R2 C2 : Int) (x y : List V) : PCall Tryz.prog 17 [.agg [.i .i64 R1, .i .i64 C1, .sl x, .i .i64 R2, .i .i64 C2, .sl y]] (.agg [.i .i64 R1, .i .i64 C1, .sl x, .i .i64 R2, .i .i64 C2, .sl y]) [] := by
 refine PCall.of_ax Tryz.call17 Tryz.func17 rfl (by simp [Tryz.ntmps17]) fun O w => ?_
 simp only [Tryz.ntmps17, Tryz.results17, argFr]
 refine AX.sR (rgAV [1, 2]) ?_
 refine AX.sR (rgAV [2]) ?_
 refine AX.ret ⟨.inl rfl, ?_⟩
 exact dnQ5
def lcut (most : Nat) (xs : List RT) : List RT := (xs.take most).map cut3
theorem lcut_ok {most : Nat} {xs : List RT} (h : ∀ x ∈ xs, Dg x.2.1 ∧ Dg x.2.2) : okX (lcut most xs) ∧ (lcut most xs).length ≤ most ∧ ∀ x ∈ lcut most xs, x.2.1.length ≤ 3 ∧ x.2.2.length ≤ 3 := by
 have h3 : ∀ x ∈ lcut most xs, (Dg x.2.1 ∧ Dg x.2.2) ∧ x.2.1.length ≤ 3 ∧ x.2.2.length ≤ 3 := by
  intro x hx
  obtain ⟨y, hy, rfl⟩ := List.mem_map.1 hx
  obtain ⟨h1, h2⟩ := h y (List.mem_of_mem_take hy)
  refine ⟨⟨fun d hd => h1 d (List.mem_of_mem_take hd), fun d hd => h2 d (List.mem_of_mem_take hd)⟩, ?_, ?_⟩
  ·show (y.2.1.take 3).length ≤ 3
   rw [List.length_take]
   omega
  ·show (y.2.2.take 3).length ≤ 3
   rw [List.length_take]
   omega
 refine ⟨fun x hx => ?_, ?_, fun x hx => (h3 x hx).2⟩
 ·obtain ⟨⟨h1, h2⟩, h4, h5⟩ := h3 x hx
  exact ⟨h1, h2, by omega, by omega⟩
 ·unfold lcut
  rw [List.length_map, List.length_take]
  omega
set_option maxHeartbeats 8000000 in
theorem few_same (R1 C1 R2 C2 : Int) (xs ys ss : List RT) (hR1 : -9223372036854775808 ≤ R1 ∧ R1 ≤ 9223372036854775807) (hC2 : -9223372036854775808 ≤ C2 ∧ C2 ≤ 9223372036854775807) (lx : xs.length < 2 ^ 62) (ly : ys.length < 2 ^ 62) (ls : ss.length < 2 ^ 62)
  (hx : ∀ x ∈ xs, x.2.1.length < 2 ^ 62 ∧ x.2.2.length < 2 ^ 62) (hy : ∀ x ∈ ys, x.2.1.length < 2 ^ 62 ∧ x.2.2.length < 2 ^ 62) (hs : ∀ x ∈ ss, x.2.1.length < 2 ^ 62 ∧ x.2.2.length < 2 ^ 62) (b : Bool)
  (hr : PCall Tryz.prog 42 [.agg [.i .i64 R1, .i .i64 C1, .sl ((lcut 4000 xs).map fR), .i .i64 R2, .i .i64 C2, .sl ((lcut 4000 ys).map fR)]] (.b b) []) (hb : b = false ∨ (R1 ≤ 8 ∧ C2 ≤ 5)) :
  PCall Tryz.prog 14 [.agg [.i .i64 R1, .i .i64 C1, .sl (xs.map fR), .i .i64 R2, .i .i64 C2, .sl (ys.map fR)], .sl (ss.map fR)] (.tup [.agg [.i .i64 R1, .i .i64 C1, .sl ((lcut 4000 xs).map fR), .i .i64 R2, .i .i64 C2, .sl ((lcut 4000 ys).map fR)], .sl ((lcut 100 ss).map fR)]) [] := by
 have c1 := llist_ok 4000 (by decide) xs lx hx
 have c2 := llist_ok 4000 (by decide) ys ly hy
 have c3 := llist_ok 100 (by decide) ss ls hs
 have cof := lof_ok R1 C1 R2 C2 ((lcut 4000 xs).map fR) ((lcut 4000 ys).map fR)
 unfold lcut at *
 refine PCall.of_ax Tryz.call14 Tryz.func14 rfl (by simp [Tryz.ntmps14]) fun O w => ?_
 simp only [Tryz.ntmps14, Tryz.results14, argFr]
 generalize ((xs.take 4000).map cut3).map fR = X1 at *
 generalize ((ys.take 4000).map cut3).map fR = Y1 at *
 generalize ((ss.take 100).map cut3).map fR = S1 at *
 generalize xs.map fR = X0 at *
 generalize ys.map fR = Y0 at *
 generalize ss.map fR = S0 at *
 have c1 : PCall Tryz.prog 29 [.sl X0, .i .i64 4000] (.sl X1) [] := c1
 have c2 : PCall Tryz.prog 29 [.sl Y0, .i .i64 4000] (.sl Y1) [] := c2
 have c3 : PCall Tryz.prog 29 [.sl S0, .i .i64 100] (.sl S1) [] := c3
 refine AX.sR (rgAV [1, 2, 4]) ?_
 refine AX.sD (rgDCV [1, 2, 4] (aI c1 (aI c2 (aI c3 oT)))) ?_
 refine AX.sD (rgDAV [1, 2, 4, 6, 7]) ?_
 refine AX.seq ?_
 cases b
 ·refine AX.sR (rgCV [1, 2, 4, 6, 7, 46] (aI cof (aI hr oT))) ?_
  refine AX.condT ?_
  refine AX.sR (rgAV [4, 5]) ?_
  refine AX.ret ⟨.inl rfl, ?_⟩
  exact dnQ5
 ·have hb' : R1 ≤ 8 ∧ C2 ≤ 5 := by simpa using hb
  obtain ⟨b1, b2⟩ := hb'
  refine AX.sR (rgCV [1, 2, 4, 6, 7, 46] (aI cof (aI hr oT))) ?_
  refine AX.condT ?_
  refine AX.sR (rgAV [4, 5]) ?_
  refine AX.ret ⟨.inl rfl, ?_⟩
  exact dnQ5
end Go.Proofs.YtepkjfnffbdcoaaGreat
/- Statements about chains: few where the chain is cut. -/
set_option linter.unusedVariables false
set_option linter.unusedSimpArgs false
namespace Go.Proofs.YtepkjfnffbdcoaaGreat
open Go Go.Proofs.YtepkjfnffbdcoaaGreat.Lift
attribute [local irreducible] Lift.PCall Lift.HCall
def offF (n k j : Nat) (A B : Mx) (i c : Nat) : Rat := if c < n - k then A i (k + c) else B i (j + (c - (n - k)))
theorem offF_sum (n m k j : Nat) (A B : Mx) (i : Nat) : sumN (n - k + (m - j)) (offF n k j A B i) = offR n m k j A B i := by
 rw [sumN_split]
 unfold offR
 congr 1
 ·exact sumN_congr fun c hc => if_pos hc
 ·refine sumN_congr fun c hc => ?_
  unfold offF
  rw [if_neg (by omega), Nat.add_sub_cancel_left]
theorem offF_vl (n m k j : Nat) (A B : Mx) (i : Nat) : vl (n - k + (m - j)) (offF n k j A B i) = (vl (n - k) fun c => A i (k + c)) ++ vl (m - j) fun c => B i (j + c) := by
 unfold vl
 rw [List.range_add, List.map_append, List.map_map]
 congr 1
 ·exact List.map_congr_left fun c hc => if_pos (by simpa using hc)
 ·refine List.map_congr_left fun c hc => ?_
  show offF n k j A B i (n - k + c) = _
  unfold offF
  rw [if_neg (by omega), Nat.add_sub_cancel_left]
theorem mcells_next (c i : Nat) (F : Mx) : mcells c F (i * c) ++ vl c (F i) = mcells c F ((i + 1) * c) := by
 have key : ∀ t, t ≤ c → mcells c F (i * c) ++ vl t (F i) = mcells c F (i * c + t) := by
  intro t
  induction t with
  | zero => intro _; simp [vl]
  | succ t ih =>
   intro ht
   rw [vl_succ, ← List.append_assoc, ih (by omega), mcells_succ F (by omega)]
 rw [key c (Nat.le_refl _), Nat.succ_mul]
theorem take_vl (k : Nat) (v : Nat → Rat) : List.take (k * 3) (qrow (vl k v)) = qrow (vl k v) := List.take_of_length_le (by rw [vl_len3]; exact Nat.le_refl _)
theorem vl_mlen (n : Nat) (v : Nat → Rat) : ((vl n v).map rV).length = n := by rw [List.length_map, vl_length]
theorem vl_one (n : Nat) (v : Nat → Rat) : (((vl n v).map rV).getD 0 .junk).cells.length = 3 ∨ (vl n v).map rV = [] := by
 by_cases h : n = 0
 ·subst h
  exact .inr rfl
 ·left
  rw [getD_rV (by rw [vl_length]; omega)]
  rfl
set_option maxHeartbeats 16000000 in
theorem few_cut (n m k j : Nat) (hn : n ≤ 60) (hm : m ≤ 60) (hk : k = if 8 < n then 8 else n) (hj : j = if 5 < m then 5 else m) (hbig : 8 < n ∨ 5 < m) (A B : Mx) (hC : isC n m A B = true) (hA : ∀ i c, i < n → c < n → rL (A i c) ≤ 3) (hB : ∀ i c, i < n → c < m → rL (B i c) ≤ 3) (X0 Y0 : List V) (xs ys ss : List RT) (hX0 : X0 = xs.map fR) (hY0 : Y0 = ys.map fR)
  (lx : xs.length < 2 ^ 62) (ly : ys.length < 2 ^ 62) (ls : ss.length < 2 ^ 62)
  (hx : ∀ x ∈ xs, x.2.1.length < 2 ^ 62 ∧ x.2.2.length < 2 ^ 62) (hy : ∀ x ∈ ys, x.2.1.length < 2 ^ 62 ∧ x.2.2.length < 2 ^ 62) (hs : ∀ x ∈ ss, x.2.1.length < 2 ^ 62 ∧ x.2.2.length < 2 ^ 62)
  (hXA : (lcut 4000 xs).map fR = (mcells n A (n * n)).map rV) (hYB : (lcut 4000 ys).map fR = (mcells m B (n * m)).map rV) :
  PCall Tryz.prog 14 [.agg [.i .i64 n, .i .i64 n, .sl X0, .i .i64 n, .i .i64 m, .sl Y0], .sl (ss.map fR)] (.tup [cV k j (fewA n m k j A B) B, .sl (((lcut 100 ss).take k).map fR)]) [] := by
 have c1 := llist_ok 4000 (by decide) xs lx hx
 have c2 := llist_ok 4000 (by decide) ys ly hy
 have c3 := llist_ok 100 (by decide) ss ls hs
 rw [← hX0] at c1
 rw [← hY0] at c2
 have c1 : PCall Tryz.prog 29 [.sl X0, .i .i64 4000] (.sl ((lcut 4000 xs).map fR)) [] := c1
 have c2 : PCall Tryz.prog 29 [.sl Y0, .i .i64 4000] (.sl ((lcut 4000 ys).map fR)) [] := c2
 have c3 : PCall Tryz.prog 29 [.sl (ss.map fR), .i .i64 100] (.sl ((lcut 100 ss).map fR)) [] := c3
 rw [hXA] at c1
 rw [hYB] at c2
 have cr := r20right_ok n m 3 hn hm A B hA hB (by decide) (by decide)
 rw [hC] at cr
 have hkn : k ≤ n ∧ k ≤ 8 := by rw [hk]; split <;> omega
 have hjm : j ≤ m ∧ j ≤ 5 := by rw [hj]; split <;> omega
 have cof := lof_ok n n n m ((mcells n A (n * n)).map rV) ((mcells m B (n * m)).map rV)
 have hnn : n * n ≤ 60 * 60 := Nat.mul_le_mul hn hn
 have hnm : n * m ≤ 60 * 60 := Nat.mul_le_mul hn hm
 have s1 := fun (i : Nat) (hi : i < n) => effSliceSeg (p := n) (m := n) (o := 0) (t := k) A hi (by omega) hnn
 have s2 := fun (i : Nat) (hi : i < n) => effSliceSeg (p := n) (m := n) (o := k) (t := n - k) A hi (by omega) hnn
 have s3 := fun (i : Nat) (hi : i < n) => effSliceSeg (p := n) (m := m) (o := j) (t := m - j) B hi (by omega) hnm
 have s4 := fun (i : Nat) (hi : i < n) => effSliceSeg (p := n) (m := m) (o := 0) (t := j) B hi (by omega) hnm
 have hoff : ∀ i c, i < n → c < n - k + (m - j) → rL (offF n k j A B i c) ≤ 3 := fun i c hi hc => by
  unfold offF
  split
  ·exact hA i _ hi (by omega)
  ·exact hB i _ hi (by omega)
 have e8 : (if (8 : Int) < (n : Int) then (8 : Int) else (n : Int)) = (k : Int) := by rw [hk]; split <;> split <;> omega
 have e5 : (if (5 : Int) < (m : Int) then (5 : Int) else (m : Int)) = (j : Int) := by rw [hj]; split <;> split <;> omega
 have hF : ∀ i c, fewA n m k j A B i c = if c = 0 then A i 0 + sumN (n - k + (m - j)) (offF n k j A B i) else A i c := fun i c => by
  rw [offF_sum]
  rfl
 refine PCall.of_ax Tryz.call14 Tryz.func14 rfl (by simp [Tryz.ntmps14]) fun O w => ?_
 simp only [Tryz.ntmps14, Tryz.results14, argFr]
 have hfin : ∀ b : Nat, b = (if k < (lcut 100 ss).length then k else (lcut 100 ss).length) → (lcut 100 ss).take b = (lcut 100 ss).take k := fun b hb => by
  rw [hb]
  split
  ·rfl
  ·rw [List.take_length, List.take_of_length_le (by omega)]
 unfold cV at *
 generalize fewA n m k j A B = F at *
 generalize hAc : (mcells n A (n * n)).map rV = Ac at *
 generalize hBc : (mcells m B (n * m)).map rV = Bc at *
 generalize lcut 100 ss = s0 at *
 generalize ss.map fR = S0 at *
 refine AX.sR (rgAV [1, 2, 4]) ?_
 refine AX.sD (rgDCV [1, 2, 4] (aI c1 (aI c2 (aI c3 oT)))) ?_
 refine AX.sD (rgDAV [1, 2, 4, 6, 7]) ?_
 have hne : ¬ ((n : Int) ≤ 8 ∧ (m : Int) ≤ 5) := by omega
 refine AX.cut (fun st => Le 0 id ⟨[(7, .i .i64 m), (6, .i .i64 n), (4, .ptr 1 0), (2, .ptr 0 0), (1, .sl (s0.map fR))], [(0, ⟨26, [.i .i64 n, .i .i64 n, .sl Ac, .i .i64 n, .i .i64 m, .sl Bc]⟩), (1, ⟨26, [.i .i64 0, .i .i64 0, .nl, .i .i64 0, .i .i64 0, .nl]⟩)], 2⟩ st) ?_ ?_
 ·by_cases h8 : 8 < n
  ·refine AX.sR (rgCV [1, 2, 4, 6, 7, 46] (aI cof (aI cr oT))) ?_
   refine AX.condF ?_
   refine AX.keepA [1, 2, 4, 6, 7] ?_
   refine AX.skip ⟨by first | exact trivial | rfl,
    leQ5
    ⟩
  ·have h5 : 5 < m := by omega
   refine AX.sR (rgCV [1, 2, 4, 6, 7, 46] (aI cof (aI cr oT))) ?_
   refine AX.condF ?_
   refine AX.keepA [1, 2, 4, 6, 7] ?_
   refine AX.skip ⟨by first | exact trivial | rfl,
    leQ5
    ⟩
 rintro st hle
 refine AX.weaken id hle ?_
 clear hle c1 c2 c3 cof cr hne
 refine AX.sR (rgWV [1, 2, 4, 6, 7, 8, 9] (aI @e8 (aI @e5 oT)) oT) ?_
 refine AX.sR (rgAV [1, 2, 4, 6, 7, 8, 9, 10]) ?_
 refine AX.own0c 2 2 41 3 rfl rfl (by show 2 < 6; decide) ?_
 refine AX.own0c 2 5 41 3 rfl rfl (by show 5 < 6; decide) ?_
 refine AX.cut (fun st => ∃ us vs : List Rat, us = mcells k F (k * k) ∧ vs = mcells j B (k * j) ∧ Le 0 id ⟨[(10, .ptr 2 0), (8, .i .i64 k), (4, .ptr 1 0), (1, .sl (s0.map fR))], [(1, ⟨26, [.i .i64 0, .i .i64 0, .nl, .i .i64 0, .i .i64 0, .nl]⟩), (2, ⟨26, [.i .i64 k, .i .i64 k, .own 3 0 us.length 3, .i .i64 k, .i .i64 j, .own 4 0 vs.length 3]⟩), (3, ⟨41, qrow us⟩), (4, ⟨41, qrow vs⟩)], 5⟩ st) ?_ ?_
 ·refine AX.sR (rgAV [1, 2, 4, 6, 7, 8, 9, 10, 11]) ?_
  refine AX.weaken id (st' := ⟨[(11, .i .i64 (0 : Nat)), (10, .ptr 2 0), (9, .i .i64 j), (8, .i .i64 k), (7, .i .i64 m), (6, .i .i64 n), (4, .ptr 1 0), (2, .ptr 0 0), (1, .sl (s0.map fR))], [(0, ⟨26, [.i .i64 n, .i .i64 n, .sl Ac, .i .i64 n, .i .i64 m, .sl Bc]⟩), (1, ⟨26, [.i .i64 0, .i .i64 0, .nl, .i .i64 0, .i .i64 0, .nl]⟩), (2, ⟨26, [.i .i64 k, .i .i64 k, .own 3 0 0 3, .i .i64 k, .i .i64 j, .own 4 0 0 3]⟩), (3, ⟨41, qrow []⟩), (4, ⟨41, qrow []⟩)], 5⟩)
   leQ5
   ?_
  refine AX.block ?_
  refine AX.loop (fun N st => ∃ (i p q : Nat) (us vs : List Rat), i ≤ k ∧ N = k - i ∧ p = i * k ∧ q = i * j ∧ us = mcells k F (i * k) ∧ vs = mcells j B (i * j) ∧ st = ⟨[(11, .i .i64 i), (10, .ptr 2 0), (9, .i .i64 j), (8, .i .i64 k), (7, .i .i64 m), (6, .i .i64 n), (4, .ptr 1 0), (2, .ptr 0 0), (1, .sl (s0.map fR))], [(0, ⟨26, [.i .i64 n, .i .i64 n, .sl Ac, .i .i64 n, .i .i64 m, .sl Bc]⟩), (1, ⟨26, [.i .i64 0, .i .i64 0, .nl, .i .i64 0, .i .i64 0, .nl]⟩), (2, ⟨26, [.i .i64 k, .i .i64 k, .own 3 0 p 3, .i .i64 k, .i .i64 j, .own 4 0 q 3]⟩), (3, ⟨41, qrow us⟩), (4, ⟨41, qrow vs⟩)], 5⟩) k ⟨0, 0, 0, [], [], Nat.zero_le _, rfl, by omega, by omega, by rw [Nat.zero_mul]; rfl, by rw [Nat.zero_mul]; rfl, rfl⟩ ?_
  rintro N st ⟨i, p, q, us, vs, hi, rfl, hp, hq, hus, hvs, rfl⟩
  by_cases h1 : i < k
  ·have hin : i < n := by omega
   have sA := s1 i hin
   have sA2 := s2 i hin
   have sB := s3 i hin
   have sB2 := s4 i hin
   have hw := fun c hc => hoff i c hin hc
   have hsl := sumN_len (L := 3) (n := n - k + (m - j)) (f := offF n k j A B i) hw
   have hFi := hF i
   have hA0 := hA i 0 hin (by omega)
   obtain ⟨T, hT⟩ : ∃ T, n - k + (m - j) = T := ⟨_, rfl⟩
   have hTb : T ≤ 120 := by omega
   have hvl := offF_vl n m k j A B i
   have hunext := mcells_next k i F
   have hvnext := mcells_next j i B
   have lu : us.length = p := by rw [hus, mcells_length, hp]
   have lv : vs.length = q := by rw [hvs, mcells_length, hq]
   rw [← hus] at hunext
   rw [← hvs] at hvnext
   rw [hT] at hvl hsl hFi hw
   have m1 : (i : Int) * (n : Int) = ((i * n : Nat) : Int) := (Int.natCast_mul i n).symm
   have m2 : ((i + 1 : Nat) : Int) * (n : Int) = ((i * n + n : Nat) : Int) := by rw [← Int.natCast_mul, Nat.succ_mul]
   have m3 : (i : Int) * (m : Int) = ((i * m : Nat) : Int) := (Int.natCast_mul i m).symm
   have m4 : ((i + 1 : Nat) : Int) * (m : Int) = ((i * m + m : Nat) : Int) := by rw [← Int.natCast_mul, Nat.succ_mul]
   have a1 : ((i * n : Nat) : Int) + (k : Int) = ((i * n + k : Nat) : Int) := (Int.natCast_add _ _).symm
   have a2 : ((i * m : Nat) : Int) + (j : Int) = ((i * m + j : Nat) : Int) := (Int.natCast_add _ _).symm
   have bn : i * n ≤ 60 * 60 := Nat.mul_le_mul (by omega) hn
   have bm : i * m ≤ 60 * 60 := Nat.mul_le_mul (by omega) hm
   have bp : p ≤ 8 * 8 := by rw [hp]; exact Nat.mul_le_mul (by omega) (by omega)
   have bq : q ≤ 8 * 8 := by rw [hq]; exact Nat.mul_le_mul (by omega) (by omega)
   clear s1 s2 s3 s4 hoff hA hB hF hC
   have eA : (vl k fun c => A i (0 + c)) = vl k (A i) := vl_congr fun c _ => by rw [Nat.zero_add]
   have eB : (vl j fun c => B i (0 + c)) = vl j (B i) := vl_congr fun c _ => by rw [Nat.zero_add]
   rw [eA] at sA
   rw [eB] at sB2
   have sA := fun x lo hi' => sA x lo hi' (a := ((i * n : Nat) : Int)) (b := ((i * n + k : Nat) : Int)) rfl rfl
   have sA2 := fun x lo hi' => sA2 x lo hi' (a := ((i * n + k : Nat) : Int)) (b := ((i * n + n : Nat) : Int)) rfl (by omega)
   have sB := fun x lo hi' => sB x lo hi' (a := ((i * m + j : Nat) : Int)) (b := ((i * m + m : Nat) : Int)) rfl (by omega)
   have sB2 := fun x lo hi' => sB2 x lo hi' (a := ((i * m : Nat) : Int)) (b := ((i * m + j : Nat) : Int)) rfl rfl
   obtain ⟨z1, hz1⟩ : ∃ z, i * n = z := ⟨_, rfl⟩
   obtain ⟨z2, hz2⟩ : ∃ z, i * m = z := ⟨_, rfl⟩
   rw [hz1] at m1 m2 a1 bn sA sA2
   rw [hz2] at m3 m4 a2 bm sB sB2
   refine AX.seq ?_
   refine AX.sR (rgAV [1, 2, 4, 6, 7, 8, 9, 10, 11, 62]) ?_
   refine AX.condT ?_
   refine AX.keepA [1, 2, 4, 6, 7, 8, 9, 10, 11] ?_
   refine AX.skip ?_
   refine nmZ ?_
   refine AX.seq ?_
   refine AX.block ?_
   refine AX.sR (rgEV [1, 2, 4, 6, 7, 8, 9, 10, 11, 12] (aI @m1 (aI @a1 (aI @vl_mlen (aI @flatCells_q (aI @vl_len3 (aI @flat_q (aI @vl_one oT))))))) oT (aI (sA _) oT)) ?_
   refine AX.cut (fun st => Le 0 id ⟨[(12, .own 6 0 k 3), (11, .i .i64 i), (10, .ptr 2 0), (9, .i .i64 j), (8, .i .i64 k), (7, .i .i64 m), (6, .i .i64 n), (4, .ptr 1 0), (2, .ptr 0 0), (1, .sl (s0.map fR))], [(0, ⟨26, [.i .i64 n, .i .i64 n, .sl Ac, .i .i64 n, .i .i64 m, .sl Bc]⟩), (1, ⟨26, [.i .i64 0, .i .i64 0, .nl, .i .i64 0, .i .i64 0, .nl]⟩), (2, ⟨26, [.i .i64 k, .i .i64 k, .own 3 0 p 3, .i .i64 k, .i .i64 j, .own 4 0 q 3]⟩), (3, ⟨41, qrow us⟩), (4, ⟨41, qrow vs⟩), (6, ⟨41, qrow (vl k (F i))⟩)], 10⟩ st) ?_ ?_
   ·refine AX.sD (rgDEV [1, 2, 4, 6, 7, 8, 9, 10, 11, 12, 107, 108, 109] (aI @lit_add (aI @m1 (aI @m2 (aI @m3 (aI @m4 (aI @a1 (aI @a2 (aI @vl_mlen (aI @flatCells_q (aI @vl_len3 (aI @flat_q (aI @vl_one (aI @hT oT))))))))))))) oT (aI (sA2 _) (aI (sB _) oT))) ?_
    obtain ⟨w9, hw9⟩ : ∃ l, vl T (offF n k j A B i) = l := ⟨_, rfl⟩
    rw [← qrow_app, ← hvl, hw9]
    refine AX.weaken id (st' := ⟨[(109, .i .i64 (0 : Nat)), (108, .i .i64 T), (107, .own 9 0 T 3), (12, .own 6 0 k 3), (11, .i .i64 i), (10, .ptr 2 0), (9, .i .i64 j), (8, .i .i64 k), (7, .i .i64 m), (6, .i .i64 n), (4, .ptr 1 0), (2, .ptr 0 0), (1, .sl (s0.map fR))], [(0, ⟨26, [.i .i64 n, .i .i64 n, .sl Ac, .i .i64 n, .i .i64 m, .sl Bc]⟩), (1, ⟨26, [.i .i64 0, .i .i64 0, .nl, .i .i64 0, .i .i64 0, .nl]⟩), (2, ⟨26, [.i .i64 k, .i .i64 k, .own 3 0 p 3, .i .i64 k, .i .i64 j, .own 4 0 q 3]⟩), (3, ⟨41, qrow us⟩), (4, ⟨41, qrow vs⟩), (6, ⟨41, qrow (vl k (A i))⟩), (9, ⟨41, qrow w9⟩)], 10⟩)
     leQ5
     ?_
    refine AX.block ?_
    refine AX.loop (fun N st => ∃ (d : Nat) (xs : List Rat), d ≤ T ∧ N = T - d ∧ (xs = vl k fun c => if c = 0 then A i 0 + sumN d (offF n k j A B i) else A i c) ∧ st = ⟨[(109, .i .i64 d), (108, .i .i64 T), (107, .own 9 0 T 3), (12, .own 6 0 k 3), (11, .i .i64 i), (10, .ptr 2 0), (9, .i .i64 j), (8, .i .i64 k), (7, .i .i64 m), (6, .i .i64 n), (4, .ptr 1 0), (2, .ptr 0 0), (1, .sl (s0.map fR))], [(0, ⟨26, [.i .i64 n, .i .i64 n, .sl Ac, .i .i64 n, .i .i64 m, .sl Bc]⟩), (1, ⟨26, [.i .i64 0, .i .i64 0, .nl, .i .i64 0, .i .i64 0, .nl]⟩), (2, ⟨26, [.i .i64 k, .i .i64 k, .own 3 0 p 3, .i .i64 k, .i .i64 j, .own 4 0 q 3]⟩), (3, ⟨41, qrow us⟩), (4, ⟨41, qrow vs⟩), (6, ⟨41, qrow xs⟩), (9, ⟨41, qrow w9⟩)], 10⟩) T ⟨0, _, Nat.zero_le _, rfl, vl_congr fun c _ => by
     show _ = if c = 0 then A i 0 + 0 else A i c
     rw [Rat.add_zero]
     split
     ·rename_i h; rw [h]
     ·rfl, rfl⟩ ?_
    rintro N st ⟨d, xs, hd, rfl, hxs, rfl⟩
    by_cases h2 : d < T
    ·have hk0 : 0 < k := by omega
     have hl := vl_len3 k (fun c => if c = 0 then A i 0 + sumN d (offF n k j A B i) else A i c)
     have hg := vl_get3 (fun c => if c = 0 then A i 0 + sumN d (offF n k j A B i) else A i c) hk0
     have hset := vl_set3 (fun c => if c = 0 then A i 0 + sumN d (offF n k j A B i) else A i c) (A i 0 + sumN d (offF n k j A B i) + offF n k j A B i d) hk0
     rw [if_pos rfl] at hg
     rw [← hxs] at hl hg hset
     obtain ⟨ys, hys⟩ : ∃ ys, (vl k fun k' => if k' = 0 then A i 0 + sumN d (offF n k j A B i) + offF n k j A B i d else if k' = 0 then A i 0 + sumN d (offF n k j A B i) else A i k') = ys := ⟨_, rfl⟩
     rw [hys] at hset
     have hys' : ys = vl k fun c => if c = 0 then A i 0 + sumN (d + 1) (offF n k j A B i) else A i c := by
      rw [← hys]
      refine vl_congr fun c _ => ?_
      by_cases h : c = 0
      ·rw [if_pos h, if_pos h, sumN_succ, Rat.add_assoc]
      ·rw [if_neg h, if_neg h, if_neg h]
     have hl9 := vl_len3 T (offF n k j A B i)
     have hg9 := vl_get3 (offF n k j A B i) h2
     rw [hw9] at hl9 hg9
     have b1 := hsl d (by omega)
     have b2 := rL_add (A i 0) (sumN d (offF n k j A B i)) hA0 b1
     have b3 := hw d h2
     have ca : PCall Tryz.prog 33 [.agg [.b (decide ((A i 0 + sumN d (offF n k j A B i)).num < 0)), dg (digits (A i 0 + sumN d (offF n k j A B i)).num.natAbs), dg (digits (A i 0 + sumN d (offF n k j A B i)).den)], .agg [.b (decide ((offF n k j A B i d).num < 0)), dg (digits (offF n k j A B i d).num.natAbs), dg (digits (offF n k j A B i d).den)]] (.agg [.b (decide ((A i 0 + sumN d (offF n k j A B i) + offF n k j A B i d).num < 0)), dg (digits (A i 0 + sumN d (offF n k j A B i) + offF n k j A B i d).num.natAbs), dg (digits (A i 0 + sumN d (offF n k j A B i) + offF n k j A B i d).den)]) [] := padd_ok (L := 1000) (IsQ.of (by omega)) (IsQ.of (by omega)) (by decide) (by decide)
     rw [Nat.zero_mul] at hg hset
     rw [List.drop_zero] at hg
     clear hys hxs b1 b2 b3 hsl hw hvl hFi hA0
     generalize A i 0 + sumN d (offF n k j A B i) + offF n k j A B i d = y3 at *
     generalize A i 0 + sumN d (offF n k j A B i) = y1 at *
     generalize offF n k j A B i d = y2 at *
     refine AX.sR (rgAV [1, 2, 4, 6, 7, 8, 9, 10, 11, 12, 107, 108, 109, 110]) ?_
     refine AX.seq ?_
     refine AX.condT ?_
     refine AX.keepA [1, 2, 4, 6, 7, 8, 9, 10, 11, 12, 107, 108, 109] ?_
     refine AX.skip ?_
     refine nmZ ?_
     refine AX.seq ?_
     refine AX.block ?_
     refine AX.sR (rgWV [1, 2, 4, 6, 7, 8, 9, 10, 11, 12, 14, 107, 108, 109] (aI @hl9 (aI @hg9 oT)) oT) ?_
     refine AX.rD (rgDWV [1, 2, 4, 6, 7, 8, 9, 10, 11, 12, 107, 108, 109] (aI @hl (aI @hg oT)) (aI ca oT)) ?_
     refine nmZ ?_
     rw [hset]
     refine AX.rR (rgWV [1, 2, 4, 6, 7, 8, 9, 10, 11, 12, 107, 108, 109] (aI @lit_add oT) oT) ?_
     refine nmZ ?_
     refine ⟨_, _, id, ?_,
      leQ5
      , ⟨d + 1, ys, by omega, rfl, hys', rfl⟩⟩
     omega
    ·have e : d = T := by omega
     subst e
     have hxF : xs = vl k (F i) := by
      rw [hxs]
      exact vl_congr fun c _ => (hFi c).symm
     rw [hxF]
     refine AX.sR (rgAV [1, 2, 4, 6, 7, 8, 9, 10, 11, 12, 107, 108, 109, 110]) ?_
     refine AX.seq ?_
     refine AX.condF ?_
     refine AX.exit ?_
     refine nmZ ?_
     exact ⟨by first | exact trivial | rfl,
      leQ5
      ⟩
   rintro st hle
   refine AX.weaken id hle ?_
   clear hle hsl hw hvl hFi hA0
   have hlu : (qrow us).length = p * 3 := by rw [qrow_length, lu]
   have hlv : (qrow vs).length = q * 3 := by rw [qrow_length, lv]
   refine AX.sR (rgWV [1, 2, 4, 6, 7, 8, 9, 10, 11] (aI @hlu (aI @take_vl (aI @vl_len3 (aI @flat_q oT)))) oT) ?_
   refine AX.rD (rgDEV [1, 2, 4, 6, 7, 8, 9, 10, 11] (aI @m3 (aI @a2 (aI @hlv (aI @vl_mlen (aI @flatCells_q (aI @vl_len3 (aI @flat_q (aI @vl_one oT)))))))) oT (aI (sB2 _) oT)) ?_
   refine nmZ ?_
   rw [← qrow_app, ← qrow_app, hunext, hvnext]
   refine AX.rR (rgWV [1, 2, 4, 6, 7, 8, 9, 10, 11] (aI @lit_add oT) oT) ?_
   refine nmZ ?_
   refine ⟨_, _, fun n => if n = 3 then 10 else if n = 4 then 11 else n, ?_,
    leQ5
    , ⟨i + 1, p + k, q + j, _, _, by omega, rfl, by rw [hp, Nat.succ_mul], by rw [hq, Nat.succ_mul], rfl, rfl, rfl⟩⟩
   omega
  ·have e : i = k := by omega
   subst e
   have lu : us.length = p := by rw [hus, mcells_length, hp]
   have lv : vs.length = q := by rw [hvs, mcells_length, hq]
   subst lu lv
   refine AX.seq ?_
   refine AX.sR (rgAV [1, 2, 4, 6, 7, 8, 9, 10, 11, 62]) ?_
   refine AX.condF ?_
   refine AX.exit ?_
   refine nmZ ?_
   refine ⟨by first | exact trivial | rfl, us, vs, hus, hvs,
    leQ5
    ⟩
 rintro st ⟨us, vs, hus, hvs, hle⟩
 refine AX.weaken id hle ?_
 clear hle
 rw [← hus, ← hvs]
 refine AX.fz 3 (fr' := [(10, .ptr 2 0), (8, .i .i64 k), (4, .ptr 1 0), (1, .sl (s0.map fR))]) (hp' := [(1, ⟨26, [.i .i64 0, .i .i64 0, .nl, .i .i64 0, .i .i64 0, .nl]⟩), (2, ⟨26, [.i .i64 k, .i .i64 k, .sl (us.map rV), .i .i64 k, .i .i64 j, .own 4 0 vs.length 3]⟩), (4, ⟨41, qrow vs⟩)]) rfl (hf_q us) (.cons rfl .same (.cons rfl .same (.cons rfl .same (.cons rfl .same .nil)))) (.keep (by decide) rfl (.cons (by decide) rfl rfl rfl (fun t ht => ?_) (.keep (by decide) rfl .nil))) ?_
 ·have : t = 0 ∨ t = 1 ∨ t = 2 ∨ t = 3 ∨ t = 4 ∨ t = 5 := by simp at ht; omega
  rcases this with rfl | rfl | rfl | rfl | rfl | rfl
  ·exact .same
  ·exact .same
  ·exact .own (okFrz_q us) (by rw [take_q, chunks_q])
  ·exact .same
  ·exact .same
  ·exact .same
 refine AX.fz 4 (fr' := [(10, .ptr 2 0), (8, .i .i64 k), (4, .ptr 1 0), (1, .sl (s0.map fR))]) (hp' := [(1, ⟨26, [.i .i64 0, .i .i64 0, .nl, .i .i64 0, .i .i64 0, .nl]⟩), (2, ⟨26, [.i .i64 k, .i .i64 k, .sl (us.map rV), .i .i64 k, .i .i64 j, .sl (vs.map rV)]⟩)]) rfl (hf_q vs) (.cons rfl .same (.cons rfl .same (.cons rfl .same (.cons rfl .same .nil)))) (.keep (by decide) rfl (.cons (by decide) rfl rfl rfl (fun t ht => ?_) .nil)) ?_
 ·have : t = 0 ∨ t = 1 ∨ t = 2 ∨ t = 3 ∨ t = 4 ∨ t = 5 := by simp at ht; omega
  rcases this with rfl | rfl | rfl | rfl | rfl | rfl
  ·exact .same
  ·exact .same
  ·exact .same
  ·exact .same
  ·exact .same
  ·exact .own (okFrz_q vs) (by rw [take_q, chunks_q])
 obtain ⟨b, hb, hb1⟩ : ∃ b : Nat, (if (k : Int) < (s0.length : Int) then (k : Int) else (s0.length : Int)) = (b : Int) ∧ b = (if k < s0.length then k else s0.length) := ⟨_, by split <;> split <;> omega, rfl⟩
 have hbl : b ≤ s0.length := by rw [hb1]; split <;> omega
 have he := effHiR hbl
 rw [hfin b hb1] at he
 have hs0 : (s0.map fR).length = s0.length := List.length_map ..
 generalize (s0.take k).map fR = sk at *
 generalize s0.map fR = sl0 at *
 generalize us.map rV = Uc at *
 generalize vs.map rV = Vc at *
 refine AX.sD (rgDEV [4, 5] (aI @hs0 (aI @hb oT)) oT (aI he oT)) ?_
 refine AX.ret ⟨.inl rfl, ?_⟩
 exact dnQ5
end Go.Proofs.YtepkjfnffbdcoaaGreat
