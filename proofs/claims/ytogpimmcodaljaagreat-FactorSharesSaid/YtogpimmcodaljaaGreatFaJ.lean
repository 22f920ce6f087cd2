/- Factors: few (the walk). -/
import Derived.Test.YtogpimmcodaljaaGreatKA
set_option linter.unusedVariables false
set_option maxRecDepth 20000
set_option linter.unusedSimpArgs false
namespace Go.Proofs.YtogpimmcodaljaaGreat
open Go Go.Proofs.YtogpimmcodaljaaGreat.Lift
attribute [local irreducible] Lift.PCall Lift.HCall
theorem fHiN {l : List Nat} {b : Nat} (hb : b ≤ l.length) (x hi : Operand) : eff Tryz.prog (.slice 36 x none (some hi) none) [dg l, .i .i64 (b : Int)] = some (.val (dg (l.take b))) := by
 cases l with
 | nil =>
  have : b = 0 := by simpa using hb
  subst this
  simp only [eff, effSlice, lowHigh, sliceV, bound, Tryz.underlying36, lay_u32, Option.isSome_some, Option.isSome_none]
  rfl
 | cons a l =>
  have hl : ((a :: l).map u).length = l.length + 1 := by simp
  have h3 : (((a :: l).map u).getD 0 .junk).cells.length = 1 := rfl
  have ht : ((a :: l).map u).take b = ((a :: l).take b).map u := (List.map_take ..).symm
  unfold dg
  generalize (a :: l).map u = ls at *
  simp only [eff, effSlice, lowHigh, sliceV, bound, Tryz.underlying36, lay_u32, Option.isSome_some, Option.isSome_none]
  rw [if_pos ⟨by omega, by omega, by rw [hl]; simp at hb; omega, h3⟩, Int.toNat_natCast, ht]
  rfl
theorem fHiR {xs : List RT} {b : Nat} (hb : b ≤ xs.length) (x hi : Operand) : eff Tryz.prog (.slice 23 x none (some hi) none) [.sl (xs.map fR), .i .i64 (b : Int)] = some (.val (.sl ((xs.take b).map fR))) := by
 cases xs with
 | nil =>
  have : b = 0 := by simpa using hb
  subst this
  simp only [eff, effSlice, lowHigh, sliceV, bound, Tryz.underlying23, lay_ratio, Option.isSome_some, Option.isSome_none]
  rfl
 | cons a l =>
  have hl : ((a :: l).map fR).length = l.length + 1 := by simp
  have h3 : (((a :: l).map fR).getD 0 .junk).cells.length = 3 := rfl
  have ht : ((a :: l).map fR).take b = ((a :: l).take b).map fR := (List.map_take ..).symm
  generalize (a :: l).map fR = ls at *
  simp only [eff, effSlice, lowHigh, sliceV, bound, Tryz.underlying23, lay_ratio, Option.isSome_some, Option.isSome_none]
  rw [if_pos ⟨by omega, by omega, by rw [hl]; simp at hb; omega, h3⟩, Int.toNat_natCast, ht]
  rfl
theorem fHiZ {xs : List Int} {b : Nat} (hb : b ≤ xs.length) (x hi : Operand) : eff Tryz.prog (.slice 22 x none (some hi) none) [.sl (zl xs), .i .i64 (b : Int)] = some (.val (.sl (zl (xs.take b)))) := by
 cases xs with
 | nil =>
  have : b = 0 := by simpa using hb
  subst this
  simp only [eff, effSlice, lowHigh, sliceV, bound, Tryz.underlying22, fa_lay_int, Option.isSome_some, Option.isSome_none]
  rfl
 | cons a l =>
  have hl : (zl (a :: l)).length = l.length + 1 := by simp [zl]
  have h3 : ((zl (a :: l)).getD 0 .junk).cells.length = 1 := rfl
  have ht : (zl (a :: l)).take b = zl ((a :: l).take b) := (List.map_take ..).symm
  generalize zl (a :: l) = ls at *
  simp only [eff, effSlice, lowHigh, sliceV, bound, Tryz.underlying22, fa_lay_int, Option.isSome_some, Option.isSome_none]
  rw [if_pos ⟨by omega, by omega, by rw [hl]; simp at hb; omega, h3⟩, Int.toNat_natCast, ht]
  rfl
theorem fIxZ {els : List V} {j : Nat} {x y : Operand} (hj : j < els.length) {n : Int} (he : els.getD j .junk = .i .i64 n) : eff Tryz.prog (.indexAddr 22 x y) [.sl els, .i .i64 (j : Int)] = some (.val (.rp [.i .i64 n])) := by
 simp only [eff, effIndexAddr, Tryz.underlying22, fa_lay_int, Int.toNat_natCast, he]
 rw [if_pos ⟨by omega, by omega, rfl⟩]
 rfl
theorem fmin {α : Type} (l : List α) (m : Nat) : ∃ b : Nat, (if (m : Int) < (l.length : Int) then (m : Int) else (l.length : Int)) = (b : Int) ∧ b ≤ l.length ∧ l.take b = l.take m ∧ b ≤ m := by
 by_cases h : m < l.length
 ·exact ⟨m, if_pos (by omega), by omega, rfl, Nat.le_refl _⟩
 ·exact ⟨l.length, if_neg (by omega), Nat.le_refl _, by rw [List.take_length, List.take_of_length_le (by omega)], by omega⟩
def fcut (x : RT) : RT := (x.1, x.2.1.take 3, x.2.2.take 3)
def frw (xs : List RT) : List V := xs.flatMap fun x => (fR x).cells
theorem frw_app (xs : List RT) (x : RT) : frw xs ++ [.b x.1, dg x.2.1, dg x.2.2] = frw (xs ++ [x]) := by
 unfold frw
 rw [List.flatMap_append]
 simp only [List.flatMap_cons, List.flatMap_nil, List.append_nil]
 rfl
theorem frw_length (xs : List RT) : (frw xs).length = xs.length * 3 := by
 induction xs with
 | nil => rfl
 | cons x xs ih =>
  show ((fR x).cells ++ frw xs).length = _
  rw [List.length_append, ih, List.length_cons]
  show 3 + xs.length * 3 = _
  omega
theorem frw_hf (xs : List RT) : V.hfL (frw xs) = true ∧ (frw xs).all V.flat = true := by
 induction xs with
 | nil => exact ⟨rfl, rfl⟩
 | cons x xs ih =>
  show V.hfL ((fR x).cells ++ frw xs) = true ∧ ((fR x).cells ++ frw xs).all V.flat = true
  rw [hfL_app, ih.1, List.all_append, ih.2]
  exact ⟨rfl, rfl⟩
theorem ren_frw (f : Nat → Nat) (xs : List RT) : V.renL f (frw xs) = frw xs := (hf_names f 0 _ (frw_hf xs).1).1
theorem lt_frw (k : Nat) (xs : List RT) : V.ltL k (frw xs) = true := (hf_names id k _ (frw_hf xs).1).2
theorem frw_drop (xs : List RT) : ∀ j, (frw xs).drop (j * 3) = frw (xs.drop j) := by
 induction xs with
 | nil => intro j; simp [frw]
 | cons x xs ih =>
  intro j
  cases j with
  | zero => rfl
  | succ j =>
   show ((fR x).cells ++ frw xs).drop _ = _
   rw [List.drop_succ_cons, ← ih j, show (j + 1) * 3 = j * 3 + 3 by omega]
   rfl
theorem chunks_frw (xs : List RT) : chunks 3 xs.length (frw xs) = xs.map fR := by
 unfold chunks
 rw [if_neg (by omega)]
 apply List.ext_getElem?
 intro j
 by_cases h : j < xs.length
 ·simp only [List.getElem?_map, List.getElem?_range h, List.getElem?_eq_getElem h, Option.map_some]
  rw [frw_drop, ← List.getElem_cons_drop h]
  rfl
 ·rw [List.getElem?_eq_none (by simp; omega), List.getElem?_eq_none (by simp; omega)]
theorem leQ4 {g : Nat} {f : Nat → Nat} {st' st : St} (h1 : LeFr f st.fr st'.nx st'.fr := by simp only [ren_q, renL_u, ren_zl, ren_tb, ren_frw, lt_q, ltL_u, lt_zl, lt_tb, lt_frw, LeFr, LeHp, lkp, V.ren, V.renL, Row.ren, V.lt, V.ltL, renL_u, ltL_u, List.length_append, List.length_cons, List.length_nil, List.length_set, id_eq, Option.some.injEq, V.i.injEq, V.b.injEq, V.own.injEq, Row.mk.injEq, decide_true, decide_eq_true_eq, true_and, and_true, Bool.and_true, Bool.true_and, if_true, if_false, and_self, Nat.reduceLT, Nat.reduceLeDiff, Nat.reduceEqDiff, Nat.reduceAdd, Nat.reduceSub, Nat.reduceMul, Nat.reducePow, Nat.reduceBEq, Int.reduceLE, Int.reduceLT, Int.reduceToNat, Int.reduceEq, Int.reduceNeg, reduceIte, reduceCtorEq] <;> (first | done | trivial | (and_intros <;> first | trivial | omega | assumption)))
  (h2 : LeHp f st.hp st'.nx st'.hp := by simp only [ren_q, renL_u, ren_zl, ren_tb, ren_frw, lt_q, ltL_u, lt_zl, lt_tb, lt_frw, LeFr, LeHp, lkp, V.ren, V.renL, Row.ren, V.lt, V.ltL, renL_u, ltL_u, List.length_append, List.length_cons, List.length_nil, List.length_set, id_eq, Option.some.injEq, V.i.injEq, V.b.injEq, V.own.injEq, Row.mk.injEq, decide_true, decide_eq_true_eq, true_and, and_true, Bool.and_true, Bool.true_and, if_true, if_false, and_self, Nat.reduceLT, Nat.reduceLeDiff, Nat.reduceEqDiff, Nat.reduceAdd, Nat.reduceSub, Nat.reduceMul, Nat.reducePow, Nat.reduceBEq, Int.reduceLE, Int.reduceLT, Int.reduceToNat, Int.reduceEq, Int.reduceNeg, reduceIte, reduceCtorEq] <;> (first | done | trivial | (and_intros <;> first | trivial | omega | assumption)))
  (h3 : Apart f st'.hp := by simp [Apart]) (h4 : g ≤ st'.nx := by first | exact Nat.zero_le _ | simp) (h5 : ∀ n, n < g → f n = n := by intro n hn; first | rfl | exact absurd hn (Nat.not_lt_zero _) | (have h0 : n = 0 := Nat.lt_one_iff.1 hn; subst h0; rfl)) : Le g f st' st := ⟨h1, h2, h3, h4, h5⟩
theorem take_frw (xs : List RT) : (List.drop 0 (frw xs)).take (xs.length * 3) = frw xs := by rw [List.drop_zero, ← frw_length, List.take_length]
theorem okFrz_frw (xs : List RT) : okFrz 0 xs.length 3 (frw xs) = true := by
 unfold okFrz
 rw [take_frw, (frw_hf xs).1, (frw_hf xs).2, frw_length]
 simp
theorem Lift.Done.facA {st : St} {t : Tmp} {h : Nat} {T T' : TypeId} {z z1 z2 z3 : List V} (hL : lay Tryz.prog T' = some ⟨3, true, 72, z⟩) (h1 : lkp st.fr t = some (.ptr h 0)) (g1 : lkp st.hp h = some ⟨T, [.sl z1, .sl z2, .sl z3]⟩) :
  Done Tryz.prog #[.cell t T'] (.agg [.sl z1, .sl z2, .sl z3]) [] st := by
 refine Done.of (vs := [.agg [.sl z1, .sl z2, .sl z3]]) (hp := st.hp) ?_ ?_ rfl ?_ ?_
 ·simp only [resVs, resV, h1, g1, hL]; rfl
 ·rfl
 ·simp only [V.lt, V.ltL]; rfl
 ·simp only [V.ren, V.renL]
inductive Fv : List Int → List Int → List RT → List Int → List Int → List RT → Prop
 | bad {vs ws : List Int} {xs : List RT} : isF vs ws xs = false → Fv vs ws xs vs ws xs
 | good {t : Nat → Nat} {q : Nat → Rat} {t' : Nat → Nat} {q' : Nat → Rat} : okT t → (∀ k, k < szT t → rL (q k) ≤ 3) → okT t' → (∀ k, k < szT t' → rL (q' k) ≤ 3) → szT t' ≤ 64 → Fw t q t' q' → Fv (ci (vsT t)) (ci (asT t)) (xsT t q) (ci (vsT t')) (ci (asT t')) (xsT t' q')
set_option maxHeartbeats 16000000 in
theorem ffew_walk (vs ws : List Int) (xs : List RT) (hv : vs.length < 2 ^ 62) (ha : ws.length < 2 ^ 62) (hl : xs.length < 2 ^ 62) (hx : ∀ x ∈ xs, Dg x.2.1 ∧ Dg x.2.2 ∧ x.2.1.length < 2 ^ 62 ∧ x.2.2.length < 2 ^ 62) (vf wf : List Int) (xf : List RT) (hfv : Fv (vs.take 70) (ws.take 70) ((xs.take 5000).map fcut) vf wf xf) :
  PCall Tryz.prog 5 [fV vs ws xs] (fV vf wf xf) [] := by
 obtain ⟨b1, m1, l1, t1, _⟩ := fmin vs 70
 obtain ⟨b2, m2, l2, t2, _⟩ := fmin ws 70
 obtain ⟨b3, m3, l3, t3, k3⟩ := fmin xs 5000
 have e1 := fHiZ l1
 have e2 := fHiZ l2
 have e3 := fHiR l3
 rw [t1] at e1
 rw [t2] at e2
 rw [t3] at e3
 have hvl := zl_length vs
 have hwl := zl_length ws
 have hxl : (xs.map fR).length = xs.length := List.length_map ..
 have hA : (vs.take 70).length ≤ 70 := by rw [List.length_take]; omega
 have hB : (ws.take 70).length ≤ 70 := by rw [List.length_take]; omega
 have hb3 : b3 = (xs.take 5000).length := by rw [← t3, List.length_take]; omega
 have hxo : okX ((xs.take 5000).map fcut) := fun x h => by
  obtain ⟨y, hy, rfl⟩ := List.mem_map.1 h
  obtain ⟨d1, d2, _⟩ := hx y (List.mem_of_mem_take hy)
  refine ⟨fun z hz => d1 z (List.mem_of_mem_take hz), fun z hz => d2 z (List.mem_of_mem_take hz), ?_, ?_⟩
  ·show (y.2.1.take 3).length < _
   rw [List.length_take]; omega
  ·show (y.2.2.take 3).length < _
   rw [List.length_take]; omega
 have hx' : ∀ x ∈ xs.take 5000, x.2.1.length < 2 ^ 62 ∧ x.2.2.length < 2 ^ 62 := fun x h => (hx x (List.mem_of_mem_take h)).2.2
 have m1 : (if (70 : Int) < (vs.length : Int) then (70 : Int) else (vs.length : Int)) = (b1 : Int) := m1
 have m2 : (if (70 : Int) < (ws.length : Int) then (70 : Int) else (ws.length : Int)) = (b2 : Int) := m2
 have m3 : (if (5000 : Int) < (xs.length : Int) then (5000 : Int) else (xs.length : Int)) = (b3 : Int) := m3
 generalize vs.take 70 = A at *
 generalize ws.take 70 = B at *
 generalize xs.take 5000 = ys at *
 have hml : (ys.map fR).length = b3 := by rw [List.length_map, hb3]
 have hix := fun (j : Nat) (h1 : j < ys.length) => fun x y => effIxR (x := x) (y := y) (els := ys.map fR) (j := j) (s := (ys.getD j d0).1) (a := (ys.getD j d0).2.1) (b := (ys.getD j d0).2.2) (by rw [List.length_map]; exact h1) (by rw [List.getD_eq_getElem?_getD, List.getElem?_map, List.getElem?_eq_getElem h1, List.getD_eq_getElem?_getD, List.getElem?_eq_getElem h1]; rfl)
 clear hx t1 t2 t3
 unfold fV
 generalize xs.map fR = xl at *
 generalize hyl : ys.map fR = yl at *
 generalize zl vs = V1 at *
 generalize zl ws = V2 at *
 refine PCall.of_ax Tryz.call5 Tryz.func5 rfl (by simp [Tryz.ntmps5]) fun O w0 => ?_
 simp only [Tryz.ntmps5, Tryz.results5, argFr]
 refine AX.sR (rgAV [1, 2]) ?_
 refine AX.sD (rgDEV [1, 2, 3] (aI @hvl (aI @hwl (aI @m1 (aI @m2 oT)))) oT (aI e1 (aI e2 oT))) ?_
 refine AX.own0c 2 2 38 3 rfl rfl (by show 2 < 3; decide) ?_
 refine AX.seq ?_
 refine AX.sR (rgEV [2, 3, 30, 31, 32] (aI @hxl (aI @m3 (aI @hml oT))) oT (aI e3 oT)) ?_
 refine AX.weaken id (st' := ⟨[(32, .i .i64 (0 : Nat)), (31, .i .i64 b3), (30, .sl yl), (3, .ptr 2 0), (2, .ptr 1 0)], [(3, ⟨38, frw []⟩), (2, ⟨25, [.sl (zl A), .sl (zl B), .own 3 0 (0 : Nat) 3]⟩), (1, ⟨25, [.nl, .nl, .nl]⟩)], 4⟩)
  leQ4
  ?_
 refine AX.block ?_
 refine AX.loop (fun N st => ∃ (j : Nat) (zs : List RT), j ≤ b3 ∧ N = b3 - j ∧ zs = (ys.take j).map fcut ∧ st = ⟨[(32, .i .i64 j), (31, .i .i64 b3), (30, .sl yl), (3, .ptr 2 0), (2, .ptr 1 0)], [(3, ⟨38, frw zs⟩), (2, ⟨25, [.sl (zl A), .sl (zl B), .own 3 0 j 3]⟩), (1, ⟨25, [.nl, .nl, .nl]⟩)], 4⟩) b3 ⟨0, [], Nat.zero_le _, rfl, rfl, rfl⟩ ?_
 rintro N st ⟨j, zs, hj, rfl, hzs, rfl⟩
 by_cases h1 : j < b3
 ·have hj' : j < ys.length := by omega
  have hix1 := hix j hj'
  obtain ⟨y1, y2⟩ := hx' _ (getD_mem_RT hj')
  obtain ⟨c1, n1, n2, n3, _⟩ := fmin (ys.getD j d0).2.1 3
  obtain ⟨c2, o1, o2, o3, _⟩ := fmin (ys.getD j d0).2.2 3
  have f1 := fHiN n2
  have f2 := fHiN o2
  rw [n3] at f1
  rw [o3] at f2
  have hlen : (frw zs).length = j * 3 := by rw [frw_length, hzs, List.length_map, List.length_take]; omega
  have hrow := frw_app zs (fcut (ys.getD j d0))
  have hnew : zs ++ [fcut (ys.getD j d0)] = (ys.take (j + 1)).map fcut := by
   rw [hzs, List.take_add_one, List.map_append, List.getElem?_eq_getElem hj', List.getD_eq_getElem?_getD, List.getElem?_eq_getElem hj']
   rfl
  clear hix hx' e1 e2 e3 hfv hxo n3 o3
  generalize zs ++ [fcut (ys.getD j d0)] = us at *
  have hrow : frw zs ++ [.b (ys.getD j d0).1, dg ((ys.getD j d0).2.1.take 3), dg ((ys.getD j d0).2.2.take 3)] = frw us := hrow
  generalize ys.getD j d0 = x at *
  obtain ⟨s, p, q⟩ := x
  dsimp only at f1 f2 hix1 hrow n1 o1 y1 y2
  have n1 : (if (3 : Int) < (p.length : Int) then (3 : Int) else (p.length : Int)) = (c1 : Int) := n1
  have o1 : (if (3 : Int) < (q.length : Int) then (3 : Int) else (q.length : Int)) = (c2 : Int) := o1
  generalize p.take 3 = p3 at *
  generalize q.take 3 = q3 at *
  refine AX.sR (rgAV [2, 3, 30, 31, 32, 33]) ?_
  refine AX.seq ?_
  refine AX.condT ?_
  refine AX.keepA [2, 3, 30, 31, 32] ?_
  refine AX.skip ?_
  refine nmZ ?_
  refine AX.seq ?_
  refine AX.block ?_
  refine AX.sR (rgEV [2, 3, 5, 30, 31, 32] oT oT (aI hix1 oT)) ?_
  refine AX.rD (rgDEV [2, 3, 30, 31, 32] (aI @hlen (aI @n1 (aI @o1 (aI @zerosV_1 (aI @tkS (aI @tk0 oT)))))) oT (aI f1 (aI f2 oT))) ?_
  refine nmZ ?_
  rw [hrow]
  refine AX.rR (rgWV [2, 3, 30, 31, 32] (aI @lit_add oT) oT) ?_
  refine nmZ ?_
  refine ⟨_, _, fun n => if n = 3 then 6 else n, ?_,
   leQ4
   , ⟨j + 1, us, by omega, rfl, hnew, rfl⟩⟩
  omega
 ·have e : j = b3 := by omega
  have hfin : zs = ys.map fcut := by rw [hzs, List.take_of_length_le (by omega)]
  subst e
  refine AX.sR (rgAV [2, 3, 30, 31, 32, 33]) ?_
  refine AX.seq ?_
  refine AX.condF ?_
  refine AX.exit ?_
  refine nmZ ?_
  rw [← hfin] at hfv hxo
  have k1 : j = zs.length := by rw [hfin, List.length_map, hb3]
  have o1 : okFrz 0 j 3 (frw zs) = true := by rw [k1]; exact okFrz_frw zs
  have o2 : chunks 3 j ((List.drop 0 (frw zs)).take (j * 3)) = zs.map fR := by rw [k1, take_frw]; exact chunks_frw zs
  have hz5 : zs.length ≤ 5000 := by omega
  refine AX.keepA [2, 3] ?_
  refine AX.fz 3 (fr' := [(2, .ptr 1 0), (3, .ptr 2 0)]) (hp' := [(2, ⟨25, [.sl (zl A), .sl (zl B), .sl (zs.map fR)]⟩), (1, ⟨25, [.nl, .nl, .nl]⟩)]) rfl (frw_hf zs).1 (.cons rfl .same (.cons rfl .same .nil)) (.cons (by decide) rfl rfl rfl (fun t ht => ?_) (.keep (by decide) rfl .nil)) ?_
  ·have : t = 0 ∨ t = 1 ∨ t = 2 := by simp at ht; omega
   rcases this with rfl | rfl | rfl
   ·exact .same
   ·exact .same
   ·exact .own o1 o2
  clear o1 o2 k1 hfin hzs hix hx' e1 e2 e3 hml hyl hvl hwl hxl m1 m2 m3 h1
  refine AX.seq ?_
  refine AX.block ?_
  refine AX.loop (fun N st => ∃ (ps qs : List Int) (us : List RT), Fv ps qs us vf wf xf ∧ N = ps.length ∧ ps.length ≤ 70 ∧ qs.length ≤ 70 ∧ us.length ≤ 5000 ∧ okX us ∧ st = ⟨[(2, .ptr 1 0), (3, .ptr 2 0)], [(2, ⟨25, [.sl (zl ps), .sl (zl qs), .sl (us.map fR)]⟩), (1, ⟨25, [.nl, .nl, .nl]⟩)], 4⟩) A.length ⟨A, B, zs, hfv, rfl, hA, hB, hz5, hxo, rfl⟩ ?_
  rintro N st ⟨ps, qs, us, hfv, rfl, hp, hq, hu, hxo, rfl⟩
  refine AX.seq ?_
  have cr := fright26_ok ps qs us (by omega) (by omega) (by omega) hxo
  have hul : (us.map fR).length = us.length := List.length_map ..
  cases hfv with
  | bad hbad =>
   rw [hbad] at cr
   unfold fV at cr
   refine AX.sR (rgCV [2, 3, 66] (aI cr oT)) ?_
   refine AX.condF ?_
   refine AX.exit ?_
   refine nmZ ?_
   refine AX.sR (rgAV [2]) ?_
   refine AX.ret ⟨.inl rfl, ?_⟩
   exact Lift.Done.facA fa_lay_fac rfl rfl
  | @good t q t' q' ht hq1 ht' hq2 hs hfw =>
   rw [isF_T ht] at cr
   rw [xsT_length] at hul
   rcases hfw.inv with ⟨hst, r1, r2⟩ | ⟨hst, hfw⟩
   ·rw [r1, r2]
    have hg : ¬ (64 : Int) < (szT t : Int) := by omega
    unfold fV at cr
    generalize zl (ci (vsT t)) = Z1 at *
    generalize zl (ci (asT t)) = Z2 at *
    generalize (xsT t q).map fR = Z3 at *
    refine AX.sR (rgWV [2, 3, 66] (aI @hul (aI @hg oT)) (aI cr oT)) ?_
    refine AX.condF ?_
    refine AX.exit ?_
    refine nmZ ?_
    refine AX.sR (rgAV [2]) ?_
    refine AX.ret ⟨.inl rfl, ?_⟩
    exact Lift.Done.facA fa_lay_fac rfl rfl
   ·have hg : (64 : Int) < (szT t : Int) := by omega
    obtain ⟨v1, v2⟩ := lastT_ok (t := t) (by omega)
    have cw := frestrict26_ok t q ht 3 hq1 (by decide) (lastT t) v1 v2 0 (by omega)
    have cw : PCall Tryz.prog 11 [FV t q, .i .i64 (lastT t), .i .i64 0] (.tup [FV (updT t (lastT t) 0) (woQ t q (lastT t) 2 ((0 : Nat) : Int)), .i .i64 0]) [] := cw
    have hdl := vsT_del_len v1 v2
    have hn64 := vsT_len t
    have hfv := Fv.good (okT_del ht (lastT t)) (fun k _ => fw_q ht hq1 v2 k) ht' hq2 hs hfw
    have hok := (okT_del ht (lastT t)).2
    have hxo2 := (xsT_okY (t := updT t (lastT t) 0) (q := woQ t q (lastT t) 2 ((0 : Nat) : Int)) (fun k _ => by have := fw_q ht hq1 v2 k; omega)).x
    have hxl2 := xsT_length (updT t (lastT t) 0) (woQ t q (lastT t) 2 ((0 : Nat) : Int))
    have hvp := vsT_pos (t := t) (by omega)
    obtain ⟨n, hn⟩ : ∃ n, (vsT t).length = n := ⟨_, rfl⟩
    obtain ⟨m, hm⟩ : ∃ m, n - 1 = m := ⟨_, rfl⟩
    have hzv : (zl (ci (vsT t))).length = n := (zn_length _).trans hn
    have hmn : m < n := by omega
    have hm64 : m < 64 := by omega
    have hgl : (zl (ci (vsT t))).getD m .junk = .i .i64 ((lastT t : Nat) : Int) := by
     have := zn_get (l := vsT t) (j := m) (by omega)
     unfold lastT
     rw [hn, hm]
     exact this
    have hm1 : (n : Int) - 1 = (m : Int) := by omega
    have hc2 : (ci (vsT (updT t (lastT t) 0))).length < (ci (vsT t)).length := by rw [ci_length, ci_length]; exact hdl
    have hc3 : (ci (asT (updT t (lastT t) 0))).length ≤ 70 := by rw [ci_length, asT_len]; have := vsT_len (updT t (lastT t) 0); omega
    unfold FV at cw
    unfold fV at cw cr
    generalize woQ t q (lastT t) 2 ((0 : Nat) : Int) = Q at *
    generalize updT t (lastT t) 0 = T at *
    generalize lastT t = d at *
    generalize (ci (vsT t)).length = N0 at *
    generalize zl (ci (vsT t)) = Z1 at *
    generalize zl (ci (asT t)) = Z2 at *
    generalize (xsT t q).map fR = Z3 at *
    generalize ci (vsT T) = P1 at *
    generalize ci (asT T) = P2 at *
    generalize xsT T Q = P3 at *
    refine AX.sR (rgWV [2, 3, 66] (aI @hul (aI @hg oT)) (aI cr oT)) ?_
    refine AX.condT ?_
    refine AX.keepA [2, 3] ?_
    refine AX.skip ?_
    refine nmZ ?_
    refine AX.block ?_
    refine AX.sR (rgWV [2, 3, 6] (aI @hzv (aI @hm1 oT)) oT) ?_
    have hex := fun x y => fIxZ (x := x) (y := y) (j := m) (by omega) hgl
    refine AX.sD (rgDEV [2, 3, 7] oT (aI cw oT) (aI hex oT)) ?_
    refine AX.rR (rgAV [2, 3]) ?_
    refine nmZ ?_
    refine ⟨_, _, id, ?_,
     leQ4
     , ⟨P1, P2, P3, hfv, rfl, by omega, hc3, by omega, hxo2, rfl⟩⟩
    omega
end Go.Proofs.YtogpimmcodaljaaGreat
