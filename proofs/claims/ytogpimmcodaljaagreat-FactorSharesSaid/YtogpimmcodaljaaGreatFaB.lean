/- Factors: lists of whole numbers, sizes, what is right (the program's and the reference's). -/
import Derived.Test.YtogpimmcodaljaaGreatFaA
set_option linter.unusedVariables false
set_option maxRecDepth 20000
set_option linter.unusedSimpArgs false
namespace Go.Proofs.YtogpimmcodaljaaGreat
open Go Go.Proofs.YtogpimmcodaljaaGreat.Lift
attribute [local irreducible] Lift.PCall Lift.HCall
def zl (l : List Int) : List V := l.map fun n => V.i .i64 n
def zn (l : List Nat) : List V := zl (l.map fun n : Nat => (n : Int))
theorem zl_length (l : List Int) : (zl l).length = l.length := List.length_map ..
theorem zl_get {l : List Int} {j : Nat} (h : j < l.length) : (zl l).getD j .junk = .i .i64 (l.getD j 0) := by
 simp [zl, List.getD_eq_getElem?_getD, h]
theorem zl_app (l : List Int) (x : Int) : zl l ++ [.i .i64 x] = zl (l ++ [x]) := by simp [zl]
theorem zl_hf (l : List Int) : V.hfL (zl l) = true ∧ (zl l).all V.flat = true := by
 induction l with
 | nil => exact ⟨rfl, rfl⟩
 | cons a l ih =>
  refine ⟨?_, ?_⟩
  ·show V.hfL (V.i .i64 a :: zl l) = true
   simp only [V.hfL, ih.1, V.hf, Bool.and_self]
  ·show (V.i .i64 a :: zl l).all V.flat = true
   rw [List.all_cons, ih.2]
   rfl
theorem ren_zl (f : Nat → Nat) (l : List Int) : V.renL f (zl l) = zl l := (hf_names f 0 _ (zl_hf l).1).1
theorem lt_zl (k : Nat) (l : List Int) : V.ltL k (zl l) = true := (hf_names id k _ (zl_hf l).1).2
theorem cast_get (l : List Nat) (j : Nat) : (l.map fun n : Nat => (n : Int)).getD j 0 = ((l.getD j 0 : Nat) : Int) := by
 rw [List.getD_eq_getElem?_getD, List.getD_eq_getElem?_getD, List.getElem?_map]
 cases l[j]? <;> rfl
theorem zn_length (l : List Nat) : (zn l).length = l.length := by rw [zn, zl_length, List.length_map]
theorem zn_get {l : List Nat} {j : Nat} (h : j < l.length) : (zn l).getD j .junk = .i .i64 ((l.getD j 0 : Nat) : Int) := by
 rw [zn, zl_get (by rw [List.length_map]; exact h), cast_get]
theorem fa_lay_ints : lay Tryz.prog 22 = some ⟨1, false, 24, [.nl]⟩ := by kernel_rfl
theorem fa_lay_int : lay Tryz.prog 3 = some ⟨1, false, 8, [.i .i64 0]⟩ := by kernel_rfl
theorem fa_lay_fac : lay Tryz.prog 25 = some ⟨3, true, 72, [.nl, .nl, .nl]⟩ := by kernel_rfl
theorem fa_lay_fac26 : lay Tryz.prog 30 = some ⟨3, true, 72, [.nl, .nl, .nl]⟩ := by kernel_rfl
attribute [go_sem] Tryz.underlying22 Tryz.underlying25 Tryz.underlying30 fa_lay_ints fa_lay_int fa_lay_fac fa_lay_fac26
def prZ (ws : List Int) : Nat → Nat
 | 0 => 1
 | i + 1 => prZ ws i * (ws.getD i 0).toNat
theorem prZ_succ (ws : List Int) (i : Nat) : prZ ws (i + 1) = prZ ws i * (ws.getD i 0).toNat := rfl
theorem prZ_mono {ws : List Int} {m : Nat} (h : ∀ j, j < m → 1 ≤ ws.getD j 0) : ∀ i, i ≤ m → prZ ws i ≤ prZ ws m := by
 induction m with
 | zero => intro i hi; obtain rfl : i = 0 := (by omega); exact Nat.le_refl _
 | succ m ih =>
  intro i hi
  by_cases e : i = m + 1
  ·rw [e]; exact Nat.le_refl _
  ·have h1 := h m (by omega)
   exact Nat.le_trans (ih (fun j hj => h j (by omega)) i (by omega)) (Nat.le_mul_of_pos_right _ (by omega))
theorem min_step {p a : Nat} (ha : 1 ≤ a) : min (min p 4097 * a) 4097 = min (p * a) 4097 := by
 by_cases h : p ≤ 4097
 ·rw [Nat.min_eq_left h]
 ·have e : min p 4097 = 4097 := by omega
  rw [e]
  have h1 : 4097 ≤ 4097 * a := Nat.le_mul_of_pos_right _ ha
  have h2 : 4097 * a ≤ p * a := Nat.mul_le_mul_right _ (by omega)
  omega
set_option maxHeartbeats 4000000 in
theorem fsize_ok (ws : List Int) (hl : ws.length < 2 ^ 40) (h : ∀ j, j < ws.length → 1 ≤ ws.getD j 0 ∧ ws.getD j 0 ≤ 64) : PCall Tryz.prog 63 [.sl (zl ws)] (.i .i64 ((min (prZ ws ws.length) 4097 : Nat) : Int)) [] := by
 refine PCall.of_ax Tryz.call63 Tryz.func63 rfl (by simp [Tryz.ntmps63]) fun O w0 => ?_
 simp only [Tryz.ntmps63, Tryz.results63, argFr]
 have hzl := zl_length ws
 have hzg := fun j (hj : j < ws.length) => zl_get hj
 generalize zl ws = A at *
 refine AX.sR (rgAV [0]) ?_
 refine AX.sR (rgAV [0, 3]) ?_
 refine AX.seq ?_
 refine AX.sR (rgWV [3, 6, 7, 8] (aI @hzl oT) oT) ?_
 refine AX.weaken id (st' := ⟨[(8, .i .i64 (0 : Nat)), (7, .i .i64 ws.length), (6, .sl A), (3, .i .i64 ((min (prZ ws 0) 4097 : Nat) : Int))], [], 0⟩)
  ⟨by simp only [LeFr, LeHp, lkp, V.ren, V.renL, Row.ren, V.lt, V.ltL, renL_u, ltL_u, List.length_append, List.length_cons, List.length_nil, List.length_set, id_eq, Option.some.injEq, V.i.injEq, V.b.injEq, V.own.injEq, Row.mk.injEq, decide_true, decide_eq_true_eq, true_and, and_true, Bool.and_true, Bool.true_and, if_true, if_false, and_self, Nat.reduceLT, Nat.reduceLeDiff, Nat.reduceEqDiff, Nat.reduceAdd, Nat.reduceSub, Nat.reduceMul, Nat.reducePow, Nat.reduceBEq, Int.reduceLE, Int.reduceLT, Int.reduceToNat, Int.reduceEq, Int.reduceNeg, reduceIte, reduceCtorEq] <;> (first | done | trivial | (and_intros <;> first | trivial | omega | (rfl))), by simp only [LeFr, LeHp, lkp, V.ren, V.renL, Row.ren, V.lt, V.ltL, renL_u, ltL_u, List.length_append, List.length_cons, List.length_nil, List.length_set, id_eq, Option.some.injEq, V.i.injEq, V.b.injEq, V.own.injEq, Row.mk.injEq, decide_true, decide_eq_true_eq, true_and, and_true, Bool.and_true, Bool.true_and, if_true, if_false, and_self, Nat.reduceLT, Nat.reduceLeDiff, Nat.reduceEqDiff, Nat.reduceAdd, Nat.reduceSub, Nat.reduceMul, Nat.reducePow, Nat.reduceBEq, Int.reduceLE, Int.reduceLT, Int.reduceToNat, Int.reduceEq, Int.reduceNeg, reduceIte, reduceCtorEq] <;> (first | done | trivial | (and_intros <;> first | trivial | omega | (rfl))), by simp [Apart], by first | exact Nat.zero_le _ | simp, by intro n hn; first | rfl | exact absurd hn (Nat.not_lt_zero _) | (have h0 : n = 0 := Nat.lt_one_iff.1 hn; subst h0; rfl)⟩
  ?_
 refine AX.block ?_
 refine AX.loop (fun N st => ∃ (i M : Nat), i ≤ ws.length ∧ N = ws.length - i ∧ M = min (prZ ws i) 4097 ∧ st = ⟨[(8, .i .i64 i), (7, .i .i64 ws.length), (6, .sl A), (3, .i .i64 M)], [], 0⟩) ws.length ⟨0, _, Nat.zero_le _, rfl, rfl, rfl⟩ ?_
 rintro N st ⟨i, M, hi, rfl, hM, rfl⟩
 by_cases h1 : i < ws.length
 ·have hg := hzg i h1
  obtain ⟨g1, g2⟩ := h i h1
  obtain ⟨b, hb⟩ : ∃ b : Nat, ws.getD i 0 = (b : Int) := ⟨(ws.getD i 0).toNat, by omega⟩
  have hM' : min (prZ ws (i + 1)) 4097 = min (M * b) 4097 := by
   rw [prZ_succ, hb, Int.toNat_natCast, hM, min_step (by omega)]
  rw [hb] at hg g1 g2
  have hMb : M ≤ 4097 := by rw [hM]; exact Nat.min_le_right _ _
  obtain ⟨p, hp⟩ : ∃ p, M * b = p := ⟨_, rfl⟩
  have m1 : (M : Int) * (b : Int) = (p : Int) := by rw [← Int.natCast_mul, hp]
  have bp : p ≤ 4097 * 64 := by rw [← hp]; exact Nat.mul_le_mul hMb (by omega)
  have e : (if (4097 : Int) < (p : Int) then (4097 : Int) else (p : Int)) = ((min p 4097 : Nat) : Int) := by split <;> omega
  rw [hp] at hM'
  generalize min p 4097 = p' at *
  clear hzg h
  refine AX.sR (rgAV [3, 6, 7, 8, 9]) ?_
  refine AX.seq ?_
  refine AX.condT ?_
  refine AX.keepA [3, 6, 7, 8] ?_
  refine AX.skip ?_
  refine nmZ ?_
  refine AX.seq ?_
  refine AX.block ?_
  refine AX.sR (rgWV [3, 5, 6, 7, 8] (aI @hzl (aI @hg oT)) oT) ?_
  refine AX.rR (rgWV [3, 6, 7, 8] (aI @m1 (aI @e oT)) oT) ?_
  refine nmZ ?_
  refine AX.rR (rgWV [3, 6, 7, 8] (aI @lit_add oT) oT) ?_
  refine nmZ ?_
  refine ⟨_, _, id, ?_,
   leA
   , ⟨i + 1, p', by omega, rfl, hM'.symm, rfl⟩⟩
  omega
 ·obtain rfl : i = ws.length := by omega
  rw [← hM]
  refine AX.sR (rgAV [3, 6, 7, 8, 9]) ?_
  refine AX.seq ?_
  refine AX.condF ?_
  refine AX.exit ?_
  refine nmZ ?_
  refine AX.sR (rgAV [2]) ?_
  refine AX.ret ⟨.inl rfl, ?_⟩
  exact Done.one rfl rfl rfl rfl
def ceZ (ws : List Int) : Nat := if prZ ws ws.length ≤ 4096 then prZ ws ws.length else 0
set_option maxHeartbeats 4000000 in
theorem fcells_ok (ws : List Int) (hl : ws.length < 2 ^ 40) (h : ∀ j, j < ws.length → 1 ≤ ws.getD j 0 ∧ ws.getD j 0 ≤ 64) : PCall Tryz.prog 42 [.sl (zl ws)] (.i .i64 (ceZ ws)) [] := by
 refine PCall.of_ax Tryz.call42 Tryz.func42 rfl (by simp [Tryz.ntmps42]) fun O w0 => ?_
 simp only [Tryz.ntmps42, Tryz.results42, argFr]
 have hzl := zl_length ws
 have hzg := fun j (hj : j < ws.length) => zl_get hj
 have hno : ∀ i, i ≤ ws.length → 4096 < prZ ws i → ceZ ws = 0 := fun i hi hp => if_neg (by have := prZ_mono (fun j hj => (h j hj).1) i hi; omega)
 have hyes : prZ ws ws.length ≤ 4096 → ceZ ws = prZ ws ws.length := fun hp => if_pos hp
 generalize zl ws = A at *
 generalize ceZ ws = w at *
 refine AX.sR (rgAV [0]) ?_
 refine AX.sR (rgAV [0, 3]) ?_
 refine AX.seq ?_
 refine AX.sR (rgWV [3, 6, 7, 8] (aI @hzl oT) oT) ?_
 refine AX.weaken id (st' := ⟨[(8, .i .i64 (0 : Nat)), (7, .i .i64 ws.length), (6, .sl A), (3, .i .i64 (prZ ws 0))], [], 0⟩)
  ⟨by simp only [LeFr, LeHp, lkp, V.ren, V.renL, Row.ren, V.lt, V.ltL, renL_u, ltL_u, List.length_append, List.length_cons, List.length_nil, List.length_set, id_eq, Option.some.injEq, V.i.injEq, V.b.injEq, V.own.injEq, Row.mk.injEq, decide_true, decide_eq_true_eq, true_and, and_true, Bool.and_true, Bool.true_and, if_true, if_false, and_self, Nat.reduceLT, Nat.reduceLeDiff, Nat.reduceEqDiff, Nat.reduceAdd, Nat.reduceSub, Nat.reduceMul, Nat.reducePow, Nat.reduceBEq, Int.reduceLE, Int.reduceLT, Int.reduceToNat, Int.reduceEq, Int.reduceNeg, reduceIte, reduceCtorEq] <;> (first | done | trivial | (and_intros <;> first | trivial | omega | (rfl))), by simp only [LeFr, LeHp, lkp, V.ren, V.renL, Row.ren, V.lt, V.ltL, renL_u, ltL_u, List.length_append, List.length_cons, List.length_nil, List.length_set, id_eq, Option.some.injEq, V.i.injEq, V.b.injEq, V.own.injEq, Row.mk.injEq, decide_true, decide_eq_true_eq, true_and, and_true, Bool.and_true, Bool.true_and, if_true, if_false, and_self, Nat.reduceLT, Nat.reduceLeDiff, Nat.reduceEqDiff, Nat.reduceAdd, Nat.reduceSub, Nat.reduceMul, Nat.reducePow, Nat.reduceBEq, Int.reduceLE, Int.reduceLT, Int.reduceToNat, Int.reduceEq, Int.reduceNeg, reduceIte, reduceCtorEq] <;> (first | done | trivial | (and_intros <;> first | trivial | omega | (rfl))), by simp [Apart], by first | exact Nat.zero_le _ | simp, by intro n hn; first | rfl | exact absurd hn (Nat.not_lt_zero _) | (have h0 : n = 0 := Nat.lt_one_iff.1 hn; subst h0; rfl)⟩
  ?_
 refine AX.block ?_
 refine AX.loop (fun N st => ∃ (i M : Nat), i ≤ ws.length ∧ N = ws.length - i ∧ M = prZ ws i ∧ M ≤ 4096 ∧ st = ⟨[(8, .i .i64 i), (7, .i .i64 ws.length), (6, .sl A), (3, .i .i64 M)], [], 0⟩) ws.length ⟨0, _, Nat.zero_le _, rfl, rfl, (by show (1 : Nat) ≤ 4096; decide), rfl⟩ ?_
 rintro N st ⟨i, M, hi, rfl, hM, hMb, rfl⟩
 by_cases h1 : i < ws.length
 ·have hg := hzg i h1
  obtain ⟨g1, g2⟩ := h i h1
  obtain ⟨b, hb⟩ : ∃ b : Nat, ws.getD i 0 = (b : Int) := ⟨(ws.getD i 0).toNat, by omega⟩
  have hM' : prZ ws (i + 1) = M * b := by rw [prZ_succ, hb, Int.toNat_natCast, hM]
  rw [hb] at hg g1 g2
  obtain ⟨p, hp⟩ : ∃ p, M * b = p := ⟨_, rfl⟩
  have m1 : (M : Int) * (b : Int) = (p : Int) := by rw [← Int.natCast_mul, hp]
  have bp : p ≤ 4096 * 64 := by rw [← hp]; exact Nat.mul_le_mul hMb (by omega)
  rw [hp] at hM'
  have hno' := hno (i + 1) h1
  rw [hM'] at hno'
  clear hzg h hno hyes
  refine AX.sR (rgAV [3, 6, 7, 8, 9]) ?_
  refine AX.seq ?_
  refine AX.condT ?_
  refine AX.keepA [3, 6, 7, 8] ?_
  refine AX.skip ?_
  refine nmZ ?_
  refine AX.seq ?_
  refine AX.block ?_
  refine AX.sR (rgWV [3, 5, 6, 7, 8] (aI @hzl (aI @hg oT)) oT) ?_
  refine AX.sR (rgWV [3, 6, 7, 8] (aI @m1 oT) oT) ?_
  by_cases h2 : 4096 < p
  ·obtain rfl := hno' h2
   refine AX.sR (rgAV [3, 6, 7, 8, 16]) ?_
   refine AX.condT ?_
   refine AX.sR (rgAV [2]) ?_
   refine AX.ret ⟨.inl rfl, ?_⟩
   exact Done.one rfl rfl rfl rfl
  ·refine AX.sR (rgAV [3, 6, 7, 8, 16]) ?_
   refine AX.condF ?_
   refine AX.keepA [3, 6, 7, 8] ?_
   refine AX.skip ?_
   refine nmZ ?_
   refine AX.rR (rgWV [3, 6, 7, 8] (aI @lit_add oT) oT) ?_
   refine nmZ ?_
   refine ⟨_, _, id, ?_,
    leA
    , ⟨i + 1, p, by omega, rfl, hM'.symm, by omega, rfl⟩⟩
   omega
 ·obtain rfl : i = ws.length := by omega
  obtain rfl := hyes (by omega)
  rw [← hM]
  refine AX.sR (rgAV [3, 6, 7, 8, 9]) ?_
  refine AX.seq ?_
  refine AX.condF ?_
  refine AX.exit ?_
  refine nmZ ?_
  refine AX.sR (rgAV [2]) ?_
  refine AX.ret ⟨.inl rfl, ?_⟩
  exact Done.one rfl rfl rfl rfl
def okV (vs ws : List Int) (i : Nat) : Prop := 0 ≤ vs.getD i 0 ∧ vs.getD i 0 < 64 ∧ (i = 0 ∨ vs.getD (i - 1) 0 < vs.getD i 0) ∧ 1 ≤ ws.getD i 0 ∧ ws.getD i 0 ≤ 64
instance (vs ws : List Int) (i : Nat) : Decidable (okV vs ws i) := by unfold okV; infer_instance
def isF (vs ws : List Int) (xs : List RT) : Bool := decide (ws.length = vs.length ∧ (∀ i, i < vs.length → okV vs ws i) ∧ prZ ws ws.length ≤ 4096 ∧ xs.length = prZ ws ws.length) && xs.all isR3
theorem isF_not {vs ws : List Int} {xs : List RT} (h : ¬ (ws.length = vs.length ∧ (∀ i, i < vs.length → okV vs ws i) ∧ prZ ws ws.length ≤ 4096 ∧ xs.length = prZ ws ws.length)) : isF vs ws xs = false := by
 unfold isF
 rw [decide_eq_false h]
 rfl
theorem isF_cells {vs ws : List Int} {xs : List RT} (h : ws.length = vs.length ∧ (∀ i, i < vs.length → okV vs ws i) ∧ prZ ws ws.length ≤ 4096 ∧ xs.length = prZ ws ws.length) : isF vs ws xs = xs.all isR3 := by
 unfold isF
 rw [decide_eq_true h]
 rfl
theorem asc_le {vs : List Int} {ws : List Int} (h : ∀ i, i < vs.length → okV vs ws i) : ∀ i, i < vs.length → (i : Int) ≤ vs.getD i 0 := fun i => by
 induction i with
 | zero => intro hi; exact (h 0 hi).1
 | succ i ih =>
  intro hi
  have h1 := ih (by omega)
  obtain ⟨_, _, h2, _⟩ := h (i + 1) hi
  rcases h2 with h2 | h2
  ·omega
  ·rw [Nat.add_sub_cancel] at h2
   omega
theorem isF_long {vs ws : List Int} {xs : List RT} (h : 64 < vs.length) : isF vs ws xs = false := isF_not fun hh => by
 have h1 := asc_le hh.2.1 64 h
 have := (hh.2.1 64 h).2.1
 omega
def idxR : List RT → Int → Int
 | [], _ => -1
 | x :: xs, i => if isR3 x = true then idxR xs (i + 1) else i
theorem idxR_all : ∀ (xs : List RT) (i : Int), 0 ≤ i → decide (0 ≤ idxR xs i) = !xs.all isR3
 | [], _, _ => rfl
 | x :: xs, i, hi => by
  show decide (0 ≤ (if isR3 x = true then idxR xs (i + 1) else i)) = !(isR3 x && xs.all isR3)
  cases h : isR3 x
  ·rw [if_neg (by decide), decide_eq_true hi]
   rfl
  ·rw [if_pos rfl, Bool.true_and]
   exact idxR_all xs (i + 1) (by omega)
theorem idxR_bd : ∀ (xs : List RT) (i : Int), 0 ≤ i → -1 ≤ idxR xs i ∧ idxR xs i < i + xs.length + 1
 | [], i, hi => ⟨by show (-1 : Int) ≤ -1; decide, by show (-1 : Int) < _; simp; omega⟩
 | x :: xs, i, hi => by
  show -1 ≤ (if isR3 x = true then idxR xs (i + 1) else i) ∧ (if isR3 x = true then idxR xs (i + 1) else i) < _
  have := idxR_bd xs (i + 1) (by omega)
  rw [List.length_cons]
  split <;> omega
theorem drop_RT {xs : List RT} {i : Nat} (h : i < xs.length) : xs.drop i = xs.getD i d0 :: xs.drop (i + 1) := by
 rw [List.drop_eq_getElem_cons h, List.getD_eq_getElem?_getD, List.getElem?_eq_getElem h]
 rfl
theorem fright1_ok (x : RT) (d1 : Dg x.2.1) (d2 : Dg x.2.2) (d3 : x.2.1.length < 2 ^ 36) (d4 : x.2.2.length < 2 ^ 36) : PCall Tryz.prog 65 [.agg [.b x.1, dg x.2.1, dg x.2.2]] (.b (!isR3 x)) [] := by
 have c1 : PCall Tryz.prog 66 [.agg [.b x.1, dg x.2.1, dg x.2.2]] (.b (isR3 x)) [] := mR3_ok x d1 d2 d3 d4
 refine PCall.of_ax Tryz.call65 Tryz.func65 rfl (by simp [Tryz.ntmps65]) fun O w0 => ?_
 simp only [Tryz.ntmps65, Tryz.results65, argFr]
 generalize isR3 x = b at *
 refine AX.sR (rgAV [1]) ?_
 refine AX.sR (rgCV [2] (aI c1 oT)) ?_
 refine AX.ret ⟨.inl rfl, ?_⟩
 exact Done.one rfl rfl rfl rfl
set_option maxHeartbeats 4000000 in
theorem fidx_ok (xs : List RT) (hx : okX xs) (hl : xs.length < 2 ^ 40) : PCall Tryz.prog 91 [.sl (xs.map fR), .fn 65 []] (.i .i64 (idxR xs 0)) [] := by
 refine PCall.of_ax Tryz.call91 Tryz.func91 rfl (by simp [Tryz.ntmps91]) fun O w0 => ?_
 simp only [Tryz.ntmps91, Tryz.results91, argFr]
 have hml : (xs.map fR).length = xs.length := List.length_map ..
 have hmg := fun j (hj : j < xs.length) => fun x y => effIxR (els := xs.map fR) (j := j) (x := x) (y := y) (by rw [hml]; exact hj) (getD_fR hj)
 obtain ⟨X, hX⟩ : ∃ X, xs.map fR = X := ⟨_, rfl⟩
 rw [hX] at hml hmg ⊢
 obtain ⟨w, hw⟩ : ∃ w, idxR xs 0 = w := ⟨_, rfl⟩
 rw [hw]
 refine AX.sR (rgAV [0, 1]) ?_
 refine AX.seq ?_
 refine AX.sR (rgWV [0, 1, 7, 8] (aI @hml oT) oT) ?_
 refine AX.weaken id (st' := ⟨[(8, .i .i64 (0 : Nat)), (7, .i .i64 xs.length), (1, .fn 65 []), (0, .sl X)], [], 0⟩)
  leA
  ?_
 refine AX.block ?_
 refine AX.loop (fun N st => ∃ i : Nat, i ≤ xs.length ∧ N = xs.length - i ∧ idxR (xs.drop i) i = w ∧ st = ⟨[(8, .i .i64 i), (7, .i .i64 xs.length), (1, .fn 65 []), (0, .sl X)], [], 0⟩) xs.length ⟨0, Nat.zero_le _, rfl, hw, rfl⟩ ?_
 rintro N st ⟨i, hi, rfl, hi2, rfl⟩
 by_cases h1 : i < xs.length
 ·have hg := hmg i h1
  obtain ⟨d1, d2, d3, d4⟩ := hx _ (getD_mem_RT h1)
  have c1 := fright1_ok _ d1 d2 d3 d4
  rw [drop_RT h1] at hi2
  have hi2 : (if isR3 (xs.getD i d0) = true then idxR (xs.drop (i + 1)) ((i : Int) + 1) else (i : Int)) = w := hi2
  clear d1 d2 d3 d4 hmg hx
  generalize xs.getD i d0 = x at *
  obtain ⟨s, a, b⟩ := x
  refine AX.sR (rgAV [0, 1, 7, 8, 9]) ?_
  refine AX.seq ?_
  refine AX.condT ?_
  refine AX.keepA [0, 1, 7, 8] ?_
  refine AX.skip ?_
  refine nmZ ?_
  refine AX.seq ?_
  refine AX.block ?_
  refine AX.sR (rgAV [0, 1, 5, 7, 8]) ?_
  cases hb : isR3 (s, a, b)
  ·rw [hb] at c1 hi2
   rw [if_neg (by decide)] at hi2
   refine AX.sR (rgEV [0, 1, 5, 7, 8, 16] oT (aI c1 oT) (aI hg oT)) ?_
   refine AX.condT ?_
   refine AX.sR (rgAV [4]) ?_
   refine AX.ret ⟨.inl rfl, ?_⟩
   subst hi2
   exact Done.one rfl rfl rfl rfl
  ·rw [hb] at c1 hi2
   rw [if_pos rfl] at hi2
   refine AX.sR (rgEV [0, 1, 5, 7, 8, 16] oT (aI c1 oT) (aI hg oT)) ?_
   refine AX.condF ?_
   refine AX.keepA [0, 1, 7, 8] ?_
   refine AX.skip ?_
   refine nmZ ?_
   refine AX.rR (rgWV [0, 1, 7, 8] (aI @lit_add oT) oT) ?_
   refine nmZ ?_
   refine ⟨_, _, id, ?_,
    leA
    , ⟨i + 1, by omega, rfl, hi2, rfl⟩⟩
   omega
 ·obtain rfl : i = xs.length := by omega
  have hi2 : idxR (xs.drop xs.length) xs.length = w := hi2
  rw [List.drop_length] at hi2
  have hi2 : (-1 : Int) = w := hi2
  subst hi2
  refine AX.sR (rgAV [0, 1, 7, 8, 9]) ?_
  refine AX.seq ?_
  refine AX.condF ?_
  refine AX.exit ?_
  refine nmZ ?_
  refine AX.sR (rgAV [4]) ?_
  refine AX.ret ⟨.inl rfl, ?_⟩
  exact Done.one rfl rfl rfl rfl
theorem fcont_ok (xs : List RT) (hx : okX xs) (hl : xs.length < 2 ^ 40) : PCall Tryz.prog 64 [.sl (xs.map fR), .fn 65 []] (.b (!xs.all isR3)) [] := by
 have c1 := fidx_ok xs hx hl
 have h1 := idxR_all xs 0 (by decide)
 have h2 := idxR_bd xs 0 (by decide)
 generalize idxR xs 0 = k at *
 generalize xs.all isR3 = w at *
 generalize xs.map fR = X at *
 refine PCall.of_ax Tryz.call64 Tryz.func64 rfl (by simp [Tryz.ntmps64]) fun O w0 => ?_
 simp only [Tryz.ntmps64, Tryz.results64, argFr]
 rw [← h1]
 refine AX.sR (rgAV [0, 1]) ?_
 refine AX.sR (rgCV [4] (aI c1 oT)) ?_
 refine AX.ret ⟨.inl rfl, ?_⟩
 exact Done.one rfl rfl rfl rfl
abbrev fV (vs ws : List Int) (xs : List RT) : V := .agg [.sl (zl vs), .sl (zl ws), .sl (xs.map fR)]
set_option maxHeartbeats 8000000 in
theorem fright_ok (vs ws : List Int) (xs : List RT) (hv : vs.length < 2 ^ 40) (ha : ws.length < 2 ^ 40) (hl : xs.length < 2 ^ 40) (hx : okX xs) : PCall Tryz.prog 32 [fV vs ws xs] (.b (isF vs ws xs)) [] := by
 have cc := fcont_ok xs hx hl
 have cs := fsize_ok ws ha
 have hno := fun h => isF_not (vs := vs) (ws := ws) (xs := xs) h
 have hyes := fun h => isF_cells (vs := vs) (ws := ws) (xs := xs) h
 have hzv := zl_length vs
 have hza := zl_length ws
 have hgv := fun j (hj : j < vs.length) => zl_get hj
 have hga := fun j (hj : j < ws.length) => zl_get hj
 have hml : (xs.map fR).length = xs.length := List.length_map ..
 generalize isF vs ws xs = w at *
 generalize xs.all isR3 = wc at *
 refine PCall.of_ax Tryz.call32 Tryz.func32 rfl (by simp [Tryz.ntmps32]) fun O w0 => ?_
 simp only [Tryz.ntmps32, Tryz.results32, argFr]
 unfold fV
 generalize zl vs = Vs at *
 generalize zl ws = As at *
 generalize xs.map fR = X at *
 refine AX.sR (rgAV [1]) ?_
 refine AX.seq ?_
 by_cases h1 : ws.length = vs.length
 ·have hl1 : (ws.length : Int) = (vs.length : Int) := by omega
  refine AX.sR (rgWV [1, 12] (aI @hzv (aI @hza (aI @hl1 oT))) oT) ?_
  refine AX.condF ?_
  refine AX.keepA [1] ?_
  refine AX.skip ?_
  refine nmZ ?_
  refine AX.seq ?_
  refine AX.sR (rgWV [1, 14, 15, 16] (aI @hzv oT) oT) ?_
  refine AX.weaken id (st' := ⟨[(16, .i .i64 (0 : Nat)), (15, .i .i64 vs.length), (14, .sl Vs), (1, .ptr 0 0)], [(0, ⟨25, [.sl Vs, .sl As, .sl X]⟩)], 1⟩)
   leA
   ?_
  refine AX.block ?_
  refine AX.loop (fun N st => ∃ i : Nat, i ≤ vs.length ∧ N = vs.length - i ∧ (∀ j, j < i → okV vs ws j) ∧ st = ⟨[(16, .i .i64 i), (15, .i .i64 vs.length), (14, .sl Vs), (1, .ptr 0 0)], [(0, ⟨25, [.sl Vs, .sl As, .sl X]⟩)], 1⟩) vs.length ⟨0, Nat.zero_le _, rfl, fun j hj => absurd hj (Nat.not_lt_zero _), rfl⟩ ?_
  rintro N st ⟨i, hi, rfl, hp, rfl⟩
  by_cases h2 : i < vs.length
  ·have g1 := hgv i h2
   have g2 := hga i (by omega)
   have g3 := hgv (i - 1) (by omega)
   have hbad : ¬ okV vs ws i → w = false := fun hb => hno fun hh => hb (hh.2.1 i h2)
   have hok : okV vs ws i → ∀ j, j < i + 1 → okV vs ws j := fun hb j hj => by
    by_cases e : j = i
    ·rw [e]; exact hb
    ·exact hp j (by omega)
   unfold okV at hbad
   have hok' : (0 ≤ vs.getD i 0 ∧ vs.getD i 0 < 64 ∧ (i = 0 ∨ vs.getD (i - 1) 0 < vs.getD i 0) ∧ 1 ≤ ws.getD i 0 ∧ ws.getD i 0 ≤ 64) → ∀ j, j < i + 1 → okV vs ws j := hok
   clear hok hno hyes hgv hga cc cs
   generalize vs.getD (i - 1) 0 = p at *
   generalize vs.getD i 0 = v at *
   generalize ws.getD i 0 = a at *
   refine AX.sR (rgAV [1, 14, 15, 16, 17]) ?_
   refine AX.seq ?_
   refine AX.condT ?_
   refine AX.keepA [1, 14, 15, 16] ?_
   refine AX.skip ?_
   refine nmZ ?_
   refine AX.seq ?_
   refine AX.block ?_
   refine AX.sR (rgWV [1, 3, 4, 14, 15, 16] (aI @hzv (aI @g1 oT)) oT) ?_
   by_cases k1 : v < 0
   ·obtain rfl := hbad (by omega)
    refine AX.sR (rgAV [1, 14, 15, 16, 56]) ?_
    refine AX.condT ?_
    refine AX.sR (rgAV [2]) ?_
    refine AX.ret ⟨.inl rfl, ?_⟩
    exact Done.one rfl rfl rfl rfl
   by_cases k2 : 64 ≤ v
   ·obtain rfl := hbad (by omega)
    refine AX.sR (rgAV [1, 14, 15, 16, 56]) ?_
    refine AX.condT ?_
    refine AX.sR (rgAV [2]) ?_
    refine AX.ret ⟨.inl rfl, ?_⟩
    exact Done.one rfl rfl rfl rfl
   by_cases k3 : i = 0
   ·subst k3
    by_cases k4 : a < 1
    ·obtain rfl := hbad (by omega)
     refine AX.sR (rgWV [1, 14, 15, 16, 56] (aI @hza (aI @g2 oT)) oT) ?_
     refine AX.condT ?_
     refine AX.sR (rgAV [2]) ?_
     refine AX.ret ⟨.inl rfl, ?_⟩
     exact Done.one rfl rfl rfl rfl
    by_cases k5 : 64 < a
    ·obtain rfl := hbad (by omega)
     refine AX.sR (rgWV [1, 14, 15, 16, 56] (aI @hza (aI @g2 oT)) oT) ?_
     refine AX.condT ?_
     refine AX.sR (rgAV [2]) ?_
     refine AX.ret ⟨.inl rfl, ?_⟩
     exact Done.one rfl rfl rfl rfl
    have hp' := hok' (by omega)
    refine AX.sR (rgWV [1, 14, 15, 16, 56] (aI @hza (aI @g2 oT)) oT) ?_
    refine AX.condF ?_
    refine AX.keepA [1, 14, 15, 16] ?_
    refine AX.skip ?_
    refine nmZ ?_
    refine AX.rR (rgWV [1, 14, 15, 16] (aI @lit_add oT) oT) ?_
    refine nmZ ?_
    refine ⟨_, _, id, ?_,
     leA
     , ⟨0 + 1, by omega, rfl, hp', rfl⟩⟩
    omega
   ·have e1 : ((i : Int) - 1).toNat = i - 1 := by omega
    by_cases k6 : v ≤ p
    ·obtain rfl := hbad (by omega)
     refine AX.sR (rgWV [1, 14, 15, 16, 56] (aI @hzv (aI @e1 (aI @g3 oT))) oT) ?_
     refine AX.condT ?_
     refine AX.sR (rgAV [2]) ?_
     refine AX.ret ⟨.inl rfl, ?_⟩
     exact Done.one rfl rfl rfl rfl
    by_cases k4 : a < 1
    ·obtain rfl := hbad (by omega)
     refine AX.sR (rgWV [1, 14, 15, 16, 56] (aI @hzv (aI @e1 (aI @g3 (aI @hza (aI @g2 oT))))) oT) ?_
     refine AX.condT ?_
     refine AX.sR (rgAV [2]) ?_
     refine AX.ret ⟨.inl rfl, ?_⟩
     exact Done.one rfl rfl rfl rfl
    by_cases k5 : 64 < a
    ·obtain rfl := hbad (by omega)
     refine AX.sR (rgWV [1, 14, 15, 16, 56] (aI @hzv (aI @e1 (aI @g3 (aI @hza (aI @g2 oT))))) oT) ?_
     refine AX.condT ?_
     refine AX.sR (rgAV [2]) ?_
     refine AX.ret ⟨.inl rfl, ?_⟩
     exact Done.one rfl rfl rfl rfl
    have hp' := hok' (by omega)
    refine AX.sR (rgWV [1, 14, 15, 16, 56] (aI @hzv (aI @e1 (aI @g3 (aI @hza (aI @g2 oT))))) oT) ?_
    refine AX.condF ?_
    refine AX.keepA [1, 14, 15, 16] ?_
    refine AX.skip ?_
    refine nmZ ?_
    refine AX.rR (rgWV [1, 14, 15, 16] (aI @lit_add oT) oT) ?_
    refine nmZ ?_
    refine ⟨_, _, id, ?_,
     leA
     , ⟨i + 1, by omega, rfl, hp', rfl⟩⟩
    omega
  ·obtain rfl : i = vs.length := by omega
   have cs := cs fun j hj => ⟨(hp j (by omega)).2.2.2.1, (hp j (by omega)).2.2.2.2⟩
   have hno1 : ¬ (prZ ws ws.length ≤ 4096 ∧ xs.length = prZ ws ws.length) → w = false := fun hb => hno fun hh => hb hh.2.2
   have hyes1 : (prZ ws ws.length ≤ 4096 ∧ xs.length = prZ ws ws.length) → w = wc := fun hb => hyes ⟨h1, hp, hb⟩
   clear hno hyes hgv hga
   generalize prZ ws ws.length = P at *
   refine AX.sR (rgAV [1, 14, 15, 16, 17]) ?_
   refine AX.seq ?_
   refine AX.condF ?_
   refine AX.exit ?_
   refine nmZ ?_
   refine AX.sR (rgCV [1, 5] (aI cs oT)) ?_
   by_cases k1 : P ≤ 4096
   ·rw [Nat.min_eq_left (by omega)]
    by_cases k2 : xs.length = P
    ·obtain rfl := hyes1 ⟨k1, k2⟩
     subst k2
     refine AX.sR (rgWV [2] (aI @hml oT) (aI cc oT)) ?_
     refine AX.ret ⟨.inl rfl, ?_⟩
     rw [Bool.not_not]
     exact Done.one rfl rfl rfl rfl
    ·obtain rfl := hno1 (fun h => k2 h.2)
     have k3 : ¬ ((xs.length : Int) = (P : Int)) := by omega
     refine AX.sR (rgWV [2] (aI @hml (aI @k3 oT)) oT) ?_
     refine AX.ret ⟨.inl rfl, ?_⟩
     exact Done.one rfl rfl rfl rfl
   ·obtain rfl := hno1 (fun h => k1 h.1)
    rw [Nat.min_eq_right (by omega)]
    refine AX.sR (rgAV [2]) ?_
    refine AX.ret ⟨.inl rfl, ?_⟩
    exact Done.one rfl rfl rfl rfl
 ·obtain rfl := hno (fun h => h1 h.1)
  have hl1 : ¬ ((ws.length : Int) = (vs.length : Int)) := by omega
  refine AX.sR (rgWV [1, 12] (aI @hzv (aI @hza (aI @hl1 oT))) oT) ?_
  refine AX.condT ?_
  refine AX.sR (rgAV [2]) ?_
  refine AX.ret ⟨.inl rfl, ?_⟩
  exact Done.one rfl rfl rfl rfl
end Go.Proofs.YtogpimmcodaljaaGreat
