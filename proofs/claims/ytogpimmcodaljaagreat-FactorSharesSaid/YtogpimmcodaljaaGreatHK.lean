/- Matrices of fractions as values and as rows; Right, sized, copied, cell, filled. -/
import Derived.Test.YtogpimmcodaljaaGreatGS
import Derived.Test.YtogpimmcodaljaaGreatQ2B
import Derived.Test.YtogpimmcodaljaaGreatGB
import Derived.Test.YtogpimmcodaljaaGreatHA
import Derived.Test.YtogpimmcodaljaaGreatNatV3
set_option linter.unusedVariables false
set_option maxRecDepth 20000
set_option linter.unusedSimpArgs false
namespace Go.Proofs.YtogpimmcodaljaaGreat
open Go Go.Proofs.YtogpimmcodaljaaGreat.Lift
attribute [local irreducible] Lift.PCall Lift.HCall
theorem tk0 (l : List V) : List.take 0 l = [] := rfl
theorem tkS (n : Nat) (a : V) (l : List V) : List.take (n + 1) (a :: l) = a :: List.take n l := rfl
attribute [go_sem] List.set_cons_zero List.set_cons_succ
def qrow (xs : List Rat) : List V := xs.flatMap fun q => (rV q).cells
theorem qrow_nil : qrow [] = [] := rfl
theorem qrow_cons (q : Rat) (xs : List Rat) : qrow (q :: xs) = (rV q).cells ++ qrow xs := rfl
theorem qrow_app (xs ys : List Rat) : qrow (xs ++ ys) = qrow xs ++ qrow ys := by simp [qrow]
theorem qrow_one (q : Rat) : qrow [q] = [.b (decide (q.num < 0)), dg (digits q.num.natAbs), dg (digits q.den)] := rfl
theorem qrow_length (xs : List Rat) : (qrow xs).length = xs.length * 3 := by
 induction xs with
 | nil => rfl
 | cons q xs ih =>
  rw [qrow_cons, List.length_append, ih, List.length_cons]
  show 3 + xs.length * 3 = _
  omega
theorem qrow_drop (xs : List Rat) : ∀ j, (qrow xs).drop (j * 3) = qrow (xs.drop j) := by
 induction xs with
 | nil => intro j; simp [qrow]
 | cons q xs ih =>
  intro j
  cases j with
  | zero => rfl
  | succ j =>
   rw [qrow_cons, List.drop_succ_cons, ← ih j, show (j + 1) * 3 = j * 3 + 3 by omega]
   rfl
theorem qrow_get {xs : List Rat} {j : Nat} (h : j < xs.length) : ((qrow xs).drop (j * 3)).take 3 = (rV (xs.getD j 0)).cells := by
 rw [qrow_drop]
 have e : xs.drop j = xs.getD j 0 :: xs.drop (j + 1) := by
  have e0 : xs.getD j 0 = xs[j] := by rw [List.getD_eq_getElem?_getD, List.getElem?_eq_getElem h]; rfl
  rw [e0, List.getElem_cons_drop]
 rw [e, qrow_cons]
 rfl
theorem chunks_q (xs : List Rat) : chunks 3 xs.length (qrow xs) = xs.map rV := by
 unfold chunks
 rw [if_neg (by omega)]
 apply List.ext_getElem?
 intro j
 by_cases h : j < xs.length
 ·have e0 : xs.getD j 0 = xs[j] := by rw [List.getD_eq_getElem?_getD, List.getElem?_eq_getElem h]; rfl
  simp only [List.getElem?_map, List.getElem?_range h, List.getElem?_eq_getElem h, Option.map_some]
  rw [qrow_get h, e0]
  rfl
 ·rw [List.getElem?_eq_none (by simp; omega), List.getElem?_eq_none (by simp; omega)]
theorem flat_q (xs : List Rat) : (qrow xs).all V.flat = true := by
 rw [List.all_eq_true]
 intro v hv
 obtain ⟨q, _, hq⟩ := List.mem_flatMap.1 hv
 have hq : v ∈ [V.b (decide (q.num < 0)), dg (digits q.num.natAbs), dg (digits q.den)] := hq
 simp only [List.mem_cons, List.not_mem_nil, or_false] at hq
 rcases hq with rfl | rfl | rfl <;> rfl
theorem hfL_app (l l' : List V) : V.hfL (l ++ l') = (V.hfL l && V.hfL l') := by
 induction l with
 | nil => simp [V.hfL]
 | cons v l ih => simp only [List.cons_append, V.hfL, ih, Bool.and_assoc]
theorem renL_app (f : Nat → Nat) (l l' : List V) : V.renL f (l ++ l') = V.renL f l ++ V.renL f l' := by
 induction l with
 | nil => simp [V.renL]
 | cons v l ih => simp only [List.cons_append, V.renL, ih]
theorem ltL_app (n : Nat) (l l' : List V) : V.ltL n (l ++ l') = (V.ltL n l && V.ltL n l') := by
 induction l with
 | nil => simp [V.ltL]
 | cons v l ih => simp only [List.cons_append, V.ltL, ih, Bool.and_assoc]
theorem hf_q (xs : List Rat) : V.hfL (qrow xs) = true := by
 induction xs with
 | nil => rfl
 | cons q xs ih =>
  rw [qrow_cons, hfL_app, ih]
  rfl
theorem ren_q (f : Nat → Nat) (xs : List Rat) : V.renL f (qrow xs) = qrow xs := by
 induction xs with
 | nil => simp only [qrow_nil, V.renL]
 | cons q xs ih =>
  rw [qrow_cons, renL_app, ih]
  have e : V.renL f (rV q).cells = (rV q).cells := by
   show V.renL f [V.b (decide (q.num < 0)), dg (digits q.num.natAbs), dg (digits q.den)] = [V.b (decide (q.num < 0)), dg (digits q.num.natAbs), dg (digits q.den)]
   simp only [V.renL, V.ren]
  rw [e]
theorem lt_q (n : Nat) (xs : List Rat) : V.ltL n (qrow xs) = true := by
 induction xs with
 | nil => simp only [qrow_nil, V.ltL]
 | cons q xs ih =>
  rw [qrow_cons, ltL_app, ih]
  show (V.ltL n [V.b (decide (q.num < 0)), dg (digits q.num.natAbs), dg (digits q.den)] && true) = true
  simp only [V.ltL, V.lt]
  rfl
theorem okFrz_q (xs : List Rat) : okFrz 0 xs.length 3 (qrow xs) = true := by
 unfold okFrz
 have e : (List.drop 0 (qrow xs)).take (xs.length * 3) = qrow xs := by rw [List.drop_zero, ← qrow_length, List.take_length]
 rw [e, flat_q, hf_q, qrow_length]
 simp
theorem take_q (xs : List Rat) : (List.drop 0 (qrow xs)).take (xs.length * 3) = qrow xs := by rw [List.drop_zero, ← qrow_length, List.take_length]
theorem set_q {xs : List Rat} (q : Rat) : ∀ {j : Nat}, j < xs.length → setR (qrow xs) (j * 3) (rV q).cells = qrow (xs.set j q) := by
 have app : ∀ (vs l l' : List V) (off : Nat), setR (l ++ l') (l.length + off) vs = l ++ setR l' off vs := by
  intro vs
  induction vs with
  | nil => intro l l' off; rfl
  | cons v vs ih =>
   intro l l' off
   show setR ((l ++ l').set (l.length + off) v) (l.length + off + 1) vs = _
   rw [List.set_append_right _ _ (by omega), Nat.add_sub_cancel_left, Nat.add_assoc, ih]
   rfl
 induction xs with
 | nil => intro j h; simp at h
 | cons p xs ih =>
  intro j h
  cases j with
  | zero =>
   rw [List.set_cons_zero, qrow_cons, qrow_cons]
   rfl
  | succ j =>
   rw [List.set_cons_succ, qrow_cons, qrow_cons, ← ih (by simpa using h), ← app, show (rV p).cells.length + j * 3 = (j + 1) * 3 by show 3 + j * 3 = _; omega]
theorem lay_intt : lay Tryz.prog 3 = some ⟨1, false, 8, [.i .i64 0]⟩ := by kernel_rfl
theorem lay_qs : lay Tryz.prog 23 = some ⟨1, false, 24, [.nl]⟩ := by kernel_rfl
attribute [go_sem] lay_intt lay_qs
theorem getD_rV {xs : List Rat} {j : Nat} (h : j < xs.length) : (xs.map rV).getD j .junk = rV (xs.getD j 0) := by
 simp [List.getD_eq_getElem?_getD, h]
theorem effIxQ {xs : List Rat} {j : Nat} {x y : Operand} (hj : j < xs.length) : eff Tryz.prog (.indexAddr 23 x y) [.sl (xs.map rV), .i .i64 (j : Int)] = some (.val (.rp [.b (decide ((xs.getD j 0).num < 0)), dg (digits (xs.getD j 0).num.natAbs), dg (digits (xs.getD j 0).den)])) :=
 effIxR (by simpa using hj) (getD_rV hj)
theorem take3 (a b c : V) : List.take 3 [a, b, c] = [a, b, c] := rfl
theorem take36 (a b c d e f : V) : List.take 3 [a, b, c, d, e, f] = [a, b, c] := rfl
theorem take66 (a b c d e f : V) : List.take 6 [a, b, c, d, e, f] = [a, b, c, d, e, f] := rfl
theorem drop36 (a b c d e f : V) : List.drop 3 [a, b, c, d, e, f] = [d, e, f] := rfl
attribute [go_sem] take3 take36 take66 drop36
def isR3 (x : RT) : Bool := isR x.1 x.2.1 x.2.2
def okX (xs : List RT) : Prop := ∀ x ∈ xs, Dg x.2.1 ∧ Dg x.2.2 ∧ x.2.1.length < 2 ^ 36 ∧ x.2.2.length < 2 ^ 36
theorem getD_mem_RT {xs : List RT} {i : Nat} (h : i < xs.length) : xs.getD i d0 ∈ xs := by
 rw [List.getD_eq_getElem?_getD, List.getElem?_eq_getElem h]
 exact List.getElem_mem _
theorem mR3_ok (x : RT) (d1 : Dg x.2.1) (d2 : Dg x.2.2) (d3 : x.2.1.length < 2 ^ 36) (d4 : x.2.2.length < 2 ^ 36) : PCall Tryz.prog 66 [rR x.1 x.2.1 x.2.2] (.b (isR3 x)) [] := qright_raw _ _ _ d1 d2 d3 d4
theorem wR3_ok (x : RT) (d1 : Dg x.2.1) (d2 : Dg x.2.2) (d3 : x.2.1.length < 2 ^ 36) (d4 : x.2.2.length < 2 ^ 36) : PCall Tryz.prog 43 [rR x.1 x.2.1 x.2.2] (.b (isR3 x)) [] := pright_ok _ _ _ d1 d2 d3 d4
end Go.Proofs.YtogpimmcodaljaaGreat
/- Matrices: sized, copied, cell, filled, Zero, Same. -/
set_option linter.unusedVariables false
set_option linter.unusedSimpArgs false
namespace Go.Proofs.YtogpimmcodaljaaGreat
open Go Go.Proofs.YtogpimmcodaljaaGreat.Lift
attribute [local irreducible] Lift.PCall Lift.HCall
mutual
theorem hf_name (f : Nat → Nat) (n : Nat) : ∀ v : V, V.hf v = true → v.ren f = v ∧ v.lt n = true
 | .agg cs, h => by
  obtain ⟨h1, h2⟩ := hf_names f n cs (by simpa only [V.hf] using h)
  exact ⟨by simp only [V.ren, h1], by simp only [V.lt, h2]⟩
 | .tup cs, h => by
  obtain ⟨h1, h2⟩ := hf_names f n cs (by simpa only [V.hf] using h)
  exact ⟨by simp only [V.ren, h1], by simp only [V.lt, h2]⟩
 | .fn g cs, h => by
  obtain ⟨h1, h2⟩ := hf_names f n cs (by simpa only [V.hf] using h)
  exact ⟨by simp only [V.ren, h1], by simp only [V.lt, h2]⟩
 | .ptr _ _, h => by simp [V.hf] at h
 | .own _ _ _ _, h => by simp [V.hf] at h
 | .junk, _ => ⟨by simp only [V.ren], by simp only [V.lt]⟩
 | .b _, _ => ⟨by simp only [V.ren], by simp only [V.lt]⟩
 | .i _ _, _ => ⟨by simp only [V.ren], by simp only [V.lt]⟩
 | .s _, _ => ⟨by simp only [V.ren], by simp only [V.lt]⟩
 | .nl, _ => ⟨by simp only [V.ren], by simp only [V.lt]⟩
 | .sl _, _ => ⟨by simp only [V.ren], by simp only [V.lt]⟩
 | .rp _, _ => ⟨by simp only [V.ren], by simp only [V.lt]⟩
theorem hf_names (f : Nat → Nat) (n : Nat) : ∀ l : List V, V.hfL l = true → V.renL f l = l ∧ V.ltL n l = true
 | [], _ => ⟨by simp only [V.renL], by simp only [V.ltL]⟩
 | v :: l, h => by
  simp only [V.hfL, Bool.and_eq_true] at h
  obtain ⟨h1, h2⟩ := hf_name f n v h.1
  obtain ⟨h3, h4⟩ := hf_names f n l h.2
  exact ⟨by simp only [V.renL, h1, h3], by simp only [V.ltL, h2, h4, Bool.and_self]⟩
end
theorem zerosV_1 (z : List V) : zerosV 1 z = z := by simp [zerosV]
end Go.Proofs.YtogpimmcodaljaaGreat
/- Elimination, step by step: weight, pivot, swap, clear. -/
set_option linter.unusedVariables false
set_option linter.unusedSimpArgs false
namespace Go.Proofs.YtogpimmcodaljaaGreat
open Go Go.Proofs.YtogpimmcodaljaaGreat.Lift
attribute [local irreducible] Lift.PCall Lift.HCall
theorem Lift.DoneG.row {st : St} {T : TypeId} {xs : List Rat} (h : lkp st.hp 0 = some ⟨T, qrow xs⟩) : DoneG Tryz.prog #[] (.tup []) [⟨T, qrow xs⟩] st := by
 refine ⟨[], rfl, rfl, rfl, rfl, fun n hn => ?_⟩
 obtain rfl : n = 0 := by simpa using hn
 exact ⟨h, lt_q _ _, ren_q _ _⟩
end Go.Proofs.YtogpimmcodaljaaGreat
/- Elimination, step by step: pivot. -/
set_option linter.unusedVariables false
set_option linter.unusedSimpArgs false
namespace Go.Proofs.YtogpimmcodaljaaGreat
open Go Go.Proofs.YtogpimmcodaljaaGreat.Lift
attribute [local irreducible] Lift.PCall Lift.HCall
end Go.Proofs.YtogpimmcodaljaaGreat
