/- Statements about chains: the cuts nat, list; of. -/
import Derived.Test.YtepkjfnffbdcoaaGreatHL
import Derived.Test.YtepkjfnffbdcoaaGreatRfE
set_option linter.unusedVariables false
set_option maxRecDepth 20000
set_option linter.unusedSimpArgs false
namespace Go.Proofs.YtepkjfnffbdcoaaGreat
open Go Go.Proofs.YtepkjfnffbdcoaaGreat.Lift
attribute [local irreducible] Lift.PCall Lift.HCall

theorem effHiN {l : List Nat} {b : Nat} (hb : b ≤ l.length) (x hi : Operand) : eff Tryz.prog (.slice 39 x none (some hi) none) [dg l, .i .i64 (b : Int)] = some (.val (dg (l.take b))) := by
  cases l with
  | nil =>
    have : b = 0 := by simpa using hb
    subst this
    simp only [eff, effSlice, lowHigh, sliceV, bound, Tryz.underlying39, lay_u32, Option.isSome_some, Option.isSome_none]
    rfl
  | cons a l =>
    have hl : ((a :: l).map u).length = l.length + 1 := by simp
    have h3 : (((a :: l).map u).getD 0 .junk).cells.length = 1 := rfl
    have ht : ((a :: l).map u).take b = ((a :: l).take b).map u := (List.map_take ..).symm
    unfold dg
    generalize (a :: l).map u = ls at *
    simp only [eff, effSlice, lowHigh, sliceV, bound, Tryz.underlying39, lay_u32, Option.isSome_some, Option.isSome_none]
    rw [if_pos ⟨by omega, by omega, by rw [hl]; simp at hb; omega, h3⟩, Int.toNat_natCast, ht]
    rfl
theorem effHiR {xs : List RT} {b : Nat} (hb : b ≤ xs.length) (x hi : Operand) : eff Tryz.prog (.slice 22 x none (some hi) none) [.sl (xs.map fR), .i .i64 (b : Int)] = some (.val (.sl ((xs.take b).map fR))) := by
  cases xs with
  | nil =>
    have : b = 0 := by simpa using hb
    subst this
    simp only [eff, effSlice, lowHigh, sliceV, bound, Tryz.underlying22, lay_ratio, Option.isSome_some, Option.isSome_none]
    rfl
  | cons a l =>
    have hl : ((a :: l).map fR).length = l.length + 1 := by simp
    have h3 : (((a :: l).map fR).getD 0 .junk).cells.length = 3 := rfl
    have ht : ((a :: l).map fR).take b = ((a :: l).take b).map fR := (List.map_take ..).symm
    generalize (a :: l).map fR = ls at *
    simp only [eff, effSlice, lowHigh, sliceV, bound, Tryz.underlying22, lay_ratio, Option.isSome_some, Option.isSome_none]
    rw [if_pos ⟨by omega, by omega, by rw [hl]; simp at hb; omega, h3⟩, Int.toNat_natCast, ht]
    rfl

set_option maxHeartbeats 2000000 in
theorem lnat_ok (l : List Nat) (hl : l.length < 2 ^ 62) : PCall Tryz.prog 73 [dg l] (dg (l.take 3)) [] := by
  refine PCall.of_ax Tryz.call73 Tryz.func73 rfl (by simp [Tryz.ntmps73]) fun O w => ?_
  simp only [Tryz.ntmps73, Tryz.results73, argFr]
  by_cases h : l.length < 3
  · have he := effHiN (l := l) (b := l.length) (Nat.le_refl _)
    rw [List.take_length] at he
    rw [List.take_of_length_le (by omega)]
    have hm : (if (3 : Int) < (l.length : Int) then (3 : Int) else (l.length : Int)) = (l.length : Int) := if_neg (by omega)
    refine AX.sregAV [0] (hq := ?_)
    refine AX.sregEV [2] (aI @hm oT) oT (aI he oT) (hq := ?_)
    refine AX.ret (And.intro (Or.inl rfl) ?_)
    exact Done.one rfl rfl rfl rfl
  · have he := effHiN (l := l) (b := 3) (by omega)
    have hm : (if (3 : Int) < (l.length : Int) then (3 : Int) else (l.length : Int)) = ((3 : Nat) : Int) := by split <;> omega
    refine AX.sregAV [0] (hq := ?_)
    refine AX.sregEV [2] (aI @hm oT) oT (aI he oT) (hq := ?_)
    refine AX.ret (And.intro (Or.inl rfl) ?_)
    exact Done.one rfl rfl rfl rfl

def cut3 (x : RT) : RT := (x.1, x.2.1.take 3, x.2.2.take 3)
theorem map_fR_app (xs : List RT) (x : RT) : xs.map fR ++ [fR x] = (xs ++ [x]).map fR := by simp
/-- Cells of fractions as they come. -/
def rrow (xs : List RT) : List V := xs.flatMap fun x => (fR x).cells
theorem rrow_app (xs : List RT) (x : RT) : rrow xs ++ [.b x.1, dg x.2.1, dg x.2.2] = rrow (xs ++ [x]) := by
  unfold rrow
  rw [List.flatMap_append]
  simp only [List.flatMap_cons, List.flatMap_nil, List.append_nil]
  rfl
theorem rrow_length (xs : List RT) : (rrow xs).length = xs.length * 3 := by
  induction xs with
  | nil => rfl
  | cons x xs ih =>
    show ((fR x).cells ++ rrow xs).length = _
    rw [List.length_append, ih, List.length_cons]
    show 3 + xs.length * 3 = _
    omega
theorem rrow_hf (xs : List RT) : V.hfL (rrow xs) = true ∧ (rrow xs).all V.flat = true := by
  induction xs with
  | nil => exact ⟨rfl, rfl⟩
  | cons x xs ih =>
    show V.hfL ((fR x).cells ++ rrow xs) = true ∧ ((fR x).cells ++ rrow xs).all V.flat = true
    rw [hfL_app, ih.1, List.all_append, ih.2]
    exact ⟨rfl, rfl⟩
theorem ren_rr (f : Nat → Nat) (xs : List RT) : V.renL f (rrow xs) = rrow xs := (hf_names f 0 _ (rrow_hf xs).1).1
theorem lt_rr (k : Nat) (xs : List RT) : V.ltL k (rrow xs) = true := (hf_names id k _ (rrow_hf xs).1).2

theorem leQ5 {g : Nat} {f : Nat → Nat} {st' st : St} (h1 : LeFr f st.fr st'.nx st'.fr := by simp only [ren_q, renL_u, ren_z, ren_bl, ren_il, ren_rr, lt_q, ltL_u, lt_z, lt_bl, lt_il, lt_rr, LeFr, LeHp, lkp, V.ren, V.renL, Row.ren, V.lt, V.ltL, renL_u, ltL_u, List.length_append, List.length_cons, List.length_nil, List.length_set, id_eq, Option.some.injEq, V.i.injEq, V.b.injEq, V.own.injEq, Row.mk.injEq, decide_true, decide_eq_true_eq, true_and, and_true, Bool.and_true, Bool.true_and, if_true, if_false, and_self, Nat.reduceLT, Nat.reduceLeDiff, Nat.reduceEqDiff, Nat.reduceAdd, Nat.reduceSub, Nat.reduceMul, Nat.reducePow, Nat.reduceBEq, Int.reduceLE, Int.reduceLT, Int.reduceToNat, Int.reduceEq, Int.reduceNeg, reduceIte, reduceCtorEq] <;> (first | done | trivial | (and_intros <;> first | trivial | omega | assumption)))
    (h2 : LeHp f st.hp st'.nx st'.hp := by simp only [ren_q, renL_u, ren_z, ren_bl, ren_il, ren_rr, lt_q, ltL_u, lt_z, lt_bl, lt_il, lt_rr, LeFr, LeHp, lkp, V.ren, V.renL, Row.ren, V.lt, V.ltL, renL_u, ltL_u, List.length_append, List.length_cons, List.length_nil, List.length_set, id_eq, Option.some.injEq, V.i.injEq, V.b.injEq, V.own.injEq, Row.mk.injEq, decide_true, decide_eq_true_eq, true_and, and_true, Bool.and_true, Bool.true_and, if_true, if_false, and_self, Nat.reduceLT, Nat.reduceLeDiff, Nat.reduceEqDiff, Nat.reduceAdd, Nat.reduceSub, Nat.reduceMul, Nat.reducePow, Nat.reduceBEq, Int.reduceLE, Int.reduceLT, Int.reduceToNat, Int.reduceEq, Int.reduceNeg, reduceIte, reduceCtorEq] <;> (first | done | trivial | (and_intros <;> first | trivial | omega | assumption)))
    (h3 : Apart f st'.hp := by simp [Apart]) (h4 : g ≤ st'.nx := by first | exact Nat.zero_le _ | simp) (h5 : ∀ n, n < g → f n = n := by intro n hn; first | rfl | exact absurd hn (Nat.not_lt_zero _) | (have h0 : n = 0 := Nat.lt_one_iff.1 hn; subst h0; rfl)) : Le g f st' st := ⟨h1, h2, h3, h4, h5⟩
theorem leQ5H {g : Nat} {f : Nat → Nat} {st' st : St} {H : Prop} (hh : H) (h1 : H → LeFr f st.fr st'.nx st'.fr := by intro hh; simp only [ren_q, renL_u, ren_z, ren_bl, ren_il, ren_rr, lt_q, ltL_u, lt_z, lt_bl, lt_il, lt_rr, LeFr, LeHp, lkp, V.ren, V.renL, Row.ren, V.lt, V.ltL, renL_u, ltL_u, List.length_append, List.length_cons, List.length_nil, List.length_set, id_eq, Option.some.injEq, V.i.injEq, V.b.injEq, V.own.injEq, Row.mk.injEq, decide_true, decide_eq_true_eq, true_and, and_true, Bool.and_true, Bool.true_and, if_true, if_false, and_self, Nat.reduceLT, Nat.reduceLeDiff, Nat.reduceEqDiff, Nat.reduceAdd, Nat.reduceSub, Nat.reduceMul, Nat.reducePow, Nat.reduceBEq, Int.reduceLE, Int.reduceLT, Int.reduceToNat, Int.reduceEq, Int.reduceNeg, reduceIte, reduceCtorEq] <;> (first | done | trivial | (and_intros <;> first | trivial | omega | rw [hh] | (simp only [hh]; done) | assumption)))
    (h2 : H → LeHp f st.hp st'.nx st'.hp := by intro hh; simp only [ren_q, renL_u, ren_z, ren_bl, ren_il, ren_rr, lt_q, ltL_u, lt_z, lt_bl, lt_il, lt_rr, LeFr, LeHp, lkp, V.ren, V.renL, Row.ren, V.lt, V.ltL, renL_u, ltL_u, List.length_append, List.length_cons, List.length_nil, List.length_set, id_eq, Option.some.injEq, V.i.injEq, V.b.injEq, V.own.injEq, Row.mk.injEq, decide_true, decide_eq_true_eq, true_and, and_true, Bool.and_true, Bool.true_and, if_true, if_false, and_self, Nat.reduceLT, Nat.reduceLeDiff, Nat.reduceEqDiff, Nat.reduceAdd, Nat.reduceSub, Nat.reduceMul, Nat.reducePow, Nat.reduceBEq, Int.reduceLE, Int.reduceLT, Int.reduceToNat, Int.reduceEq, Int.reduceNeg, reduceIte, reduceCtorEq] <;> (first | done | trivial | (and_intros <;> first | trivial | omega | rw [hh] | (simp only [hh]; done) | assumption)))
    (h3 : Apart f st'.hp := by simp [Apart]) (h4 : g ≤ st'.nx := by first | exact Nat.zero_le _ | simp) (h5 : ∀ n, n < g → f n = n := by intro n hn; first | rfl | exact absurd hn (Nat.not_lt_zero _) | (have h0 : n = 0 := Nat.lt_one_iff.1 hn; subst h0; rfl)) : Le g f st' st := ⟨h1 hh, h2 hh, h3, h4, h5⟩
theorem dnQ5 {P : Program} {rs : Array ResultVar} {vs : List V} {r v : V} {st : St} {hp : List (Nat × Row)} (h1 : resVs P st rs.toList = some vs := by simp (disch := omega) only [resVs, resV, go_sem, i64_of, u32_of, u64_of, Nat.reduceLT, Nat.reduceLeDiff, Nat.reduceEqDiff, Nat.reduceAdd, Nat.reduceSub, Nat.reduceMul, Nat.reducePow, Nat.reduceBEq, Int.reduceLE, Int.reduceLT, Int.reduceToNat, Int.reduceEq, Int.reduceNeg, reduceIte, reduceCtorEq]; rfl) (h2 : frz [] (packV vs) st.hp = some (v, hp) := by simp only [packV, frz, frzL]; rfl) (h : v = r := by rfl)
    (h3 : r.lt 0 = true := by simp only [V.lt, V.ltL, ltL_u, lt_q, ltL_u, lt_z, lt_bl, lt_il, lt_rr]; first | done | rfl) (h4 : r.ren id = r := by simp only [V.ren, V.renL, renL_u, ren_q, renL_u, ren_z, ren_bl, ren_il, ren_rr]; first | done | rfl) : Done P rs r [] st := Lift.Done.of h1 h2 h h3 h4

theorem rrow_drop (xs : List RT) : ∀ j, (rrow xs).drop (j * 3) = rrow (xs.drop j) := by
  induction xs with
  | nil => intro j; simp [rrow]
  | cons x xs ih =>
    intro j
    cases j with
    | zero => rfl
    | succ j =>
      show ((fR x).cells ++ rrow xs).drop _ = _
      rw [List.drop_succ_cons, ← ih j, show (j + 1) * 3 = j * 3 + 3 by omega]
      rfl
theorem chunks_rr (xs : List RT) : chunks 3 xs.length (rrow xs) = xs.map fR := by
  unfold chunks
  rw [if_neg (by omega)]
  apply List.ext_getElem?
  intro j
  by_cases h : j < xs.length
  · simp only [List.getElem?_map, List.getElem?_range h, List.getElem?_eq_getElem h, Option.map_some]
    rw [rrow_drop, ← List.getElem_cons_drop h]
    rfl
  · rw [List.getElem?_eq_none (by simp; omega), List.getElem?_eq_none (by simp; omega)]
theorem Lift.Done.slRR {P : Program} {st : St} {t : Tmp} {h K : Nat} {xs : List RT} {T : TypeId} (h1 : lkp st.fr t = some (.own h 0 K 3)) (h2 : lkp st.hp h = some ⟨T, rrow xs⟩) (hK : K = xs.length) : Done P #[.tmp t] (.sl (xs.map fR)) [] st := by
  subst hK
  have e : List.take (xs.length * 3) (List.drop 0 (rrow xs)) = rrow xs := by rw [List.drop_zero, ← rrow_length, List.take_length]
  refine Done.of (vs := [.own h 0 xs.length 3]) (hp := dlt st.hp h) ?_ ?_ rfl ?_ ?_
  · simp only [resVs, resV, h1]
  · simp only [packV, frz, h2, List.not_mem_nil, if_false, e, (rrow_hf xs).1, (rrow_hf xs).2, rrow_length, Nat.zero_add, Nat.le_refl, and_self, if_true, chunks_rr, Nat.zero_lt_succ, true_and]
  · simp only [V.lt]
  · simp only [V.ren]

set_option maxHeartbeats 8000000 in
theorem llist_ok (most : Nat) (hm : most < 2 ^ 20) (xs : List RT) (hl : xs.length < 2 ^ 62) (hx : ∀ x ∈ xs, x.2.1.length < 2 ^ 62 ∧ x.2.2.length < 2 ^ 62) : PCall Tryz.prog 29 [.sl (xs.map fR), .i .i64 most] (.sl (((xs.take most).map cut3).map fR)) [] := by
  refine PCall.of_ax Tryz.call29 Tryz.func29 rfl (by simp [Tryz.ntmps29]) fun O w => ?_
  simp only [Tryz.ntmps29, Tryz.results29, argFr]
  obtain ⟨b, hb, hb1, hb2⟩ : ∃ b : Nat, (if (most : Int) < (xs.length : Int) then (most : Int) else (xs.length : Int)) = (b : Int) ∧ b ≤ xs.length ∧ b = (xs.take most).length := by
    by_cases h : most < xs.length
    · exact ⟨most, if_pos (by omega), by omega, by rw [List.length_take]; omega⟩
    · exact ⟨xs.length, if_neg (by omega), Nat.le_refl _, by rw [List.length_take]; omega⟩
  have hbm : b ≤ most := by rw [hb2, List.length_take]; omega
  have he := effHiR hb1
  have htk : xs.take b = xs.take most := by
    rw [hb2, List.length_take]
    by_cases h : most ≤ xs.length
    · rw [Nat.min_eq_left h]
    · rw [Nat.min_eq_right (by omega), List.take_length, List.take_of_length_le (by omega)]
  have hml0 : (xs.map fR).length = xs.length := List.length_map ..
  rw [htk] at he
  have hx' : ∀ x ∈ xs.take most, x.2.1.length < 2 ^ 62 ∧ x.2.2.length < 2 ^ 62 := fun x h => hx x (List.mem_of_mem_take h)
  generalize xs.take most = ys at *
  have hml : (ys.map fR).length = b := by rw [List.length_map, hb2]
  have hix := fun (j : Nat) (h1 : j < ys.length) => fun x y => effIxR (x := x) (y := y) (els := ys.map fR) (j := j) (s := (ys.getD j d0).1) (a := (ys.getD j d0).2.1) (b := (ys.getD j d0).2.2) (by rw [List.length_map]; exact h1) (by rw [List.getD_eq_getElem?_getD, List.getElem?_map, List.getElem?_eq_getElem h1, List.getD_eq_getElem?_getD, List.getElem?_eq_getElem h1]; rfl)
  clear hx htk
  generalize xs.map fR = xl at *
  generalize hyl : ys.map fR = yl at *
  refine AX.sregAV [0, 1] (hq := ?_)
  refine AX.sregAV [0, 1, 5] (hq := ?_)
  refine AX.own0 5 41 3 rfl ?_
  refine AX.seq ?_
  refine AX.sregEV [5, 13, 14, 15] (aI @hml0 (aI @hb (aI @hml oT))) oT (aI he oT) (hq := ?_)
  refine AX.weaken id (st' := ⟨[(15, .i .i64 (0 : Nat)), (14, .i .i64 b), (13, .sl yl), (5, .own 0 0 0 3)], [(0, ⟨41, rrow []⟩)], 1⟩)
    leQ5
    ?_
  refine AX.block ?_
  refine AX.loop (fun N st => ∃ (j : Nat) (zs : List RT), j ≤ b ∧ N = b - j ∧ zs = (ys.take j).map cut3 ∧ st = ⟨[(15, .i .i64 j), (14, .i .i64 b), (13, .sl yl), (5, .own 0 0 j 3)], [(0, ⟨41, rrow zs⟩)], 1⟩) b ⟨0, [], Nat.zero_le _, rfl, rfl, rfl⟩ ?_
  rintro N st ⟨j, zs, hj, rfl, hzs, rfl⟩
  by_cases h1 : j < b
  · have hj' : j < ys.length := by omega
    have hix1 := hix j hj'
    obtain ⟨l1, l2⟩ := hx' _ (getD_mem_RT hj')
    have c1 := lnat_ok _ l1
    have c2 := lnat_ok _ l2
    have hlen : (rrow zs).length = j * 3 := by rw [rrow_length, hzs, List.length_map, List.length_take]; omega
    have hrow := rrow_app zs (cut3 (ys.getD j d0))
    have hnew : zs ++ [cut3 (ys.getD j d0)] = (ys.take (j + 1)).map cut3 := by
      rw [hzs, List.take_add_one, List.map_append, List.getElem?_eq_getElem hj', List.getD_eq_getElem?_getD, List.getElem?_eq_getElem hj']
      rfl
    clear hix hx'
    generalize zs ++ [cut3 (ys.getD j d0)] = us at *
    have hrow : rrow zs ++ [.b (ys.getD j d0).1, dg ((ys.getD j d0).2.1.take 3), dg ((ys.getD j d0).2.2.take 3)] = rrow us := hrow
    generalize ys.getD j d0 = x at *
    obtain ⟨s, p, q⟩ := x
    dsimp only at c1 c2 hix1 hrow
    generalize p.take 3 = p3 at *
    generalize q.take 3 = q3 at *
    refine AX.sregAV [5, 13, 14, 15, 16] (hq := ?_)
    refine AX.seq ?_
    refine AX.condT (h := ?_)
    refine AX.keepA [5, 13, 14, 15] (h := ?_)
    refine AX.skip ?_
    try simp only [zn1,zn2,zn3,zn4,zn5,zn6,zn7,zn8,if_true]
    refine AX.seq ?_
    refine AX.block ?_
    refine AX.sregEV [5, 7, 13, 14, 15] oT oT (aI hix1 oT) (hq := ?_)
    refine AX.dregWV [5, 13, 14, 15] (aI @hlen (aI @zerosV_1 (aI @tkS (aI @tk0 oT)))) (aI c1 (aI c2 oT)) (hq := ?_)
    try simp only [zn1,zn2,zn3,zn4,zn5,zn6,zn7,zn8,if_true]
    rw [hrow]
    refine AX.regWV [5, 13, 14, 15] (aI @lit_add oT) oT (hq := ?_)
    try simp only [zn1,zn2,zn3,zn4,zn5,zn6,zn7,zn8,if_true]
    refine ⟨_, _, fun n => if n = 0 then 3 else n, ?_,
      leQ5
      , ⟨j + 1, us, by omega, rfl, hnew, rfl⟩⟩
    omega
  · have e : j = b := by omega
    have hfin : zs = ys.map cut3 := by rw [hzs, List.take_of_length_le (by omega)]
    rw [← hfin]
    refine AX.sregAV [5, 13, 14, 15, 16] (hq := ?_)
    refine AX.seq ?_
    refine AX.condF (h := ?_)
    refine AX.exit ?_
    try simp only [zn1,zn2,zn3,zn4,zn5,zn6,zn7,zn8,if_true]
    refine AX.sregAV [4] (hq := ?_)
    refine AX.ret (And.intro (Or.inl rfl) ?_)
    exact Done.slRR rfl rfl (by rw [hfin, List.length_map]; omega)

end Go.Proofs.YtepkjfnffbdcoaaGreat
