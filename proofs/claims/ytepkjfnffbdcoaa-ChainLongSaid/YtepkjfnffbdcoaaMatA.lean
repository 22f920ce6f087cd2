/- Matrices of fractions as values and as rows; Right, sized, copied, cell, filled. -/
import Derived.Test.YtepkjfnffbdcoaaGS
import Derived.Test.YtepkjfnffbdcoaaQ2B
import Derived.Test.YtepkjfnffbdcoaaLiftG
set_option linter.unusedVariables false
set_option maxRecDepth 20000
set_option linter.unusedSimpArgs false
namespace Go.Proofs.Ytepkjfnffbdcoaa
open Go Go.Proofs.Ytepkjfnffbdcoaa.Lift
attribute [local irreducible] Lift.PCall Lift.HCall

/-! ### Rows of fractions -/
def qrow (xs : List Rat) : List V := xs.flatMap fun q => (rV q).cells
theorem qrow_nil : qrow [] = [] := rfl
theorem qrow_cons (q : Rat) (xs : List Rat) : qrow (q :: xs) = (rV q).cells ++ qrow xs := rfl
theorem qrow_app (xs ys : List Rat) : qrow (xs ++ ys) = qrow xs ++ qrow ys := by simp [qrow]
theorem qrow_one (q : Rat) : qrow [q] = [.b (decide (q.num < 0)), dg (digits q.num.natAbs), dg (digits q.den)] := rfl
theorem qrow_length (xs : List Rat) : (qrow xs).length = xs.length * 3 := by
  induction xs with
  | nil => rfl
  | cons q xs ih =>
    rw [qrow_cons, List.length_append, ih, List.length_cons]
    show 3 + xs.length * 3 = _
    omega
theorem qrow_drop (xs : List Rat) : ∀ j, (qrow xs).drop (j * 3) = qrow (xs.drop j) := by
  induction xs with
  | nil => intro j; simp [qrow]
  | cons q xs ih =>
    intro j
    cases j with
    | zero => rfl
    | succ j =>
      rw [qrow_cons, List.drop_succ_cons, ← ih j, show (j + 1) * 3 = j * 3 + 3 by omega]
      rfl
theorem qrow_get {xs : List Rat} {j : Nat} (h : j < xs.length) : ((qrow xs).drop (j * 3)).take 3 = (rV (xs.getD j 0)).cells := by
  rw [qrow_drop]
  have e : xs.drop j = xs.getD j 0 :: xs.drop (j + 1) := by
    have e0 : xs.getD j 0 = xs[j] := by rw [List.getD_eq_getElem?_getD, List.getElem?_eq_getElem h]; rfl
    rw [e0, List.getElem_cons_drop]
  rw [e, qrow_cons]
  rfl
theorem qrow_take (xs : List Rat) (n : Nat) : (qrow xs).take (n * 3) = qrow (xs.take n) := by
  induction xs generalizing n with
  | nil => simp [qrow]
  | cons q xs ih =>
    cases n with
    | zero => simp [qrow]
    | succ n =>
      rw [qrow_cons, List.take_succ_cons, qrow_cons, ← ih n, show (n + 1) * 3 = n * 3 + 3 by omega]
      rfl
theorem chunks_q (xs : List Rat) : chunks 3 xs.length (qrow xs) = xs.map rV := by
  unfold chunks
  rw [if_neg (by omega)]
  apply List.ext_getElem?
  intro j
  by_cases h : j < xs.length
  · have e0 : xs.getD j 0 = xs[j] := by rw [List.getD_eq_getElem?_getD, List.getElem?_eq_getElem h]; rfl
    simp only [List.getElem?_map, List.getElem?_range h, List.getElem?_eq_getElem h, Option.map_some]
    rw [qrow_get h, e0]
    rfl
  · rw [List.getElem?_eq_none (by simp; omega), List.getElem?_eq_none (by simp; omega)]
theorem flat_q (xs : List Rat) : (qrow xs).all V.flat = true := by
  rw [List.all_eq_true]
  intro v hv
  obtain ⟨q, _, hq⟩ := List.mem_flatMap.1 hv
  have hq : v ∈ [V.b (decide (q.num < 0)), dg (digits q.num.natAbs), dg (digits q.den)] := hq
  simp only [List.mem_cons, List.not_mem_nil, or_false] at hq
  rcases hq with rfl | rfl | rfl <;> rfl
theorem hfL_app (l l' : List V) : V.hfL (l ++ l') = (V.hfL l && V.hfL l') := by
  induction l with
  | nil => simp [V.hfL]
  | cons v l ih => simp only [List.cons_append, V.hfL, ih, Bool.and_assoc]
theorem renL_app (f : Nat → Nat) (l l' : List V) : V.renL f (l ++ l') = V.renL f l ++ V.renL f l' := by
  induction l with
  | nil => simp [V.renL]
  | cons v l ih => simp only [List.cons_append, V.renL, ih]
theorem ltL_app (n : Nat) (l l' : List V) : V.ltL n (l ++ l') = (V.ltL n l && V.ltL n l') := by
  induction l with
  | nil => simp [V.ltL]
  | cons v l ih => simp only [List.cons_append, V.ltL, ih, Bool.and_assoc]
theorem hf_q (xs : List Rat) : V.hfL (qrow xs) = true := by
  induction xs with
  | nil => rfl
  | cons q xs ih =>
    rw [qrow_cons, hfL_app, ih]
    rfl
theorem ren_q (f : Nat → Nat) (xs : List Rat) : V.renL f (qrow xs) = qrow xs := by
  induction xs with
  | nil => simp only [qrow_nil, V.renL]
  | cons q xs ih =>
    rw [qrow_cons, renL_app, ih]
    have e : V.renL f (rV q).cells = (rV q).cells := by
      show V.renL f [V.b (decide (q.num < 0)), dg (digits q.num.natAbs), dg (digits q.den)] = [V.b (decide (q.num < 0)), dg (digits q.num.natAbs), dg (digits q.den)]
      simp only [V.renL, V.ren]
    rw [e]
theorem lt_q (n : Nat) (xs : List Rat) : V.ltL n (qrow xs) = true := by
  induction xs with
  | nil => simp only [qrow_nil, V.ltL]
  | cons q xs ih =>
    rw [qrow_cons, ltL_app, ih]
    show (V.ltL n [V.b (decide (q.num < 0)), dg (digits q.num.natAbs), dg (digits q.den)] && true) = true
    simp only [V.ltL, V.lt]
    rfl
theorem okFrz_q (xs : List Rat) : okFrz 0 xs.length 3 (qrow xs) = true := by
  unfold okFrz
  have e : (List.drop 0 (qrow xs)).take (xs.length * 3) = qrow xs := by rw [List.drop_zero, ← qrow_length, List.take_length]
  rw [e, flat_q, hf_q, qrow_length]
  simp
theorem take_q (xs : List Rat) : (List.drop 0 (qrow xs)).take (xs.length * 3) = qrow xs := by rw [List.drop_zero, ← qrow_length, List.take_length]
theorem set_q {xs : List Rat} (q : Rat) : ∀ {j : Nat}, j < xs.length → setR (qrow xs) (j * 3) (rV q).cells = qrow (xs.set j q) := by
  have app : ∀ (vs l l' : List V) (off : Nat), setR (l ++ l') (l.length + off) vs = l ++ setR l' off vs := by
    intro vs
    induction vs with
    | nil => intro l l' off; rfl
    | cons v vs ih =>
      intro l l' off
      show setR ((l ++ l').set (l.length + off) v) (l.length + off + 1) vs = _
      rw [List.set_append_right _ _ (by omega), Nat.add_sub_cancel_left, Nat.add_assoc, ih]
      rfl
  induction xs with
  | nil => intro j h; simp at h
  | cons p xs ih =>
    intro j h
    cases j with
    | zero =>
      rw [List.set_cons_zero, qrow_cons, qrow_cons]
      rfl
    | succ j =>
      rw [List.set_cons_succ, qrow_cons, qrow_cons, ← ih (by simpa using h), ← app, show (rV p).cells.length + j * 3 = (j + 1) * 3 by show 3 + j * 3 = _; omega]

/-! ### The first cells of a matrix that a function tells -/
def mcells (c : Nat) (f : Nat → Nat → Rat) (m : Nat) : List Rat := (List.range m).map fun j => f (j / c) (j % c)
theorem mcells_length (c : Nat) (f : Nat → Nat → Rat) (m : Nat) : (mcells c f m).length = m := by simp [mcells]
theorem mcells_succ {c i k : Nat} (f : Nat → Nat → Rat) (hk : k < c) : mcells c f (i * c + (k + 1)) = mcells c f (i * c + k) ++ [f i k] := by
  unfold mcells
  rw [← Nat.add_assoc, List.range_succ, List.map_append]
  have h1 : (i * c + k) / c = i := by
    rw [Nat.add_comm, Nat.add_mul_div_right _ _ (by omega), Nat.div_eq_of_lt hk, Nat.zero_add]
  have h2 : (i * c + k) % c = k := by
    rw [Nat.add_comm, Nat.add_mul_mod_self_right, Nat.mod_eq_of_lt hk]
  simp only [List.map_cons, List.map_nil, h1, h2]
theorem mcells_row (c i : Nat) (f : Nat → Nat → Rat) : mcells c f (i * c + c) = mcells c f ((i + 1) * c + 0) := by rw [Nat.add_zero, Nat.succ_mul]
theorem mcells_get {c r i k : Nat} (f : Nat → Nat → Rat) (hi : i < r) (hk : k < c) : i * c + k < r * c ∧ (mcells c f (r * c)).getD (i * c + k) 0 = f i k := by
  have hlt : i * c + k < r * c := by
    have : (i + 1) * c ≤ r * c := Nat.mul_le_mul_right _ hi
    rw [Nat.succ_mul] at this
    omega
  refine ⟨hlt, ?_⟩
  have h1 : (i * c + k) / c = i := by
    rw [Nat.add_comm, Nat.add_mul_div_right _ _ (by omega), Nat.div_eq_of_lt hk, Nat.zero_add]
  have h2 : (i * c + k) % c = k := by
    rw [Nat.add_comm, Nat.add_mul_mod_self_right, Nat.mod_eq_of_lt hk]
  simp only [mcells, List.getD_eq_getElem?_getD, List.getElem?_map, List.getElem?_range hlt, Option.map_some, Option.getD_some, h1, h2]
theorem mcells_congr {c r : Nat} {f g : Nat → Nat → Rat} (h : ∀ i k, i < r → k < c → f i k = g i k) : mcells c f (r * c) = mcells c g (r * c) := by
  unfold mcells
  apply List.map_congr_left
  intro j hj
  have hj : j < r * c := by simpa using hj
  have hc : 0 < c := Nat.pos_of_ne_zero fun e => by subst e; simp at hj
  exact h _ _ ((Nat.div_lt_iff_lt_mul hc).2 hj) (Nat.mod_lt _ hc)

/-! ### Values -/
abbrev mV (R C : Int) (els : List V) : V := .agg [.i .i64 R, .i .i64 C, .sl els]
abbrev qM (r c : Nat) (f : Nat → Nat → Rat) : V := mV r c ((mcells c f (r * c)).map rV)
theorem lay_mat : lay Try.prog 35 = some ⟨3, true, 40, [.i .i64 0, .i .i64 0, .nl]⟩ := by kernel_rfl
theorem lay_intt : lay Try.prog 3 = some ⟨1, false, 8, [.i .i64 0]⟩ := by kernel_rfl
theorem lay_qs : lay Try.prog 31 = some ⟨1, false, 24, [.nl]⟩ := by kernel_rfl

attribute [go_sem] Try.underlying35 lay_mat lay_intt lay_qs

theorem getD_rV {xs : List Rat} {j : Nat} (h : j < xs.length) : (xs.map rV).getD j .junk = rV (xs.getD j 0) := by
  simp [List.getD_eq_getElem?_getD, h]
theorem effIxQ {xs : List Rat} {j : Nat} {x y : Operand} (hj : j < xs.length) : eff Try.prog (.indexAddr 31 x y) [.sl (xs.map rV), .i .i64 (j : Int)] = some (.val (.rp [.b (decide ((xs.getD j 0).num < 0)), dg (digits (xs.getD j 0).num.natAbs), dg (digits (xs.getD j 0).den)])) :=
  effIxR (by simpa using hj) (getD_rV hj)

theorem take3 (a b c : V) : List.take 3 [a, b, c] = [a, b, c] := rfl
theorem take36 (a b c d e f : V) : List.take 3 [a, b, c, d, e, f] = [a, b, c] := rfl
theorem take66 (a b c d e f : V) : List.take 6 [a, b, c, d, e, f] = [a, b, c, d, e, f] := rfl
theorem drop36 (a b c d e f : V) : List.drop 3 [a, b, c, d, e, f] = [d, e, f] := rfl
attribute [go_sem] take3 take36 take66 drop36

/-! ### What a matrix is -/
def isR3 (x : RT) : Bool := isR x.1 x.2.1 x.2.2
def isM (R C : Int) (xs : List RT) : Bool := decide (0 ≤ R ∧ R ≤ 60 ∧ 0 ≤ C ∧ C ≤ 60 ∧ (xs.length : Int) = R * C) && xs.all isR3
/-- Cells of digits that are not too long. -/
def okX (xs : List RT) : Prop := ∀ x ∈ xs, Dg x.2.1 ∧ Dg x.2.2 ∧ x.2.1.length < 2 ^ 36 ∧ x.2.2.length < 2 ^ 36
theorem getD_mem_RT {xs : List RT} {i : Nat} (h : i < xs.length) : xs.getD i d0 ∈ xs := by
  rw [List.getD_eq_getElem?_getD, List.getElem?_eq_getElem h]
  exact List.getElem_mem _

theorem mR3_ok (x : RT) (d1 : Dg x.2.1) (d2 : Dg x.2.2) (d3 : x.2.1.length < 2 ^ 36) (d4 : x.2.2.length < 2 ^ 36) : PCall Try.prog 38 [rR x.1 x.2.1 x.2.2] (.b (isR3 x)) [] := qright_raw _ _ _ d1 d2 d3 d4

set_option maxRecDepth 20000 in
set_option maxHeartbeats 4000000 in
theorem mright_raw (R C : Int) (xs : List RT) (hR : -9223372036854775808 ≤ R ∧ R ≤ 9223372036854775807) (hC : -9223372036854775808 ≤ C ∧ C ≤ 9223372036854775807) (hx : okX xs) (hl : xs.length < 2 ^ 40) :
    PCall Try.prog 31 [mV R C (xs.map fR)] (.b (isM R C xs)) [] := by
  refine PCall.of_ax Try.call31 Try.func31 rfl (by simp [Try.ntmps31]) fun O w => ?_
  simp only [Try.ntmps31, Try.results31, argFr]
  have hml : (xs.map fR).length = xs.length := List.length_map ..
  have no : ¬ (0 ≤ R ∧ R ≤ 60 ∧ 0 ≤ C ∧ C ≤ 60 ∧ (xs.length : Int) = R * C) → isM R C xs = false := by
    intro h
    unfold isM
    rw [decide_eq_false h]
    rfl
  refine AX.sregAV [1] (hq := ?_)
  refine AX.seq ?_
  by_cases h1 : R < 0
  · rw [no (by omega)]
    refine AX.sregAV [1, 33] (hq := ?_)
    refine AX.condT (h := ?_)
    refine AX.sregAV [2] (hq := ?_)
    refine AX.ret (And.intro (Or.inl rfl) ?_)
    exact Done.one rfl rfl rfl rfl
  by_cases h2 : 60 < R
  · rw [no (by omega)]
    refine AX.sregAV [1, 33] (hq := ?_)
    refine AX.condT (h := ?_)
    refine AX.sregAV [2] (hq := ?_)
    refine AX.ret (And.intro (Or.inl rfl) ?_)
    exact Done.one rfl rfl rfl rfl
  by_cases h3 : C < 0
  · rw [no (by omega)]
    refine AX.sregAV [1, 33] (hq := ?_)
    refine AX.condT (h := ?_)
    refine AX.sregAV [2] (hq := ?_)
    refine AX.ret (And.intro (Or.inl rfl) ?_)
    exact Done.one rfl rfl rfl rfl
  by_cases h4 : 60 < C
  · rw [no (by omega)]
    refine AX.sregAV [1, 33] (hq := ?_)
    refine AX.condT (h := ?_)
    refine AX.sregAV [2] (hq := ?_)
    refine AX.ret (And.intro (Or.inl rfl) ?_)
    exact Done.one rfl rfl rfl rfl
  obtain ⟨r, rfl⟩ : ∃ r : Nat, R = r := ⟨R.toNat, by omega⟩
  obtain ⟨c, rfl⟩ : ∃ c : Nat, C = c := ⟨C.toNat, by omega⟩
  have hrc : r * c ≤ 60 * 60 := Nat.mul_le_mul (by omega) (by omega)
  have hrc' : (r : Int) * (c : Int) = ((r * c : Nat) : Int) := (Int.natCast_mul r c).symm
  by_cases h5 : xs.length = r * c
  · have e : isM r c xs = xs.all isR3 := by
      unfold isM
      rw [decide_eq_true ⟨by omega, by omega, by omega, by omega, by rw [hrc']; omega⟩]
      rfl
    rw [e]
    clear no e
    generalize r * c = z at *
    refine AX.sregWV [1, 33] (And.intro @hml (And.intro @hrc' True.intro)) True.intro (hq := ?_)
    refine AX.condF (h := ?_)
    refine AX.keepA [1] (h := ?_)
    refine AX.skip ?_
    try simp only [thenS_normal, thenS_ret, thenS_exit, blockS_normal, blockS_ret, blockS_exit, backS_ret, backS_exit, if_true]
    refine AX.seq ?_
    refine AX.sregWV [35, 36, 37] (And.intro @hml True.intro) True.intro (hq := ?_)
    refine AX.weaken id (st' := ⟨[(37, .i .i64 0), (36, .i .i64 xs.length), (35, .sl (xs.map fR))], [], 0⟩)
      leA
      ?_
    refine AX.block ?_
    refine AX.loop (fun n st => ∃ i : Nat, i ≤ xs.length ∧ n = xs.length - i ∧ (∀ j, j < i → isR3 (xs.getD j d0) = true) ∧ st = ⟨[(37, .i .i64 i), (36, .i .i64 xs.length), (35, .sl (xs.map fR))], [], 0⟩) xs.length ⟨0, Nat.zero_le _, rfl, fun j hj => absurd hj (Nat.not_lt_zero _), rfl⟩ ?_
    rintro n st ⟨i, hi, rfl, hij, rfl⟩
    by_cases h : i < xs.length
    · have hm := getD_mem_RT h
      obtain ⟨d1, d2, d3, d4⟩ := hx _ hm
      have hix := fun x y => effIxR (x := x) (y := y) (by rw [hml]; exact h) (getD_fR h)
      have cr := mR3_ok (xs.getD i d0) d1 d2 d3 d4
      refine AX.sregAV [35, 36, 37, 38] (hq := ?_)
      refine AX.seq ?_
      refine AX.condT (h := ?_)
      refine AX.keepA [35, 36, 37] (h := ?_)
      refine AX.skip ?_
      try simp only [thenS_normal, thenS_ret, thenS_exit, blockS_normal, blockS_ret, blockS_exit, backS_ret, backS_exit, if_true]
      refine AX.seq ?_
      refine AX.block ?_
      cases hb : isR3 (xs.getD i d0)
      · rw [hb] at cr
        generalize xs.getD i d0 = y at *
        apply AX.sreg [4, 35, 36, 37] (by simp only [pq]; rfl)
        · repeat (first
         | (apply RunO.op rfl; · rfl
            · (simp only [opsOf, valsOf, valOf, lkp, ofConst, ofCell, Array.toList, Option.toList, List.map_cons, List.map_nil, List.cons_append, List.nil_append, List.append_nil, Nat.reduceEqDiff, Nat.reducePow, Nat.reduceLT, Nat.reduceLeDiff, reduceIte, if_true, if_false, IntKind.min, IntKind.max, IntKind.bits, IntKind.signed, Int.reduceLE, Int.reduceNeg, Int.reducePow, Int.reduceSub, and_self, Bool.false_eq_true, Nat.reduceSub]; rfl)
            · first | exact hix _ _ | (simp (disch := omega) only [go_sem, i64_of, u32_of, u64_of, Nat.reduceLT, Nat.reduceLeDiff, Nat.reduceEqDiff, Nat.reduceAdd, Nat.reduceSub, Nat.reduceMul, Nat.reducePow, Nat.reduceBEq, Int.reduceLE, Int.reduceLT, Int.reduceToNat, Int.reduceEq, Int.reduceNeg, reduceIte, reduceCtorEq]; rfl)
            · (simp (disch := omega) only [go_sem, i64_of, u32_of, u64_of, Nat.reduceLT, Nat.reduceLeDiff, Nat.reduceEqDiff, Nat.reduceAdd, Nat.reduceSub, Nat.reduceMul, Nat.reducePow, Nat.reduceBEq, Int.reduceLE, Int.reduceLT, Int.reduceToNat, Int.reduceEq, Int.reduceNeg, reduceIte, reduceCtorEq]; rfl)
            · (simp only [pb, Nat.reduceLT, Nat.reduceAdd, reduceIte]; rfl))
         | (apply RunO.skip; · rfl
            · (simp only [pb, Nat.reduceLT, Nat.reduceAdd, reduceIte]; rfl)))
          exact RunO.nil
        · repeat (first | exact Keep.nil | (apply Keep.take; · rfl) | (apply Keep.drop; · rfl))
        refine AX.sregCV [35, 36, 37, 43] (And.intro cr True.intro) (hq := ?_)
        refine AX.condT (h := ?_)
        refine AX.sregAV [2] (hq := ?_)
        refine AX.ret (And.intro (Or.inl rfl) ?_)
        have : xs.all isR3 = false := by
          rw [List.all_eq_false]
          exact ⟨_, hm, by rw [hb]; exact Bool.false_ne_true⟩
        rw [this]
        exact Done.one rfl rfl rfl rfl
      · rw [hb] at cr
        have hyy : ∀ j, j < i + 1 → isR3 (xs.getD j d0) = true := by
          intro j hj
          by_cases e : j = i
          · subst e; exact hb
          · exact hij j (by omega)
        generalize xs.getD i d0 = y at *
        apply AX.sreg [4, 35, 36, 37] (by simp only [pq]; rfl)
        · repeat (first
         | (apply RunO.op rfl; · rfl
            · (simp only [opsOf, valsOf, valOf, lkp, ofConst, ofCell, Array.toList, Option.toList, List.map_cons, List.map_nil, List.cons_append, List.nil_append, List.append_nil, Nat.reduceEqDiff, Nat.reducePow, Nat.reduceLT, Nat.reduceLeDiff, reduceIte, if_true, if_false, IntKind.min, IntKind.max, IntKind.bits, IntKind.signed, Int.reduceLE, Int.reduceNeg, Int.reducePow, Int.reduceSub, and_self, Bool.false_eq_true, Nat.reduceSub]; rfl)
            · first | exact hix _ _ | (simp (disch := omega) only [go_sem, i64_of, u32_of, u64_of, Nat.reduceLT, Nat.reduceLeDiff, Nat.reduceEqDiff, Nat.reduceAdd, Nat.reduceSub, Nat.reduceMul, Nat.reducePow, Nat.reduceBEq, Int.reduceLE, Int.reduceLT, Int.reduceToNat, Int.reduceEq, Int.reduceNeg, reduceIte, reduceCtorEq]; rfl)
            · (simp (disch := omega) only [go_sem, i64_of, u32_of, u64_of, Nat.reduceLT, Nat.reduceLeDiff, Nat.reduceEqDiff, Nat.reduceAdd, Nat.reduceSub, Nat.reduceMul, Nat.reducePow, Nat.reduceBEq, Int.reduceLE, Int.reduceLT, Int.reduceToNat, Int.reduceEq, Int.reduceNeg, reduceIte, reduceCtorEq]; rfl)
            · (simp only [pb, Nat.reduceLT, Nat.reduceAdd, reduceIte]; rfl))
         | (apply RunO.skip; · rfl
            · (simp only [pb, Nat.reduceLT, Nat.reduceAdd, reduceIte]; rfl)))
          exact RunO.nil
        · repeat (first | exact Keep.nil | (apply Keep.take; · rfl) | (apply Keep.drop; · rfl))
        refine AX.sregCV [35, 36, 37, 43] (And.intro cr True.intro) (hq := ?_)
        refine AX.condF (h := ?_)
        refine AX.keepA [35, 36, 37] (h := ?_)
        refine AX.skip ?_
        try simp only [thenS_normal, thenS_ret, thenS_exit, blockS_normal, blockS_ret, blockS_exit, backS_ret, backS_exit, if_true]
        refine AX.regWV [35, 36, 37] (And.intro @lit_add True.intro) True.intro (hq := ?_)
        try simp only [thenS_normal, thenS_ret, thenS_exit, blockS_normal, blockS_ret, blockS_exit, backS_ret, backS_exit, if_true]
        refine ⟨_, _, id, ?_,
          leA
          , ⟨i + 1, by omega, rfl, hyy, rfl⟩⟩
        omega
    · refine AX.sregAV [35, 36, 37, 38] (hq := ?_)
      refine AX.seq ?_
      refine AX.condF (h := ?_)
      refine AX.exit ?_
      try simp only [thenS_normal, thenS_ret, thenS_exit, blockS_normal, blockS_ret, blockS_exit, backS_ret, backS_exit, if_true]
      refine AX.sregAV [2] (hq := ?_)
      refine AX.ret (And.intro (Or.inl rfl) ?_)
      have : xs.all isR3 = true := by
        rw [List.all_eq_true]
        intro x hx
        obtain ⟨j, hj, rfl⟩ := List.getElem_of_mem hx
        have := hij j (by omega)
        rwa [List.getD_eq_getElem?_getD, List.getElem?_eq_getElem hj] at this
      rw [this]
      exact Done.one rfl rfl rfl rfl
  · rw [no (by rw [hrc']; omega)]
    generalize r * c = z at *
    refine AX.sregWV [1, 33] (And.intro @hml (And.intro @hrc' True.intro)) True.intro (hq := ?_)
    refine AX.condT (h := ?_)
    refine AX.sregAV [2] (hq := ?_)
    refine AX.ret (And.intro (Or.inl rfl) ?_)
    exact Done.one rfl rfl rfl rfl


end Go.Proofs.Ytepkjfnffbdcoaa
