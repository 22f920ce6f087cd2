/- Add, Sub, Mul, whose results are the caller's own (printed by mkown.py). -/
import Derived.Test.YtlhobedecoeohaaNatO1
set_option linter.unusedVariables false
set_option linter.unusedSimpArgs false
namespace Go.Proofs.Ytlhobedecoeohaa
open Go Go.Proofs.Ytlhobedecoeohaa.Lift
attribute [local irreducible] Lift.PCall Lift.HCall
theorem leQ0 {g : Nat} {f : Nat → Nat} {st' st : St} (h1 : LeFr f st.fr st'.nx st'.fr := by simp only [renL_u, ltL_u, LeFr, LeHp, lkp, V.ren, V.renL, Row.ren, V.lt, V.ltL, renL_u, ltL_u, List.length_append, List.length_cons, List.length_nil, List.length_set, id_eq, Option.some.injEq, V.i.injEq, V.b.injEq, V.own.injEq, Row.mk.injEq, decide_true, decide_eq_true_eq, true_and, and_true, Bool.and_true, Bool.true_and, if_true, if_false, and_self, Nat.reduceLT, Nat.reduceLeDiff, Nat.reduceEqDiff, Nat.reduceAdd, Nat.reduceSub, Nat.reduceMul, Nat.reducePow, Nat.reduceBEq, Int.reduceLE, Int.reduceLT, Int.reduceToNat, Int.reduceEq, Int.reduceNeg, reduceIte, reduceCtorEq] <;> (first | done | trivial | (and_intros <;> first | trivial | omega | assumption)))
  (h2 : LeHp f st.hp st'.nx st'.hp := by simp only [renL_u, ltL_u, LeFr, LeHp, lkp, V.ren, V.renL, Row.ren, V.lt, V.ltL, renL_u, ltL_u, List.length_append, List.length_cons, List.length_nil, List.length_set, id_eq, Option.some.injEq, V.i.injEq, V.b.injEq, V.own.injEq, Row.mk.injEq, decide_true, decide_eq_true_eq, true_and, and_true, Bool.and_true, Bool.true_and, if_true, if_false, and_self, Nat.reduceLT, Nat.reduceLeDiff, Nat.reduceEqDiff, Nat.reduceAdd, Nat.reduceSub, Nat.reduceMul, Nat.reducePow, Nat.reduceBEq, Int.reduceLE, Int.reduceLT, Int.reduceToNat, Int.reduceEq, Int.reduceNeg, reduceIte, reduceCtorEq] <;> (first | done | trivial | (and_intros <;> first | trivial | omega | assumption)))
  (h3 : Apart f st'.hp := by simp [Apart]) (h4 : g ≤ st'.nx := by first | exact Nat.zero_le _ | simp) (h5 : ∀ n, n < g → f n = n := by intro n hn; first | rfl | exact absurd hn (Nat.not_lt_zero _) | (have h0 : n = 0 := Nat.lt_one_iff.1 hn; subst h0; rfl)) : Le g f st' st := ⟨h1, h2, h3, h4, h5⟩
theorem Lift.Done.ownRowE {P : Program} {st : St} {t t' : Tmp} {h len : Nat} {l : List Nat} {T : TypeId} {e : Int} (h1 : lkp st.fr t = some (.own h 0 len 1)) (h3 : lkp st.fr t' = some (.i .i64 e)) (h2 : lkp st.hp h = some ⟨T, l.map u⟩) : Done P #[.tmp t, .tmp t'] (.tup [.own 0 0 len 1, .i .i64 e]) [⟨T, l.map u⟩] st := by
 refine ⟨[.own h 0 len 1, .i .i64 e], by simp [resVs, resV, h1, h3], [h], fun _ => h, .tup [.own h 0 len 1, .i .i64 e], st.hp, ?_, rfl, rfl, ?_, ?_⟩
 ·simp [packV, frz, frzL]
 ·intro k q hq
  cases k with
  | zero =>
   simp at hq
   subst hq
   refine ⟨?_, ltL_u _ _⟩
   rw [h2]
   simp only [Row.ren, renL_u]
  | succ k => simp at hq
 ·intro k k' hk hk' _
  simp at hk hk'
  omega
set_option maxHeartbeats 4000000 in
theorem mul_o (a b : List Nat) (ha : Dg a) (hb : Dg b) (hla : a.length < 2 ^ 38) (hlb : b.length < 2 ^ 38) : PCall Try.prog 32 [dg a, dg b] (.own 0 0 (digits (val a * val b)).length 1) [⟨50, (padD ((digits (val a)).length + (digits (val b)).length) (val a * val b)).map u⟩] := by
 refine PCall.of_ax Try.call32 Try.func32 rfl (by simp [Try.ntmps32]) fun O w => ?_
 simp only [Try.ntmps32, Try.results32, argFr]
 have c1 := ntrim_ok a ha (by omega)
 have c2 := ntrim_ok b hb (by omega)
 have hma := digits_length_val ha
 have hmb := digits_length_val hb
 generalize val a = m at *
 generalize val b = n at *
 have hdx := Dg_digits m
 have hdy := Dg_digits n
 refine AX.sR (rgAV [0, 1]) ?_
 refine AX.sR (rgCV [0, 1] (aI c1 (aI c2 oT))) ?_
 refine AX.sR (rgWV [0, 1, 5] (aI @cAdd oT) oT) ?_
 generalize hL : (digits m).length + (digits n).length = L at *
 refine AX.seq ?_
 refine AX.sR (rgAV [0, 1, 5, 21, 22, 23]) ?_
 refine AX.block ?_
 refine AX.loop (fun N st => ∃ (i : Nat) (r : List Nat), N = (digits m).length - i ∧ i ≤ (digits m).length ∧ r.length = L ∧ Dg r ∧ (∀ j, i + (digits n).length ≤ j → r.getD j 0 = 0) ∧ val r = val ((digits m).take i) * n ∧
  st = ⟨[(23, .i .i64 i), (22, .i .i64 (digits m).length), (21, nv m), (5, .own 0 0 L 1), (1, nv n), (0, nv m)], [(0, ⟨50, r.map u⟩)], 1⟩) (digits m).length ⟨0, List.replicate L 0, rfl, Nat.zero_le _, by simp, Dg_replicate _, fun j _ => by simp [List.getD_eq_getElem?_getD, List.getElem?_replicate]; split <;> rfl, by simp [val, val_replicate], rfl⟩ ?_
 rintro N st ⟨i, r, rfl, hi, hr, hdr, hz, hval, rfl⟩
 by_cases h1 : i < (digits m).length
 ·refine AX.sR (rgAV [0, 1, 5, 21, 22, 23, 24]) ?_
  refine AX.seq ?_
  refine AX.condT ?_
  refine AX.skip ?_
  refine nmZ ?_
  refine AX.seq ?_
  refine AX.block ?_
  have hx := Dg_getD hdx i
  refine AX.sR (rgAV [0, 1, 5, 6, 7, 21, 22, 23]) ?_
  refine AX.sR (rgAV [0, 1, 5, 6, 7, 8, 21, 22, 23]) ?_
  have htm := val_take_step (digits m) i
  generalize hxx : (digits m).getD i 0 = x at *
  refine AX.cut (fun st => ∃ (c : Nat) (r' : List Nat), c < 4294967296 ∧ r'.length = L ∧ Dg r' ∧ (∀ j, i + (digits n).length ≤ j → r'.getD j 0 = 0) ∧ val r' + 4294967296 ^ i * 4294967296 ^ (digits n).length * c = val ((digits m).take i) * n + 4294967296 ^ i * (x * n) ∧
   st = ⟨[(8, .i .u64 c), (7, .i .u32 x), (6, .i .i64 i), (23, .i .i64 i), (22, .i .i64 (digits m).length), (21, nv m), (5, .own 0 0 L 1), (1, nv n), (0, nv m)], [(0, ⟨50, r'.map u⟩)], 1⟩) ?_ ?_
  ·refine AX.sR (rgAV [0, 1, 5, 6, 7, 8, 21, 22, 23, 28, 29, 30]) ?_
   refine AX.block ?_
   refine AX.loop (fun N st => ∃ (k c : Nat) (r' : List Nat), N = (digits n).length - k ∧ k ≤ (digits n).length ∧ c < 4294967296 ∧ r'.length = L ∧ Dg r' ∧ (∀ j, i + (digits n).length ≤ j → r'.getD j 0 = 0) ∧ val r' + 4294967296 ^ i * 4294967296 ^ k * c = val ((digits m).take i) * n + 4294967296 ^ i * (x * val ((digits n).take k)) ∧
    st = ⟨[(30, .i .i64 k), (29, .i .i64 (digits n).length), (28, nv n), (8, .i .u64 c), (7, .i .u32 x), (6, .i .i64 i), (23, .i .i64 i), (22, .i .i64 (digits m).length), (21, nv m), (5, .own 0 0 L 1), (1, nv n), (0, nv m)], [(0, ⟨50, r'.map u⟩)], 1⟩) (digits n).length ⟨0, 0, r, rfl, Nat.zero_le _, by omega, hr, hdr, hz, by simp [val, hval], rfl⟩ ?_
   clear hz hdr hr hval r
   rintro N st ⟨k, c, r, rfl, hk, hc, hr, hdr, hz, hval, rfl⟩
   by_cases h2 : k < (digits n).length
   ·refine AX.sR (rgAV [0, 1, 5, 6, 7, 8, 21, 22, 23, 28, 29, 30, 31]) ?_
    refine AX.seq ?_
    refine AX.condT ?_
    refine AX.skip ?_
    refine nmZ ?_
    refine AX.seq ?_
    refine AX.block ?_
    have hy := Dg_getD hdy k
    have htn := val_take_step (digits n) k
    have hrj := Dg_getD hdr (i + k)
    have hset := fun v => val_set r (i + k) v (by omega)
    refine AX.sR (rgAV [0, 1, 5, 6, 7, 8, 9, 10, 21, 22, 23, 28, 29, 30]) ?_
    generalize (digits n).getD k 0 = y at *
    generalize hrr : r.getD (i + k) 0 = rj at *
    have hxy := mul_bound hx hy
    refine AX.sR (rgWV [0, 1, 5, 6, 7, 8, 9, 21, 22, 23, 28, 29, 30] (aI @cAdd (aI @cMul (aI @hrr oT))) oT) ?_
    generalize hs : c + (rj + x * y) = s at *
    refine AX.sR (rgWV [0, 1, 5, 6, 7, 8, 21, 22, 23, 28, 29, 30] (aI @cAdd (aI @u32n oT)) oT) ?_
    refine AX.rR (rgWV [0, 1, 5, 6, 7, 8, 21, 22, 23, 28, 29, 30] (aI @shr32 oT) oT) ?_
    refine nmZ ?_
    refine AX.rR (rgWV [0, 1, 5, 6, 7, 8, 21, 22, 23, 28, 29, 30] (aI @lit_add oT) oT) ?_
    refine nmZ ?_
    refine ⟨(digits n).length - (k + 1), _, id, by omega,
     leQ0
     , ⟨k + 1, s / 4294967296, r.set (i + k) (s % 4294967296), rfl, by omega, by omega, by simp [hr], Dg_set hdr (by omega), ?_, ?_, rfl⟩⟩
    ·intro j hj
     rw [List.getD_eq_getElem?_getD, List.getElem?_set_ne (by omega), ← List.getD_eq_getElem?_getD]
     exact hz j hj
    ·rw [Nat.pow_succ, htn]
     refine mul_inner (c := c) hval ?_
     rw [← Nat.pow_add]
     exact mul_step (hset _) hs
   ·refine AX.sR (rgAV [0, 1, 5, 6, 7, 8, 21, 22, 23, 28, 29, 30, 31]) ?_
    refine AX.seq ?_
    refine AX.condF ?_
    refine AX.keepA [0, 1, 5, 6, 7, 8, 21, 22, 23] ?_
    refine AX.exit ?_
    refine nmZ ?_
    refine ⟨trivial, c, r, hc, hr, hdr, hz, ?_, rfl⟩
    have hk' : k = (digits n).length := by omega
    rw [hk', List.take_length, val_digits] at hval
    exact hval
  rintro st ⟨c, r', hc, hr', hdr', hz', hval', rfl⟩
  have hrj := hz' (i + (digits n).length) (Nat.le_refl _)
  have hset := val_set r' (i + (digits n).length) c (by omega)
  have hcm : c % 4294967296 = c := Nat.mod_eq_of_lt hc
  refine AX.rR (rgWV [0, 1, 5, 21, 22, 23] (aI @cAdd (aI @u32n (aI @hcm oT))) oT) ?_
  refine nmZ ?_
  refine AX.rR (rgWV [0, 1, 5, 21, 22, 23] (aI @lit_add oT) oT) ?_
  refine nmZ ?_
  refine ⟨(digits m).length - (i + 1), _, id, by omega,
   leQ0
   , ⟨i + 1, r'.set (i + (digits n).length) c, rfl, by omega, by simp [hr'], Dg_set hdr' hc, ?_, ?_, rfl⟩⟩
  ·intro j hj
   rw [List.getD_eq_getElem?_getD, List.getElem?_set_ne (by omega), ← List.getD_eq_getElem?_getD]
   exact hz' j (by omega)
  ·rw [hrj, Nat.mul_zero, Nat.add_zero, Nat.pow_add] at hset
   rw [htm]
   exact mul_outer hval' hset
 ·refine AX.sR (rgAV [0, 1, 5, 21, 22, 23, 24]) ?_
  refine AX.seq ?_
  refine AX.condF ?_
  refine AX.exit ?_
  refine nmZ ?_
  have hi' : i = (digits m).length := by omega
  rw [hi', List.take_length, val_digits] at hval
  have ep := padD_of hdr
  have c3 := trim_g r (by omega)
  rw [trim_eq hdr, hval, hr] at c3
  rw [hval, hr] at ep
  apply AX.sreg [4] (by simp only [pq]; rfl)
  ·repeat (first
  |(apply RunO.op rfl; · rfl
    ·(simp only [opsOf, valsOf, valOf, lkp, ofConst, ofCell, Array.toList, Option.toList, List.map_cons, List.map_nil, List.cons_append, List.nil_append, List.append_nil, Nat.reduceEqDiff, Nat.reducePow, Nat.reduceLT, Nat.reduceLeDiff, reduceIte, if_true, if_false, IntKind.min, IntKind.max, IntKind.bits, IntKind.signed, Int.reduceLE, Int.reduceNeg, Int.reducePow, Int.reduceSub, and_self, Bool.false_eq_true, Nat.reduceSub]; rfl)
    iterate 2 (· (simp (disch := omega) only [go_sem, i64_of, u32_of, u64_of, Nat.reduceLT, Nat.reduceLeDiff, Nat.reduceEqDiff, Nat.reduceAdd, Nat.reduceSub, Nat.reduceMul, Nat.reducePow, Nat.reduceBEq, Int.reduceLE, Int.reduceLT, Int.reduceToNat, Int.reduceEq, Int.reduceNeg, reduceIte, reduceCtorEq]; rfl))
    ·(simp only [pb, Nat.reduceLT, Nat.reduceAdd, reduceIte]; rfl))
  |(apply RunO.gcall [0] rfl; · rfl
    ·(simp only [opsOf, valsOf, valOf, lkp, ofConst, ofCell, Array.toList, Option.toList, List.map_cons, List.map_nil, List.cons_append, List.nil_append, List.append_nil, Nat.reduceEqDiff, Nat.reducePow, Nat.reduceLT, Nat.reduceLeDiff, reduceIte, if_true, if_false, IntKind.min, IntKind.max, IntKind.bits, IntKind.signed, Int.reduceLE, Int.reduceNeg, Int.reducePow, Int.reduceSub, and_self, Bool.false_eq_true, Nat.reduceSub]; rfl)
    ·exact c3
    ·first | rfl | (simp only [Row.ren, V.ren, V.renL, renS, renL_u]; rfl)
    ·first | rfl | (simp only [V.lt, V.ltL, ltS, ltL_u]; rfl)
    ·decide
    ·repeat' (first | exact trivial | rfl | (simp only [Row.ren, V.ren, V.renL, renS, renL_u]; done) | (simp only [Row.ren, V.ren, V.renL, renS, renL_u]; rfl) | (simp only [V.lt, V.ltL, ltS, ltL_u]; done) | apply And.intro)
    ·first | rfl | (simp only [Row.ren, V.ren, V.renL, renS, renL_u]; rfl)
    ·(simp only [setRows, setL, Row.ren, V.ren, V.renL, renS, renL_u, pb, Nat.reduceLT, Nat.reduceAdd, Nat.reduceEqDiff, reduceIte]; rfl))
  |(apply RunO.skip; · rfl
    ·(simp only [pb, Nat.reduceLT, Nat.reduceAdd, reduceIte]; rfl)))
   exact RunO.nil
  ·repeat (first | exact Keep.nil | (apply Keep.take; · rfl) | (apply Keep.drop; · rfl))
  refine AX.ret ⟨.inl rfl, ?_⟩
  rw [← ep]
  exact Done.ownRow rfl rfl
set_option maxHeartbeats 4000000 in
theorem sub_o (a b : List Nat) (ha : Dg a) (hb : Dg b) (hla : a.length < 2 ^ 39) (hlb : b.length < 2 ^ 39) : PCall Try.prog 28 [dg a, dg b] (.tup [.own 0 0 (digits (val a - val b)).length 1, .i .i64 (if val a < val b then 1 else 0)]) [⟨50, (padD (if val a < val b then 0 else (digits (val a)).length) (val a - val b)).map u⟩] := by
 refine PCall.of_ax Try.call28 Try.func28 rfl (by simp [Try.ntmps28]) fun O w => ?_
 simp only [Try.ntmps28, Try.results28, argFr]
 have c0 := cmp_ok a b ha hb (by omega) (by omega)
 have c1 := ntrim_ok a ha (by omega)
 have c2 := ntrim_ok b hb (by omega)
 have hma := digits_length_val ha
 have hmb := digits_length_val hb
 generalize val a = m at *
 generalize val b = n at *
 refine AX.sR (rgAV [0, 1, 4, 5]) ?_
 refine AX.seq ?_
 by_cases h : m < n
 ·rw [cmp_lt h] at c0
  refine AX.sR (rgCV [0, 1, 4, 5, 14] (aI c0 oT)) ?_
  refine AX.condT ?_
  refine AX.sR (rgAV [4, 5]) ?_
  refine AX.own0 4 50 1 rfl ?_
  refine AX.ret ⟨.inl rfl, ?_⟩
  rw [if_pos h, if_pos h, show m - n = 0 by omega, digits_zero]
  exact Done.ownRowE (l := []) rfl rfl rfl
 have h0 : cmp m n = 0 ∨ cmp m n = 1 := by
  unfold cmp
  rw [if_neg h]
  split
  ·exact .inl rfl
  ·exact .inr rfl
 have h0' : ¬ cmp m n < 0 := by omega
 generalize cmp m n = z at *
 refine AX.sR (rgCV [0, 1, 4, 5, 14] (aI c0 oT)) ?_
 refine AX.condF ?_
 refine AX.skip ?_
 refine nmZ ?_
 refine AX.sR (rgCV [0, 1, 4, 5] (aI c1 (aI c2 oT))) ?_
 refine AX.sR (rgAV [0, 1, 6]) ?_
 refine AX.sR (rgAV [0, 1, 6, 7]) ?_
 refine AX.seq ?_
 refine AX.sR (rgAV [0, 1, 6, 7, 22, 23, 24]) ?_
 have hdx := Dg_digits m
 have hdy := Dg_digits n
 refine AX.block ?_
 refine AX.loop (fun N st => ∃ (i c : Nat) (r : List Nat), N = (digits m).length - i ∧ i ≤ (digits m).length ∧ r.length = (digits m).length ∧ Dg r ∧ c ≤ 1 ∧ val (r.take i) + val ((digits n).take i) = val ((digits m).take i) + 4294967296 ^ i * c ∧
  st = ⟨[(24, .i .i64 i), (23, .i .i64 (digits m).length), (22, nv m), (7, .i .u64 c), (6, .own 0 0 (digits m).length 1), (1, nv n), (0, nv m)], [(0, ⟨50, r.map u⟩)], 1⟩) (digits m).length ⟨0, 0, List.replicate (digits m).length 0, rfl, Nat.zero_le _, by simp, Dg_replicate _, by omega, by simp [val], rfl⟩ ?_
 rintro N st ⟨i, c, r, rfl, hi, hr, hdr, hc, hval, rfl⟩
 by_cases h1 : i < (digits m).length
 ·refine AX.sR (rgAV [0, 1, 6, 7, 22, 23, 24, 25]) ?_
  refine AX.seq ?_
  refine AX.condT ?_
  refine AX.skip ?_
  refine nmZ ?_
  refine AX.seq ?_
  refine AX.block ?_
  have hx := Dg_getD hdx i
  have hy := Dg_getD hdy i
  refine AX.sR (rgAV [0, 1, 6, 7, 8, 9, 22, 23, 24]) ?_
  refine AX.sR (rgAV [0, 1, 6, 7, 8, 9, 10, 22, 23, 24]) ?_
  refine AX.cut (fun st => st = ⟨[(10, .i .u64 (c + (digits n).getD i 0 : Nat)), (9, .i .u32 ((digits m).getD i 0 : Nat)), (8, .i .i64 i), (24, .i .i64 i), (23, .i .i64 (digits m).length), (22, nv m), (6, .own 0 0 (digits m).length 1), (1, nv n), (0, nv m)], [(0, ⟨50, r.map u⟩)], 1⟩) ?_ ?_
  ·by_cases h2 : i < (digits n).length
   ·refine AX.sR (rgAV [0, 1, 6, 8, 9, 10, 22, 23, 24, 33]) ?_
    refine AX.condT ?_
    refine AX.rR (rgWV [0, 1, 6, 8, 9, 10, 22, 23, 24] (aI @cAdd oT) oT) ?_
    exact ⟨rfl, rfl⟩
   ·refine AX.sR (rgAV [0, 1, 6, 8, 9, 10, 22, 23, 24, 33]) ?_
    refine AX.condF ?_
    refine AX.keepA [0, 1, 6, 8, 9, 10, 22, 23, 24] ?_
    refine AX.skip ?_
    rw [getD_out (l := digits n) (by omega)]
    exact ⟨rfl, rfl⟩
  rintro st rfl
  refine AX.sR (rgAV [0, 1, 6, 7, 8, 9, 10, 22, 23, 24]) ?_
  generalize hy' : (digits n).getD i 0 = y at *
  generalize hx' : (digits m).getD i 0 = x at *
  refine AX.cut (fun st => ∃ c' : Nat, c' ≤ 1 ∧ c + y ≤ x + c' * 4294967296 ∧ x + c' * 4294967296 < c + y + 4294967296 ∧ st = ⟨[(7, .i .u64 c'), (10, .i .u64 (c + y : Nat)), (9, .i .u32 (x : Nat)), (8, .i .i64 i), (24, .i .i64 i), (23, .i .i64 (digits m).length), (22, nv m), (6, .own 0 0 (digits m).length 1), (1, nv n), (0, nv m)], [(0, ⟨50, r.map u⟩)], 1⟩) ?_ ?_
  ·by_cases h3 : x < c + y
   ·refine AX.sR (rgAV [0, 1, 6, 7, 8, 9, 10, 22, 23, 24, 44]) ?_
    refine AX.condT ?_
    refine AX.rR (rgAV [0, 1, 6, 7, 8, 9, 10, 22, 23, 24]) ?_
    exact ⟨rfl, 1, by omega, by omega, by omega, rfl⟩
   ·refine AX.sR (rgAV [0, 1, 6, 7, 8, 9, 10, 22, 23, 24, 44]) ?_
    refine AX.condF ?_
    refine AX.keepA [0, 1, 6, 7, 8, 9, 10, 22, 23, 24] ?_
    refine AX.skip ?_
    exact ⟨rfl, 0, by omega, by omega, by omega, rfl⟩
  rintro st ⟨c', hc', hle, hlt, rfl⟩
  have hs := sub_cast hle
  refine AX.rR (rgWV [0, 1, 6, 7, 22, 23, 24] (aI @shl32 (aI @cAdd (aI @hs oT))) oT) ?_
  refine nmZ ?_
  refine AX.rR (rgWV [0, 1, 6, 7, 22, 23, 24] (aI @lit_add oT) oT) ?_
  refine nmZ ?_
  refine ⟨(digits m).length - (i + 1), _, id, by omega,
   leQ0
   , ⟨i + 1, c', r.set i (x + c' * 4294967296 - (c + y)), rfl, by omega, by simp [hr], Dg_set hdr (by omega), hc', ?_, rfl⟩⟩
  rw [take_set_succ r i _ (by omega), val_append, List.length_take, Nat.min_eq_left (by omega), val_take_step, val_take_step, hx', hy', Nat.pow_succ]
  simp only [val, Nat.mul_zero, Nat.add_zero]
  refine diff_step (w := c) (w' := c') hval ?_
  rw [Nat.mul_comm 4294967296 c']
  omega
 ·refine AX.sR (rgAV [0, 1, 6, 7, 22, 23, 24, 25]) ?_
  refine AX.seq ?_
  refine AX.condF ?_
  refine AX.exit ?_
  refine nmZ ?_
  have hi' : i = (digits m).length := by omega
  have c3 := trim_g r (by omega)
  have ep := padD_of hdr
  have hv : val r = m - n := by
   subst hi'
   rw [← hr, List.take_length, hr, List.take_length, val_digits, List.take_of_length_le (digits_len_mono (by omega)), val_digits] at hval
   have := val_lt hdr
   rw [hr] at this
   exact diff_end this hval (by omega)
  rw [trim_eq hdr, hv, hr] at c3
  rw [hv, hr] at ep
  apply AX.sreg [4, 5] (by simp only [pq]; rfl)
  ·repeat (first
  |(apply RunO.op rfl; · rfl
    ·(simp only [opsOf, valsOf, valOf, lkp, ofConst, ofCell, Array.toList, Option.toList, List.map_cons, List.map_nil, List.cons_append, List.nil_append, List.append_nil, Nat.reduceEqDiff, Nat.reducePow, Nat.reduceLT, Nat.reduceLeDiff, reduceIte, if_true, if_false, IntKind.min, IntKind.max, IntKind.bits, IntKind.signed, Int.reduceLE, Int.reduceNeg, Int.reducePow, Int.reduceSub, and_self, Bool.false_eq_true, Nat.reduceSub]; rfl)
    iterate 2 (· (simp (disch := omega) only [go_sem, i64_of, u32_of, u64_of, Nat.reduceLT, Nat.reduceLeDiff, Nat.reduceEqDiff, Nat.reduceAdd, Nat.reduceSub, Nat.reduceMul, Nat.reducePow, Nat.reduceBEq, Int.reduceLE, Int.reduceLT, Int.reduceToNat, Int.reduceEq, Int.reduceNeg, reduceIte, reduceCtorEq]; rfl))
    ·(simp only [pb, Nat.reduceLT, Nat.reduceAdd, reduceIte]; rfl))
  |(apply RunO.gcall [0] rfl; · rfl
    ·(simp only [opsOf, valsOf, valOf, lkp, ofConst, ofCell, Array.toList, Option.toList, List.map_cons, List.map_nil, List.cons_append, List.nil_append, List.append_nil, Nat.reduceEqDiff, Nat.reducePow, Nat.reduceLT, Nat.reduceLeDiff, reduceIte, if_true, if_false, IntKind.min, IntKind.max, IntKind.bits, IntKind.signed, Int.reduceLE, Int.reduceNeg, Int.reducePow, Int.reduceSub, and_self, Bool.false_eq_true, Nat.reduceSub]; rfl)
    ·exact c3
    ·first | rfl | (simp only [Row.ren, V.ren, V.renL, renS, renL_u]; rfl)
    ·first | rfl | (simp only [V.lt, V.ltL, ltS, ltL_u]; rfl)
    ·decide
    ·repeat' (first | exact trivial | rfl | (simp only [Row.ren, V.ren, V.renL, renS, renL_u]; done) | (simp only [Row.ren, V.ren, V.renL, renS, renL_u]; rfl) | (simp only [V.lt, V.ltL, ltS, ltL_u]; done) | apply And.intro)
    ·first | rfl | (simp only [Row.ren, V.ren, V.renL, renS, renL_u]; rfl)
    ·(simp only [setRows, setL, Row.ren, V.ren, V.renL, renS, renL_u, pb, Nat.reduceLT, Nat.reduceAdd, Nat.reduceEqDiff, reduceIte]; rfl))
  |(apply RunO.skip; · rfl
    ·(simp only [pb, Nat.reduceLT, Nat.reduceAdd, reduceIte]; rfl)))
   exact RunO.nil
  ·repeat (first | exact Keep.nil | (apply Keep.take; · rfl) | (apply Keep.drop; · rfl))
  refine AX.ret ⟨.inl rfl, ?_⟩
  rw [if_neg h, if_neg h, ← ep]
  exact Done.ownRowE rfl rfl rfl
set_option maxHeartbeats 4000000 in
theorem add_o (a b : List Nat) (ha : Dg a) (hb : Dg b) (hla : a.length < 2 ^ 39) (hlb : b.length < 2 ^ 39) : PCall Try.prog 30 [dg a, dg b] (.own 0 0 (digits (val a + val b)).length 1) [⟨50, (padD (max (digits (val a)).length (digits (val b)).length + 1) (val a + val b)).map u⟩] := by
 refine PCall.of_ax Try.call30 Try.func30 rfl (by simp [Try.ntmps30]) fun O w => ?_
 simp only [Try.ntmps30, Try.results30, argFr]
 have c1 := ntrim_ok a ha (by omega)
 have c2 := ntrim_ok b hb (by omega)
 have hma := digits_length_val ha
 have hmb := digits_length_val hb
 generalize val a = m at *
 generalize val b = n at *
 refine AX.sR (rgAV [0, 1]) ?_
 refine AX.sR (rgCV [0, 1] (aI c1 (aI c2 oT))) ?_
 refine AX.cut (fun st => ∃ x y : Nat, (digits x).length = max (digits m).length (digits n).length ∧ x + y = m + n ∧ (digits y).length ≤ (digits x).length ∧ (digits x).length < 2 ^ 39 ∧ st = ⟨[(1, nv y), (0, nv x)], [], 0⟩) ?_ ?_
 ·by_cases h : (digits m).length < (digits n).length
  ·refine AX.sR (rgAV [0, 1, 17]) ?_
   refine AX.condT ?_
   refine AX.rR (rgAV [0, 1]) ?_
   exact ⟨rfl, n, m, by omega, Nat.add_comm .., by omega, by omega, rfl⟩
  ·refine AX.sR (rgAV [0, 1, 17]) ?_
   refine AX.condF ?_
   refine AX.keepA [0, 1] ?_
   refine AX.skip ?_
   exact ⟨rfl, m, n, by omega, rfl, by omega, by omega, rfl⟩
 rintro st ⟨x, y, hmx, hxy, hl, hlx, rfl⟩
 rw [← hxy, ← hmx]
 clear c1 c2 hma hmb hxy hmx
 have hdx := Dg_digits x
 have hdy := Dg_digits y
 refine AX.sR (rgWV [0, 1, 5] (aI @lit_add oT) oT) ?_
 refine AX.sR (rgAV [0, 1, 5, 6]) ?_
 refine AX.seq ?_
 refine AX.sR (rgAV [0, 1, 5, 6, 24, 25, 26]) ?_
 refine AX.block ?_
 refine AX.loop (fun N st => ∃ (i c : Nat) (o : List Nat), N = (digits x).length - i ∧ i ≤ (digits x).length ∧ o.length = i ∧ Dg o ∧ c ≤ 1 ∧ val o + 4294967296 ^ i * c = val ((digits x).take i) + val ((digits y).take i) ∧
  st = ⟨[(26, .i .i64 i), (25, .i .i64 (digits x).length), (24, nv x), (6, .i .u64 c), (5, .own 0 0 i 1), (1, nv y), (0, nv x)], [(0, ⟨50, o.map u⟩)], 1⟩) (digits x).length ⟨0, 0, [], rfl, Nat.zero_le _, rfl, Dg_nil, by omega, by simp [val], rfl⟩ ?_
 rintro N st ⟨i, c, o, rfl, hi, ho, hdo, hc, hval, rfl⟩
 by_cases h : i < (digits x).length
 ·refine AX.sR (rgAV [0, 1, 5, 6, 24, 25, 26, 27]) ?_
  refine AX.seq ?_
  refine AX.condT ?_
  refine AX.skip ?_
  refine nmZ ?_
  refine AX.seq ?_
  refine AX.block ?_
  have hx := Dg_getD hdx i
  have hy := Dg_getD hdy i
  refine AX.sR (rgAV [0, 1, 5, 6, 7, 8, 24, 25, 26]) ?_
  refine AX.sR (rgWV [0, 1, 5, 6, 7, 24, 25, 26] (aI @cAdd oT) oT) ?_
  refine AX.cut (fun st => st = ⟨[(6, .i .u64 (c + (digits x).getD i 0 + (digits y).getD i 0 : Nat)), (7, .i .i64 i), (26, .i .i64 i), (25, .i .i64 (digits x).length), (24, nv x), (5, .own 0 0 i 1), (1, nv y), (0, nv x)], [(0, ⟨50, o.map u⟩)], 1⟩) ?_ ?_
  ·by_cases h2 : i < (digits y).length
   ·refine AX.sR (rgAV [0, 1, 5, 6, 7, 24, 25, 26, 38]) ?_
    refine AX.condT ?_
    refine AX.rR (rgWV [0, 1, 5, 6, 7, 24, 25, 26] (aI @cAdd oT) oT) ?_
    exact ⟨rfl, rfl⟩
   ·refine AX.sR (rgAV [0, 1, 5, 6, 7, 24, 25, 26, 38]) ?_
    refine AX.condF ?_
    refine AX.keepA [0, 1, 5, 6, 7, 24, 25, 26] ?_
    refine AX.skip ?_
    rw [getD_out (l := digits y) (by omega)]
    exact ⟨rfl, rfl⟩
  rintro st rfl
  generalize hs : c + (digits x).getD i 0 + (digits y).getD i 0 = s
  refine AX.sR (rgWV [0, 1, 5, 6, 24, 25, 26] (aI @u32n oT) oT) ?_
  refine AX.rR (rgWV [0, 1, 5, 6, 24, 25, 26] (aI @shr32 oT) oT) ?_
  refine nmZ ?_
  refine AX.rR (rgWV [0, 1, 5, 6, 24, 25, 26] (aI @lit_add oT) oT) ?_
  refine nmZ ?_
  refine ⟨(digits x).length - (i + 1), _, fun _ => 2, by omega,
   leQ0
   , ⟨i + 1, s / 4294967296, o ++ [s % 4294967296], rfl, by omega, by simp [ho], ?_, by omega, ?_, rfl⟩⟩
  ·rw [Dg_append, Dg_cons]; exact ⟨hdo, Nat.mod_lt _ (by omega), Dg_nil⟩
  ·rw [sum_step ho (by omega), val_take_step, val_take_step, ← hs, Nat.mul_add, Nat.mul_add]
   omega
 ·refine AX.sR (rgAV [0, 1, 5, 6, 24, 25, 26, 27]) ?_
  refine AX.seq ?_
  refine AX.condF ?_
  refine AX.exit ?_
  refine nmZ ?_
  have hi' : i = (digits x).length := by omega
  have hd2 : Dg (o ++ [c]) := by rw [Dg_append, Dg_cons]; exact ⟨hdo, by omega, Dg_nil⟩
  have hl2 : (o ++ [c]).length = i + 1 := by simp [ho]
  have c3 := trim_g (o ++ [c]) (by omega)
  have ep := padD_of hd2
  have hv : val (o ++ [c]) = x + y := by
   rw [val_append, ho]
   simp only [val, Nat.mul_zero, Nat.add_zero]
   rw [hval, hi', List.take_length, val_digits, List.take_of_length_le hl, val_digits]
  rw [trim_eq hd2, hv, hl2] at c3
  rw [hv, hl2] at ep
  have hcm : c % 4294967296 = c := Nat.mod_eq_of_lt (by omega)
  apply AX.sreg [4] (by simp only [pq]; rfl)
  ·repeat (first
  |(apply RunO.op rfl; · rfl
    ·(simp only [opsOf, valsOf, valOf, lkp, ofConst, ofCell, Array.toList, Option.toList, List.map_cons, List.map_nil, List.cons_append, List.nil_append, List.append_nil, Nat.reduceEqDiff, Nat.reducePow, Nat.reduceLT, Nat.reduceLeDiff, reduceIte, if_true, if_false, IntKind.min, IntKind.max, IntKind.bits, IntKind.signed, Int.reduceLE, Int.reduceNeg, Int.reducePow, Int.reduceSub, and_self, Bool.false_eq_true, Nat.reduceSub]; rfl)
    iterate 2 (· (simp (disch := omega) only [go_sem, i64_of, u32_of, u64_of, Nat.reduceLT, Nat.reduceLeDiff, Nat.reduceEqDiff, Nat.reduceAdd, Nat.reduceSub, Nat.reduceMul, Nat.reducePow, Nat.reduceBEq, Int.reduceLE, Int.reduceLT, Int.reduceToNat, Int.reduceEq, Int.reduceNeg, reduceIte, reduceCtorEq, u32n, hcm]; rfl))
    ·(simp only [pb, Nat.reduceLT, Nat.reduceAdd, reduceIte]; rfl))
  |(apply RunO.gcall [2] rfl; · rfl
    ·(simp only [opsOf, valsOf, valOf, lkp, ofConst, ofCell, Array.toList, Option.toList, List.map_cons, List.map_nil, List.cons_append, List.nil_append, List.append_nil, Nat.reduceEqDiff, Nat.reducePow, Nat.reduceLT, Nat.reduceLeDiff, reduceIte, if_true, if_false, IntKind.min, IntKind.max, IntKind.bits, IntKind.signed, Int.reduceLE, Int.reduceNeg, Int.reducePow, Int.reduceSub, and_self, Bool.false_eq_true, Nat.reduceSub]; rfl)
    ·exact c3
    ·first | rfl | (simp only [Row.ren, V.ren, V.renL, renS, renL_u]; rfl)
    ·first | rfl | (simp only [V.lt, V.ltL, ltS, ltL_u]; rfl)
    ·decide
    ·repeat' (first | exact trivial | rfl | (simp only [Row.ren, V.ren, V.renL, renS, renL_u]; done) | (simp only [Row.ren, V.ren, V.renL, renS, renL_u]; rfl) | (simp only [V.lt, V.ltL, ltS, ltL_u]; done) | apply And.intro)
    ·first | rfl | (simp only [Row.ren, V.ren, V.renL, renS, renL_u]; rfl)
    ·(simp only [setRows, setL, Row.ren, V.ren, V.renL, renS, renL_u, pb, Nat.reduceLT, Nat.reduceAdd, Nat.reduceEqDiff, reduceIte]; rfl))
  |(apply RunO.skip; · rfl
    ·(simp only [pb, Nat.reduceLT, Nat.reduceAdd, reduceIte]; rfl)))
   exact RunO.nil
  ·repeat (first | exact Keep.nil | (apply Keep.take; · rfl) | (apply Keep.drop; · rfl))
  refine AX.ret ⟨.inl rfl, ?_⟩
  rw [← hi', ← ep]
  exact Done.ownRow rfl rfl
end Go.Proofs.Ytlhobedecoeohaa
