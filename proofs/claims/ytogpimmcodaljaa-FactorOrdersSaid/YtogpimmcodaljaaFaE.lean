/- Factors: the cell at an assignment. -/
import Derived.Test.YtogpimmcodaljaaFaD
set_option linter.unusedVariables false
set_option maxRecDepth 20000
set_option linter.unusedSimpArgs false
namespace Go.Proofs.Ytogpimmcodaljaa
open Go Go.Proofs.Ytogpimmcodaljaa.Lift
attribute [local irreducible] Lift.PCall Lift.HCall
theorem leQ2 {g : Nat} {f : Nat → Nat} {st' st : St} (h1 : LeFr f st.fr st'.nx st'.fr := by simp only [ren_q, renL_u, ren_zl, lt_q, ltL_u, lt_zl, LeFr, LeHp, lkp, V.ren, V.renL, Row.ren, V.lt, V.ltL, renL_u, ltL_u, List.length_append, List.length_cons, List.length_nil, List.length_set, id_eq, Option.some.injEq, V.i.injEq, V.b.injEq, V.own.injEq, Row.mk.injEq, decide_true, decide_eq_true_eq, true_and, and_true, Bool.and_true, Bool.true_and, if_true, if_false, and_self, Nat.reduceLT, Nat.reduceLeDiff, Nat.reduceEqDiff, Nat.reduceAdd, Nat.reduceSub, Nat.reduceMul, Nat.reducePow, Nat.reduceBEq, Int.reduceLE, Int.reduceLT, Int.reduceToNat, Int.reduceEq, Int.reduceNeg, reduceIte, reduceCtorEq] <;> (first | done | trivial | (and_intros <;> first | trivial | omega | assumption)))
  (h2 : LeHp f st.hp st'.nx st'.hp := by simp only [ren_q, renL_u, ren_zl, lt_q, ltL_u, lt_zl, LeFr, LeHp, lkp, V.ren, V.renL, Row.ren, V.lt, V.ltL, renL_u, ltL_u, List.length_append, List.length_cons, List.length_nil, List.length_set, id_eq, Option.some.injEq, V.i.injEq, V.b.injEq, V.own.injEq, Row.mk.injEq, decide_true, decide_eq_true_eq, true_and, and_true, Bool.and_true, Bool.true_and, if_true, if_false, and_self, Nat.reduceLT, Nat.reduceLeDiff, Nat.reduceEqDiff, Nat.reduceAdd, Nat.reduceSub, Nat.reduceMul, Nat.reducePow, Nat.reduceBEq, Int.reduceLE, Int.reduceLT, Int.reduceToNat, Int.reduceEq, Int.reduceNeg, reduceIte, reduceCtorEq] <;> (first | done | trivial | (and_intros <;> first | trivial | omega | assumption)))
  (h3 : Apart f st'.hp := by simp [Apart]) (h4 : g ≤ st'.nx := by first | exact Nat.zero_le _ | simp) (h5 : ∀ n, n < g → f n = n := by intro n hn; first | rfl | exact absurd hn (Nat.not_lt_zero _) | (have h0 : n = 0 := Nat.lt_one_iff.1 hn; subst h0; rfl)) : Le g f st' st := ⟨h1, h2, h3, h4, h5⟩
theorem dnQ2 {P : Program} {rs : Array ResultVar} {vs : List V} {r v : V} {st : St} {hp : List (Nat × Row)} (h1 : resVs P st rs.toList = some vs := by simp (disch := omega) only [resVs, resV, go_sem, i64_of, u32_of, u64_of, Nat.reduceLT, Nat.reduceLeDiff, Nat.reduceEqDiff, Nat.reduceAdd, Nat.reduceSub, Nat.reduceMul, Nat.reducePow, Nat.reduceBEq, Int.reduceLE, Int.reduceLT, Int.reduceToNat, Int.reduceEq, Int.reduceNeg, reduceIte, reduceCtorEq]; rfl) (h2 : frz [] (packV vs) st.hp = some (v, hp) := by simp only [packV, frz, frzL]; rfl) (h : v = r := by rfl)
  (h3 : r.lt 0 = true := by simp only [V.lt, V.ltL, ltL_u, lt_q, ltL_u, lt_zl]; first | done | rfl) (h4 : r.ren id = r := by simp only [V.ren, V.renL, renL_u, ren_q, renL_u, ren_zl]; first | done | rfl) : Done P rs r [] st := Lift.Done.of h1 h2 h h3 h4
def anL (a : List Int) (v : Nat) : Nat := (a.getD v 0).toNat
def okA (t : Nat → Nat) (a : List Int) (j : Nat) : Prop := (vsT t).getD j 0 < a.length ∧ 0 ≤ a.getD ((vsT t).getD j 0) 0 ∧ a.getD ((vsT t).getD j 0) 0 < (t ((vsT t).getD j 0) : Int)
def inA (t : Nat → Nat) (a : List Int) : Prop := ∀ j, j < (vsT t).length → okA t a j
theorem anL_lt {t : Nat → Nat} {a : List Int} {j : Nat} (h : okA t a j) : anL a ((vsT t).getD j 0) < t ((vsT t).getD j 0) := by
 obtain ⟨_, h2, h3⟩ := h
 unfold anL
 omega
theorem anL_in {t : Nat → Nat} {a : List Int} (h : inA t a) : inT t (anL a) := fun v hv h0 => by
 obtain ⟨i, hi, rfl⟩ := mem_getD0 (vsT_mem.2 ⟨hv, h0⟩)
 exact anL_lt (h i hi)
theorem effIxT {n k : Nat} {x y : Operand} (q : Nat → Rat) (h : k < n) : eff Try.prog (.indexAddr 23 x y) [.sl ((ql n q).map rV), .i .i64 (k : Int)] = some (.val (.rp [.b (decide ((q k).num < 0)), dg (digits (q k).num.natAbs), dg (digits (q k).den)])) := by
 rw [effIxQ (by rw [ql_length]; exact h), ql_get q h]
set_option maxHeartbeats 8000000 in
theorem fat26_ok (t : Nat → Nat) (q : Nat → Rat) (ht : okT t) (a : List Int) (ha : a.length < 2 ^ 62) (hin : inA t a) : PCall Try.prog 33 [FV t q, .sl (zl a)] (rV (q (enT t (anL a)))) [] := by
 have hm := vsT_len t
 have hzv : (zl (ci (vsT t))).length = (vsT t).length := zn_length _
 have hza : (zl (ci (asT t))).length = (vsT t).length := (zn_length _).trans (asT_len t)
 have hgv := fun j (hj : j < (vsT t).length) => show (zl (ci (vsT t))).getD j .junk = .i .i64 (((vsT t).getD j 0 : Nat) : Int) from zn_get hj
 have hga := fun j (hj : j < (vsT t).length) => show (zl (ci (asT t))).getD j .junk = .i .i64 ((t ((vsT t).getD j 0) : Nat) : Int) from (zn_get (by rw [asT_len]; exact hj)).trans (by rw [asT_get hj])
 have hix := fun x y => effIxT (x := x) (y := y) q (enT_lt (anL_in hin))
 have hzA := zl_length a
 unfold enT at hix ⊢
 unfold FV fV
 rw [xsT_map]
 refine PCall.of_ax Try.call33 Try.func33 rfl (by simp [Try.ntmps33]) fun O w0 => ?_
 simp only [Try.ntmps33, Try.results33, argFr]
 generalize zl (ci (vsT t)) = Vs at *
 generalize zl (ci (asT t)) = As at *
 generalize (ql (szT t) q).map rV = X at *
 refine AX.sR (rgAV [1, 2, 4]) ?_
 refine AX.sR (rgAV [1, 2, 4, 5]) ?_
 refine AX.seq ?_
 refine AX.sR (rgWV [1, 2, 4, 5, 9, 10, 11] (aI @hzv oT) oT) ?_
 refine AX.weaken id (st' := ⟨[(11, .i .i64 (0 : Nat)), (10, .i .i64 (vsT t).length), (9, .sl Vs), (5, .i .i64 (enI (vsT t) t (anL a) 0)), (4, .ptr 1 0), (2, .ptr 0 0), (1, .sl (zl a))], [(1, ⟨29, [.b false, .nl, .nl]⟩), (0, ⟨35, [.sl Vs, .sl As, .sl X]⟩)], 2⟩)
  leQ2
  ?_
 refine AX.block ?_
 refine AX.loop (fun N st => ∃ (i E : Nat), i ≤ (vsT t).length ∧ N = (vsT t).length - i ∧ enI (vsT t) t (anL a) i = E ∧ st = ⟨[(11, .i .i64 i), (10, .i .i64 (vsT t).length), (9, .sl Vs), (5, .i .i64 E), (4, .ptr 1 0), (2, .ptr 0 0), (1, .sl (zl a))], [(1, ⟨29, [.b false, .nl, .nl]⟩), (0, ⟨35, [.sl Vs, .sl As, .sl X]⟩)], 2⟩) (vsT t).length ⟨0, _, Nat.zero_le _, rfl, rfl, rfl⟩ ?_
 rintro N st ⟨i, _, hi, rfl, rfl, rfl⟩
 by_cases h1 : i < (vsT t).length
 ·have g1 := hgv i h1
  have g2 := hga i h1
  obtain ⟨b1, b2⟩ := vsT_get h1
  have b3 := ht.1 ((vsT t).getD i 0)
  obtain ⟨n1, n2, n3⟩ := hin i h1
  have g3 := zl_get n1
  obtain ⟨x, hx⟩ : ∃ x : Nat, a.getD ((vsT t).getD i 0) 0 = (x : Int) := ⟨(a.getD ((vsT t).getD i 0) 0).toNat, by omega⟩
  have hx2 : anL a ((vsT t).getD i 0) = x := by unfold anL; rw [hx, Int.toNat_natCast]
  have hE := enI_lt (l := vsT t) (t := t) (a := anL a) i (fun j hj => anL_lt (hin j (by omega)))
  have hP := prI_mono (l := vsT t) (t := t) (m := (vsT t).length) (fun j hj => (vsT_get hj).2) i hi
  have hnx : enI (vsT t) t (anL a) (i + 1) = enI (vsT t) t (anL a) i * t ((vsT t).getD i 0) + x := by rw [← hx2]; rfl
  have hS := ht.2
  unfold szT at hS
  rw [hx] at g3 n2 n3
  have g4 := hzA
  clear hgv hga hin hx hx2
  obtain ⟨E', hE'⟩ : ∃ E', enI (vsT t) t (anL a) (i + 1) = E' := ⟨_, rfl⟩
  rw [hE'] at hnx
  generalize enI (vsT t) t (anL a) i = E at *
  generalize t ((vsT t).getD i 0) = k at *
  generalize (vsT t).getD i 0 = v at *
  obtain ⟨p, hp⟩ : ∃ p, E * k = p := ⟨_, rfl⟩
  rw [hp] at hnx
  have m1 : (E : Int) * (k : Int) = (p : Int) := by rw [← Int.natCast_mul, hp]
  have bp : p ≤ 4096 * 64 := by rw [← hp]; exact Nat.mul_le_mul (by omega) b3
  have a1 : (p : Int) + (x : Int) = (E' : Int) := by omega
  generalize zl a = A at *
  refine AX.sR (rgAV [1, 2, 4, 5, 9, 10, 11, 12]) ?_
  refine AX.seq ?_
  refine AX.condT ?_
  refine AX.keepA [1, 2, 4, 5, 9, 10, 11] ?_
  refine AX.skip ?_
  refine nmZ ?_
  refine AX.seq ?_
  refine AX.block ?_
  refine AX.sR (rgWV [1, 2, 4, 5, 6, 7, 9, 10, 11] (aI @hzv (aI @g1 oT)) oT) ?_
  refine AX.rD (rgDWV [1, 2, 4, 5, 9, 10, 11] (aI @hza (aI @g2 (aI @g3 (aI @g4 (aI @m1 (aI @a1 oT)))))) oT) ?_
  refine nmZ ?_
  refine AX.rR (rgWV [1, 2, 4, 5, 9, 10, 11] (aI @lit_add oT) oT) ?_
  refine nmZ ?_
  refine ⟨_, _, id, ?_,
   leQ2
   , ⟨i + 1, E', by omega, rfl, hE', rfl⟩⟩
  omega
 ·obtain rfl : i = (vsT t).length := by omega
  have hE := enI_lt (l := vsT t) (t := t) (a := anL a) (vsT t).length (fun j hj => anL_lt (hin j hj))
  have hS := ht.2
  unfold szT at hS
  generalize q (enI (vsT t) t (anL a) (vsT t).length) = r at *
  generalize enI (vsT t) t (anL a) (vsT t).length = E at *
  generalize zl a = A at *
  refine AX.sR (rgAV [1, 2, 4, 5, 9, 10, 11, 12]) ?_
  refine AX.seq ?_
  refine AX.condF ?_
  refine AX.exit ?_
  refine nmZ ?_
  refine AX.sR (rgEV [4] oT oT (aI hix oT)) ?_
  refine AX.ret ⟨.inl rfl, ?_⟩
  exact Done.cell rfl rfl
theorem fat1_ok (a : List Int) (v : Nat) (hv : v < a.length) (ha : a.length < 2 ^ 62) : PCall Try.prog 32 [.i .i64 v, .rp [.sl (zl a)]] (.i .i64 (a.getD v 0)) [] := by
 have g1 := zl_get hv
 have g2 := zl_length a
 generalize a.getD v 0 = x at *
 generalize zl a = A at *
 refine PCall.of_ax Try.call32 Try.func32 rfl (by simp [Try.ntmps32]) fun O w0 => ?_
 simp only [Try.ntmps32, Try.results32, argFr]
 refine AX.sR (rgAV [0, 1]) ?_
 refine AX.sR (rgWV [3] (aI @g1 (aI @g2 oT)) oT) ?_
 refine AX.ret ⟨.inl rfl, ?_⟩
 exact Done.one rfl rfl rfl rfl
set_option maxHeartbeats 8000000 in
theorem fplace_ok (t : Nat → Nat) (X : List V) (ht : okT t) (a : List Int) (ha : a.length < 2 ^ 62) (hin : inA t a) : PCall Try.prog 31 [.agg [.sl (zl (ci (vsT t))), .sl (zl (ci (asT t))), .sl X], .fn 32 [.rp [.sl (zl a)]]] (.i .i64 (enT t (anL a))) [] := by
 have hm := vsT_len t
 have hzv : (zl (ci (vsT t))).length = (vsT t).length := zn_length _
 have hza : (zl (ci (asT t))).length = (vsT t).length := (zn_length _).trans (asT_len t)
 have hgv := fun j (hj : j < (vsT t).length) => show (zl (ci (vsT t))).getD j .junk = .i .i64 (((vsT t).getD j 0 : Nat) : Int) from zn_get hj
 have hga := fun j (hj : j < (vsT t).length) => show (zl (ci (asT t))).getD j .junk = .i .i64 ((t ((vsT t).getD j 0) : Nat) : Int) from (zn_get (by rw [asT_len]; exact hj)).trans (by rw [asT_get hj])
 have hzA := zl_length a
 unfold enT
 have cl := fun v (hv : v < a.length) => fat1_ok a v hv ha
 refine PCall.of_ax Try.call31 Try.func31 rfl (by simp [Try.ntmps31]) fun O w0 => ?_
 simp only [Try.ntmps31, Try.results31, argFr]
 generalize zl (ci (vsT t)) = Vs at *
 generalize zl (ci (asT t)) = As at *
 refine AX.sR (rgAV [1, 2]) ?_
 refine AX.sR (rgAV [1, 2, 5]) ?_
 refine AX.seq ?_
 refine AX.sR (rgWV [1, 2, 5, 9, 10, 11] (aI @hzv oT) oT) ?_
 refine AX.weaken id (st' := ⟨[(11, .i .i64 (0 : Nat)), (10, .i .i64 (vsT t).length), (9, .sl Vs), (5, .i .i64 (enI (vsT t) t (anL a) 0)), (2, .ptr 0 0), (1, .fn 32 [.rp [.sl (zl a)]])], [(0, ⟨25, [.sl Vs, .sl As, .sl X]⟩)], 1⟩)
  leQ2
  ?_
 refine AX.block ?_
 refine AX.loop (fun N st => ∃ (i E : Nat), i ≤ (vsT t).length ∧ N = (vsT t).length - i ∧ enI (vsT t) t (anL a) i = E ∧ st = ⟨[(11, .i .i64 i), (10, .i .i64 (vsT t).length), (9, .sl Vs), (5, .i .i64 E), (2, .ptr 0 0), (1, .fn 32 [.rp [.sl (zl a)]])], [(0, ⟨25, [.sl Vs, .sl As, .sl X]⟩)], 1⟩) (vsT t).length ⟨0, _, Nat.zero_le _, rfl, rfl, rfl⟩ ?_
 rintro N st ⟨i, _, hi, rfl, rfl, rfl⟩
 by_cases h1 : i < (vsT t).length
 ·have g1 := hgv i h1
  have g2 := hga i h1
  obtain ⟨b1, b2⟩ := vsT_get h1
  have b3 := ht.1 ((vsT t).getD i 0)
  obtain ⟨n1, n2, n3⟩ := hin i h1
  have g3 := zl_get n1
  obtain ⟨x, hx⟩ : ∃ x : Nat, a.getD ((vsT t).getD i 0) 0 = (x : Int) := ⟨(a.getD ((vsT t).getD i 0) 0).toNat, by omega⟩
  have hx2 : anL a ((vsT t).getD i 0) = x := by unfold anL; rw [hx, Int.toNat_natCast]
  have hE := enI_lt (l := vsT t) (t := t) (a := anL a) i (fun j hj => anL_lt (hin j (by omega)))
  have hP := prI_mono (l := vsT t) (t := t) (m := (vsT t).length) (fun j hj => (vsT_get hj).2) i hi
  have hnx : enI (vsT t) t (anL a) (i + 1) = enI (vsT t) t (anL a) i * t ((vsT t).getD i 0) + x := by rw [← hx2]; rfl
  have hS := ht.2
  unfold szT at hS
  rw [hx] at g3 n2 n3
  have g4 := hzA
  have c1 := cl _ n1
  rw [hx] at c1
  clear hgv hga hin hx hx2
  obtain ⟨E', hE'⟩ : ∃ E', enI (vsT t) t (anL a) (i + 1) = E' := ⟨_, rfl⟩
  rw [hE'] at hnx
  generalize enI (vsT t) t (anL a) i = E at *
  generalize t ((vsT t).getD i 0) = k at *
  generalize (vsT t).getD i 0 = v at *
  obtain ⟨p, hp⟩ : ∃ p, E * k = p := ⟨_, rfl⟩
  rw [hp] at hnx
  have m1 : (E : Int) * (k : Int) = (p : Int) := by rw [← Int.natCast_mul, hp]
  have bp : p ≤ 4096 * 64 := by rw [← hp]; exact Nat.mul_le_mul (by omega) b3
  have a1 : (p : Int) + (x : Int) = (E' : Int) := by omega
  clear cl g3
  generalize zl a = A at *
  refine AX.sR (rgAV [1, 2, 5, 9, 10, 11, 12]) ?_
  refine AX.seq ?_
  refine AX.condT ?_
  refine AX.keepA [1, 2, 5, 9, 10, 11] ?_
  refine AX.skip ?_
  refine nmZ ?_
  refine AX.seq ?_
  refine AX.block ?_
  refine AX.sR (rgWV [1, 2, 5, 6, 7, 9, 10, 11] (aI @hzv (aI @g1 oT)) oT) ?_
  refine AX.rD (rgDWV [1, 2, 5, 9, 10, 11] (aI @hza (aI @g2 (aI @m1 (aI @a1 oT)))) (aI c1 oT)) ?_
  refine nmZ ?_
  refine AX.rR (rgWV [1, 2, 5, 9, 10, 11] (aI @lit_add oT) oT) ?_
  refine nmZ ?_
  refine ⟨_, _, id, ?_,
   leQ2
   , ⟨i + 1, E', by omega, rfl, hE', rfl⟩⟩
  omega
 ·obtain rfl : i = (vsT t).length := by omega
  have hE := enI_lt (l := vsT t) (t := t) (a := anL a) (vsT t).length (fun j hj => anL_lt (hin j hj))
  have hS := ht.2
  unfold szT at hS
  generalize enI (vsT t) t (anL a) (vsT t).length = E at *
  generalize zl a = A at *
  refine AX.sR (rgAV [1, 2, 5, 9, 10, 11, 12]) ?_
  refine AX.seq ?_
  refine AX.condF ?_
  refine AX.exit ?_
  refine nmZ ?_
  refine AX.sR (rgAV [4]) ?_
  refine AX.ret ⟨.inl rfl, ?_⟩
  exact Done.one rfl rfl rfl rfl
open Classical in
noncomputable def atV (t : Nat → Nat) (q : Nat → Rat) (a : List Int) : V := if inA t a then .tup [rV (q (enT t (anL a))), .i .i64 0] else .tup [zR, .i .i64 1]
set_option maxHeartbeats 16000000 in
theorem fAt_ok (t : Nat → Nat) (q : Nat → Rat) (ht : okT t) (hq : ∀ k, k < szT t → rL (q k) ≤ 2 ^ 30) (a : List Int) (ha : a.length < 2 ^ 62) (hab : ∀ j, j < a.length → -9223372036854775808 ≤ a.getD j 0 ∧ a.getD j 0 ≤ 9223372036854775807) : PCall Try.prog 9 [FV t q, .sl (zl a)] (atV t q a) [] := by
 have hm := vsT_len t
 have hzv : (zl (ci (vsT t))).length = (vsT t).length := zn_length _
 have hza : (zl (ci (asT t))).length = (vsT t).length := (zn_length _).trans (asT_len t)
 have hgv := fun j (hj : j < (vsT t).length) => show (zl (ci (vsT t))).getD j .junk = .i .i64 (((vsT t).getD j 0 : Nat) : Int) from zn_get hj
 have hga := fun j (hj : j < (vsT t).length) => show (zl (ci (asT t))).getD j .junk = .i .i64 ((t ((vsT t).getD j 0) : Nat) : Int) from (zn_get (by rw [asT_len]; exact hj)).trans (by rw [asT_get hj])
 have hzA := zl_length a
 have hgA := fun j (hj : j < a.length) => zl_get hj
 have hno : ¬ inA t a → atV t q a = .tup [zR, .i .i64 1] := fun h => if_neg h
 have hyes : inA t a → atV t q a = .tup [rV (q (enT t (anL a))), .i .i64 0] := fun h => if_pos h
 have cr := fright_ok (ci (vsT t)) (ci (asT t)) (xsT t q) (by rw [ci_length]; omega) (by rw [ci_length, asT_len]; omega) (by rw [xsT_length]; have := ht.2; omega) (xsT_okY hq).x
 rw [isF_T ht q] at cr
 have cpl := fun (X : List V) (h : inA t a) => fplace_ok t X ht a ha h
 have cow : ∀ k, k < szT t → PCall Try.prog 30 [.agg [.b (decide ((q k).num < 0)), dg (digits (q k).num.natAbs), dg (digits (q k).den)]] (.agg [.b (decide ((q k).num < 0)), dg (digits (q k).num.natAbs), dg (digits (q k).den)]) [] := fun k hk => fown_ok (IsQ.of (hq k hk)) (by decide) (by decide)
 have hix := fun (h : inA t a) => fun x y => effIxT (x := x) (y := y) q (enT_lt (anL_in h))
 generalize atV t q a = r at *
 unfold FV fV at *
 rw [xsT_map] at *
 refine PCall.of_ax Try.call9 Try.func9 rfl (by simp [Try.ntmps9]) fun O w0 => ?_
 simp only [Try.ntmps9, Try.results9, argFr]
 generalize zl (ci (vsT t)) = Vs at *
 generalize zl (ci (asT t)) = As at *
 generalize (ql (szT t) q).map rV = X at *
 refine AX.sR (rgAV [2, 3, 4]) ?_
 refine AX.seq ?_
 refine AX.sR (rgCV [2, 3, 4, 10] (aI cr oT)) ?_
 refine AX.condF ?_
 refine AX.keepA [2, 3, 4] ?_
 refine AX.skip ?_
 refine nmZ ?_
 refine AX.cutR (fun st => inA t a ∧ Le 0 id ⟨[(4, .ptr 2 0), (3, .ptr 1 0), (2, .ptr 0 0)], [(2, ⟨29, [.b false, .nl, .nl]⟩), (1, ⟨22, [.sl (zl a)]⟩), (0, ⟨25, [.sl Vs, .sl As, .sl X]⟩)], 3⟩ st) ?_ ?_
 ·refine AX.sR (rgWV [2, 3, 4, 13, 14, 15] (aI @hzv oT) oT) ?_
  refine AX.weaken id (st' := ⟨[(15, .i .i64 (0 : Nat)), (14, .i .i64 (vsT t).length), (13, .sl Vs), (4, .ptr 2 0), (3, .ptr 1 0), (2, .ptr 0 0)], [(2, ⟨29, [.b false, .nl, .nl]⟩), (1, ⟨22, [.sl (zl a)]⟩), (0, ⟨25, [.sl Vs, .sl As, .sl X]⟩)], 3⟩)
   leQ2
   ?_
  refine AX.block ?_
  refine AX.loop (fun N st => ∃ i : Nat, i ≤ (vsT t).length ∧ N = (vsT t).length - i ∧ (∀ j, j < i → okA t a j) ∧ st = ⟨[(15, .i .i64 i), (14, .i .i64 (vsT t).length), (13, .sl Vs), (4, .ptr 2 0), (3, .ptr 1 0), (2, .ptr 0 0)], [(2, ⟨29, [.b false, .nl, .nl]⟩), (1, ⟨22, [.sl (zl a)]⟩), (0, ⟨25, [.sl Vs, .sl As, .sl X]⟩)], 3⟩) (vsT t).length ⟨0, Nat.zero_le _, rfl, fun j hj => absurd hj (Nat.not_lt_zero _), rfl⟩ ?_
  rintro N st ⟨i, hi, rfl, hp, rfl⟩
  by_cases h1 : i < (vsT t).length
  ·have g1 := hgv i h1
   have g2 := hga i h1
   obtain ⟨b1, b2⟩ := vsT_get h1
   have b3 := ht.1 ((vsT t).getD i 0)
   have g3 := hgA ((vsT t).getD i 0)
   have b4 := hab ((vsT t).getD i 0)
   have hbad : ¬ okA t a i → r = .tup [zR, .i .i64 1] := fun h => hno fun hh => h (hh i h1)
   have hok : okA t a i → ∀ j, j < i + 1 → okA t a j := fun hb j hj => by
    by_cases e : j = i
    ·rw [e]; exact hb
    ·exact hp j (by omega)
   unfold okA at hbad
   have hok' : ((vsT t).getD i 0 < a.length ∧ 0 ≤ a.getD ((vsT t).getD i 0) 0 ∧ a.getD ((vsT t).getD i 0) 0 < (t ((vsT t).getD i 0) : Int)) → ∀ j, j < i + 1 → okA t a j := hok
   clear hok hno hyes hgv hga hgA hab hp cr cpl cow hix
   generalize zl a = A at *
   generalize t ((vsT t).getD i 0) = k at *
   generalize (vsT t).getD i 0 = v at *
   generalize a.getD v 0 = x at *
   refine AX.sR (rgAV [2, 3, 4, 13, 14, 15, 16]) ?_
   refine AX.seq ?_
   refine AX.condT ?_
   refine AX.keepA [2, 3, 4, 13, 14, 15] ?_
   refine AX.skip ?_
   refine nmZ ?_
   refine AX.seq ?_
   refine AX.block ?_
   refine AX.sR (rgWV [2, 3, 4, 6, 7, 13, 14, 15] (aI @hzv (aI @g1 oT)) oT) ?_
   by_cases k1 : a.length ≤ v
   ·obtain rfl := hbad (by omega)
    refine AX.sD (rgDWV [2, 3, 4, 13, 14, 15, 42] (aI @hzA oT) oT) ?_
    refine AX.condT ?_
    refine AX.sR (rgAV [4, 5]) ?_
    refine AX.ret ⟨.inl rfl, ?_⟩
    exact dnQ2
   have g3 := g3 (by omega)
   have b4 := b4 (by omega)
   by_cases k2 : x < 0
   ·obtain rfl := hbad (by omega)
    refine AX.sD (rgDWV [2, 3, 4, 13, 14, 15, 42] (aI @hzA (aI @g3 oT)) oT) ?_
    refine AX.condT ?_
    refine AX.sR (rgAV [4, 5]) ?_
    refine AX.ret ⟨.inl rfl, ?_⟩
    exact dnQ2
   by_cases k3 : (k : Int) ≤ x
   ·obtain rfl := hbad (by omega)
    refine AX.sD (rgDWV [2, 3, 4, 13, 14, 15, 42] (aI @hzA (aI @g3 (aI @hza (aI @g2 oT)))) oT) ?_
    refine AX.condT ?_
    refine AX.sR (rgAV [4, 5]) ?_
    refine AX.ret ⟨.inl rfl, ?_⟩
    exact dnQ2
   have hp' := hok' (by omega)
   refine AX.sD (rgDWV [2, 3, 4, 13, 14, 15, 42] (aI @hzA (aI @g3 (aI @hza (aI @g2 oT)))) oT) ?_
   refine AX.condF ?_
   refine AX.keepA [2, 3, 4, 13, 14, 15] ?_
   refine AX.skip ?_
   refine nmZ ?_
   refine AX.rR (rgWV [2, 3, 4, 13, 14, 15] (aI @lit_add oT) oT) ?_
   refine nmZ ?_
   refine ⟨_, _, id, ?_,
    leQ2
    , ⟨i + 1, by omega, rfl, hp', rfl⟩⟩
   omega
  ·obtain rfl : i = (vsT t).length := by omega
   refine AX.sR (rgAV [2, 3, 4, 13, 14, 15, 16]) ?_
   refine AX.seq ?_
   refine AX.condF ?_
   refine AX.exit ?_
   refine nmZ ?_
   exact ⟨hp,
    leQ2
    ⟩
 ·rintro st ⟨hin, hle⟩
  refine AX.weaken id hle ?_
  obtain rfl := hyes hin
  have c1 := cpl X hin
  have hE := enT_lt (anL_in hin)
  have c2 := cow _ hE
  have hix := hix hin
  have hS := ht.2
  clear cpl cow hno hyes hgv hga hgA hab hle cr
  generalize q (enT t (anL a)) = p at *
  generalize enT t (anL a) = E at *
  generalize zl a = A at *
  refine AX.fz 1 (fr' := [(4, .ptr 2 0), (3, .rp [.sl A]), (2, .ptr 0 0)]) (hp' := [(2, ⟨29, [.b false, .nl, .nl]⟩), (0, ⟨25, [.sl Vs, .sl As, .sl X]⟩)]) rfl rfl (.cons rfl .same (.cons rfl (.ptr rfl) (.cons rfl .same .nil))) (.keep (by decide) rfl (.keep (by decide) rfl .nil)) ?_
  refine AX.sD (rgDEV [4, 5] oT (aI c1 (aI c2 oT)) (aI hix oT)) ?_
  refine AX.ret ⟨.inl rfl, ?_⟩
  exact dnQ2
set_option maxHeartbeats 16000000 in
theorem fAt26_ok (t : Nat → Nat) (q : Nat → Rat) (ht : okT t) (hq : ∀ k, k < szT t → rL (q k) ≤ 2 ^ 30) (a : List Int) (ha : a.length < 2 ^ 62) (hab : ∀ j, j < a.length → -9223372036854775808 ≤ a.getD j 0 ∧ a.getD j 0 ≤ 9223372036854775807) : PCall Try.prog 10 [FV t q, .sl (zl a)] (atV t q a) [] := by
 have hm := vsT_len t
 have hzv : (zl (ci (vsT t))).length = (vsT t).length := zn_length _
 have hza : (zl (ci (asT t))).length = (vsT t).length := (zn_length _).trans (asT_len t)
 have hgv := fun j (hj : j < (vsT t).length) => show (zl (ci (vsT t))).getD j .junk = .i .i64 (((vsT t).getD j 0 : Nat) : Int) from zn_get hj
 have hga := fun j (hj : j < (vsT t).length) => show (zl (ci (asT t))).getD j .junk = .i .i64 ((t ((vsT t).getD j 0) : Nat) : Int) from (zn_get (by rw [asT_len]; exact hj)).trans (by rw [asT_get hj])
 have hzA := zl_length a
 have hgA := fun j (hj : j < a.length) => zl_get hj
 have hno : ¬ inA t a → atV t q a = .tup [zR, .i .i64 1] := fun h => if_neg h
 have hyes : inA t a → atV t q a = .tup [rV (q (enT t (anL a))), .i .i64 0] := fun h => if_pos h
 have cr := fright26_ok (ci (vsT t)) (ci (asT t)) (xsT t q) (by rw [ci_length]; omega) (by rw [ci_length, asT_len]; omega) (by rw [xsT_length]; have := ht.2; omega) (xsT_okY hq).x
 rw [isF_T ht q] at cr
 have cat := fun (h : inA t a) => fat26_ok t q ht a ha h
 generalize atV t q a = r at *
 unfold FV fV at *
 rw [xsT_map] at *
 refine PCall.of_ax Try.call10 Try.func10 rfl (by simp [Try.ntmps10]) fun O w0 => ?_
 simp only [Try.ntmps10, Try.results10, argFr]
 generalize zl (ci (vsT t)) = Vs at *
 generalize zl (ci (asT t)) = As at *
 generalize (ql (szT t) q).map rV = X at *
 refine AX.sR (rgAV [1, 2, 4]) ?_
 refine AX.seq ?_
 refine AX.sR (rgCV [1, 2, 4, 10] (aI cr oT)) ?_
 refine AX.condF ?_
 refine AX.keepA [1, 2, 4] ?_
 refine AX.skip ?_
 refine nmZ ?_
 refine AX.cutR (fun st => inA t a ∧ Le 0 id ⟨[(4, .ptr 1 0), (2, .ptr 0 0), (1, .sl (zl a))], [(1, ⟨29, [.b false, .nl, .nl]⟩), (0, ⟨35, [.sl Vs, .sl As, .sl X]⟩)], 2⟩ st) ?_ ?_
 ·refine AX.sR (rgWV [1, 2, 4, 13, 14, 15] (aI @hzv oT) oT) ?_
  refine AX.weaken id (st' := ⟨[(15, .i .i64 (0 : Nat)), (14, .i .i64 (vsT t).length), (13, .sl Vs), (4, .ptr 1 0), (2, .ptr 0 0), (1, .sl (zl a))], [(1, ⟨29, [.b false, .nl, .nl]⟩), (0, ⟨35, [.sl Vs, .sl As, .sl X]⟩)], 2⟩)
   leQ2
   ?_
  refine AX.block ?_
  refine AX.loop (fun N st => ∃ i : Nat, i ≤ (vsT t).length ∧ N = (vsT t).length - i ∧ (∀ j, j < i → okA t a j) ∧ st = ⟨[(15, .i .i64 i), (14, .i .i64 (vsT t).length), (13, .sl Vs), (4, .ptr 1 0), (2, .ptr 0 0), (1, .sl (zl a))], [(1, ⟨29, [.b false, .nl, .nl]⟩), (0, ⟨35, [.sl Vs, .sl As, .sl X]⟩)], 2⟩) (vsT t).length ⟨0, Nat.zero_le _, rfl, fun j hj => absurd hj (Nat.not_lt_zero _), rfl⟩ ?_
  rintro N st ⟨i, hi, rfl, hp, rfl⟩
  by_cases h1 : i < (vsT t).length
  ·have g1 := hgv i h1
   have g2 := hga i h1
   obtain ⟨b1, b2⟩ := vsT_get h1
   have b3 := ht.1 ((vsT t).getD i 0)
   have g3 := hgA ((vsT t).getD i 0)
   have b4 := hab ((vsT t).getD i 0)
   have hbad : ¬ okA t a i → r = .tup [zR, .i .i64 1] := fun h => hno fun hh => h (hh i h1)
   have hok : okA t a i → ∀ j, j < i + 1 → okA t a j := fun hb j hj => by
    by_cases e : j = i
    ·rw [e]; exact hb
    ·exact hp j (by omega)
   unfold okA at hbad
   have hok' : ((vsT t).getD i 0 < a.length ∧ 0 ≤ a.getD ((vsT t).getD i 0) 0 ∧ a.getD ((vsT t).getD i 0) 0 < (t ((vsT t).getD i 0) : Int)) → ∀ j, j < i + 1 → okA t a j := hok
   clear hok hno hyes hgv hga hgA hab hp cr cat
   generalize zl a = A at *
   generalize t ((vsT t).getD i 0) = k at *
   generalize (vsT t).getD i 0 = v at *
   generalize a.getD v 0 = x at *
   refine AX.sR (rgAV [1, 2, 4, 13, 14, 15, 16]) ?_
   refine AX.seq ?_
   refine AX.condT ?_
   refine AX.keepA [1, 2, 4, 13, 14, 15] ?_
   refine AX.skip ?_
   refine nmZ ?_
   refine AX.seq ?_
   refine AX.block ?_
   refine AX.sR (rgWV [1, 2, 4, 6, 7, 13, 14, 15] (aI @hzv (aI @g1 oT)) oT) ?_
   by_cases k1 : a.length ≤ v
   ·obtain rfl := hbad (by omega)
    refine AX.sD (rgDWV [1, 2, 4, 13, 14, 15, 42] (aI @hzA oT) oT) ?_
    refine AX.condT ?_
    refine AX.sR (rgAV [4, 5]) ?_
    refine AX.ret ⟨.inl rfl, ?_⟩
    exact dnQ2
   have g3 := g3 (by omega)
   have b4 := b4 (by omega)
   by_cases k2 : x < 0
   ·obtain rfl := hbad (by omega)
    refine AX.sD (rgDWV [1, 2, 4, 13, 14, 15, 42] (aI @hzA (aI @g3 oT)) oT) ?_
    refine AX.condT ?_
    refine AX.sR (rgAV [4, 5]) ?_
    refine AX.ret ⟨.inl rfl, ?_⟩
    exact dnQ2
   by_cases k3 : (k : Int) ≤ x
   ·obtain rfl := hbad (by omega)
    refine AX.sD (rgDWV [1, 2, 4, 13, 14, 15, 42] (aI @hzA (aI @g3 (aI @hza (aI @g2 oT)))) oT) ?_
    refine AX.condT ?_
    refine AX.sR (rgAV [4, 5]) ?_
    refine AX.ret ⟨.inl rfl, ?_⟩
    exact dnQ2
   have hp' := hok' (by omega)
   refine AX.sD (rgDWV [1, 2, 4, 13, 14, 15, 42] (aI @hzA (aI @g3 (aI @hza (aI @g2 oT)))) oT) ?_
   refine AX.condF ?_
   refine AX.keepA [1, 2, 4, 13, 14, 15] ?_
   refine AX.skip ?_
   refine nmZ ?_
   refine AX.rR (rgWV [1, 2, 4, 13, 14, 15] (aI @lit_add oT) oT) ?_
   refine nmZ ?_
   refine ⟨_, _, id, ?_,
    leQ2
    , ⟨i + 1, by omega, rfl, hp', rfl⟩⟩
   omega
  ·obtain rfl : i = (vsT t).length := by omega
   refine AX.sR (rgAV [1, 2, 4, 13, 14, 15, 16]) ?_
   refine AX.seq ?_
   refine AX.condF ?_
   refine AX.exit ?_
   refine nmZ ?_
   exact ⟨hp,
    leQ2
    ⟩
 ·rintro st ⟨hin, hle⟩
  refine AX.weaken id hle ?_
  obtain rfl := hyes hin
  have c1 : PCall Try.prog 33 [.agg [.sl Vs, .sl As, .sl X], .sl (zl a)] (.agg [.b (decide ((q (enT t (anL a))).num < 0)), dg (digits (q (enT t (anL a))).num.natAbs), dg (digits (q (enT t (anL a))).den)]) [] := cat hin
  clear cat hno hyes hgv hga hgA hab hle cr
  generalize q (enT t (anL a)) = p at *
  generalize zl a = A at *
  refine AX.sR (rgCV [4, 5] (aI c1 oT)) ?_
  refine AX.ret ⟨.inl rfl, ?_⟩
  exact dnQ2
end Go.Proofs.Ytogpimmcodaljaa
