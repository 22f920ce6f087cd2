/- Factors: At, given a list that the caller goes on writing. -/
import Derived.Test.YtogpimmcodaljaaKJ
set_option linter.unusedVariables false
set_option maxRecDepth 20000
set_option linter.unusedSimpArgs false
namespace Go.Proofs.Ytogpimmcodaljaa
open Go Go.Proofs.Ytogpimmcodaljaa.Lift
attribute [local irreducible] Lift.PCall Lift.HCall
theorem Lift.DoneG.twoA {st : St} {t : Tmp} {n : Int} {T0 T1 : TypeId} {a : List Int} {K : Nat} (h1 : lkp st.fr t = some (.i .i64 n)) (h2 : lkp st.hp 0 = some ⟨T0, zl a⟩) (h3 : lkp st.hp 1 = some ⟨T1, [.own 0 0 K 1]⟩) : DoneG Try.prog #[.tmp t] (.i .i64 n) [⟨T0, zl a⟩, ⟨T1, [.own 0 0 K 1]⟩] st := by
 refine ⟨[.i .i64 n], ?_, rfl, rfl, rfl, fun k hk => ?_⟩
 ·simp only [resVs, resV, h1]
 ·have : k = 0 ∨ k = 1 := by simp at hk; omega
  rcases this with rfl | rfl
  ·exact ⟨h2, lt_zl _ _, ren_zl _ _⟩
  ·exact ⟨h3, rfl, rfl⟩
theorem Lift.DoneG.cellE {st : St} {a t : Tmp} {h : Nat} {T T0 : TypeId} {s : Bool} {x y : List Nat} {l : List Int} {e : Int} (h1 : lkp st.fr a = some (.ptr h 0)) (h2 : lkp st.hp h = some ⟨T, [.b s, dg x, dg y]⟩) (h4 : lkp st.fr t = some (.i .i64 e)) (h3 : lkp st.hp 0 = some ⟨T0, zl l⟩) : DoneG Try.prog #[.cell a 29, .tmp t] (.tup [.agg [.b s, dg x, dg y], .i .i64 e]) [⟨T0, zl l⟩] st := by
 refine ⟨[.agg [.b s, dg x, dg y], .i .i64 e], ?_, rfl, rfl, rfl, fun n hn => ?_⟩
 ·simp only [resVs, resV, h1, h2, h4, lay_ratio]; rfl
 ·obtain rfl : n = 0 := by simpa using hn
  exact ⟨h3, lt_zl _ _, ren_zl _ _⟩
abbrev zA : V := .agg [.b false, .nl, .nl]
theorem Lift.DoneG.cellN {st : St} {a t : Tmp} {h : Nat} {T T0 : TypeId} {l : List Int} {e : Int} (h1 : lkp st.fr a = some (.ptr h 0)) (h2 : lkp st.hp h = some ⟨T, [.b false, .nl, .nl]⟩) (h4 : lkp st.fr t = some (.i .i64 e)) (h3 : lkp st.hp 0 = some ⟨T0, zl l⟩) : DoneG Try.prog #[.cell a 29, .tmp t] (.tup [zA, .i .i64 e]) [⟨T0, zl l⟩] st := by
 refine ⟨[.agg [.b false, .nl, .nl], .i .i64 e], ?_, rfl, rfl, rfl, fun n hn => ?_⟩
 ·simp only [resVs, resV, h1, h2, h4, lay_ratio]; rfl
 ·obtain rfl : n = 0 := by simpa using hn
  exact ⟨h3, lt_zl _ _, ren_zl _ _⟩
theorem fat1A_g (a : List Int) (v : Nat) (hv : v < a.length) (ha : a.length < 2 ^ 62) : GCall Try.prog 32 [.i .i64 v, .ptr 1 0] [⟨3, zl a⟩, ⟨22, [.own 0 0 a.length 1]⟩] [⟨3, zl a⟩, ⟨22, [.own 0 0 a.length 1]⟩] (.i .i64 (a.getD v 0)) := by
 have g1 := zl_get hv
 have g2 := zl_length a
 generalize a.getD v 0 = x at *
 refine GCall.of_ax rfl Try.call32 Try.func32 rfl (by simp [Try.ntmps32]) fun O M w0 E0 => ?_
 simp only [Try.ntmps32, Try.results32, argFr, rowsFr, List.length_cons, List.length_nil, Nat.zero_add, Nat.reduceAdd]
 refine AX.sR (rgAV [0, 1]) ?_
 refine AX.sR (rgWV [3] (aI @g1 (aI @g2 oT)) oT) ?_
 refine AX.ret ⟨.inl rfl, ?_⟩
 exact Lift.DoneG.twoA rfl rfl rfl
set_option maxHeartbeats 8000000 in
theorem fplaceA_g (t : Nat → Nat) (X : List V) (ht : okT t) (a : List Int) (ha : a.length < 2 ^ 62) (hin : inA t a) : GCall Try.prog 31 [.agg [.sl (zl (ci (vsT t))), .sl (zl (ci (asT t))), .sl X], .fn 32 [.ptr 1 0]] [⟨3, zl a⟩, ⟨22, [.own 0 0 a.length 1]⟩] [⟨3, zl a⟩, ⟨22, [.own 0 0 a.length 1]⟩] (.i .i64 (enT t (anL a) : Nat)) := by
 have hm := vsT_len t
 have hzv : (zl (ci (vsT t))).length = (vsT t).length := zn_length _
 have hza : (zl (ci (asT t))).length = (vsT t).length := (zn_length _).trans (asT_len t)
 have hgv := fun j (hj : j < (vsT t).length) => show (zl (ci (vsT t))).getD j .junk = .i .i64 (((vsT t).getD j 0 : Nat) : Int) from zn_get hj
 have hga := fun j (hj : j < (vsT t).length) => show (zl (ci (asT t))).getD j .junk = .i .i64 ((t ((vsT t).getD j 0) : Nat) : Int) from (zn_get (by rw [asT_len]; exact hj)).trans (by rw [asT_get hj])
 have hzA := zl_length a
 unfold enT
 have cl := fun v (hv : v < a.length) => fat1A_g a v hv ha
 refine GCall.of_ax rfl Try.call31 Try.func31 rfl (by simp [Try.ntmps31]) fun O M w0 E0 => ?_
 simp only [Try.ntmps31, Try.results31, argFr, rowsFr, List.length_cons, List.length_nil, Nat.zero_add, Nat.reduceAdd]
 generalize zl (ci (vsT t)) = Vs at *
 generalize zl (ci (asT t)) = As at *
 refine AX.sR (rgAV [1, 2]) ?_
 refine AX.sR (rgAV [1, 2, 5]) ?_
 refine AX.seq ?_
 refine AX.sR (rgWV [1, 2, 5, 9, 10, 11] (aI @hzv oT) oT) ?_
 refine AX.weaken id (st' := ⟨[(11, .i .i64 (0 : Nat)), (10, .i .i64 (vsT t).length), (9, .sl Vs), (5, .i .i64 (enI (vsT t) t (anL a) 0)), (2, .ptr 2 0), (1, .fn 32 [.ptr 1 0])], [(2, ⟨25, [.sl Vs, .sl As, .sl X]⟩), (1, ⟨22, [.own 0 0 a.length 1]⟩), (0, ⟨3, zl a⟩)], 3⟩)
  leQ5
  ?_
 refine AX.block ?_
 refine AX.loop (fun N st => ∃ (i E : Nat), i ≤ (vsT t).length ∧ N = (vsT t).length - i ∧ enI (vsT t) t (anL a) i = E ∧ st = ⟨[(11, .i .i64 i), (10, .i .i64 (vsT t).length), (9, .sl Vs), (5, .i .i64 E), (2, .ptr 2 0), (1, .fn 32 [.ptr 1 0])], [(2, ⟨25, [.sl Vs, .sl As, .sl X]⟩), (1, ⟨22, [.own 0 0 a.length 1]⟩), (0, ⟨3, zl a⟩)], 3⟩) (vsT t).length ⟨0, _, Nat.zero_le _, rfl, rfl, rfl⟩ ?_
 rintro N st ⟨i, _, hi, rfl, rfl, rfl⟩
 by_cases h1 : i < (vsT t).length
 ·have g1 := hgv i h1
  have g2 := hga i h1
  obtain ⟨b1, b2⟩ := vsT_get h1
  have b3 := ht.1 ((vsT t).getD i 0)
  obtain ⟨n1, n2, n3⟩ := hin i h1
  have g3 := zl_get n1
  obtain ⟨x, hx⟩ : ∃ x : Nat, a.getD ((vsT t).getD i 0) 0 = (x : Int) := ⟨(a.getD ((vsT t).getD i 0) 0).toNat, by omega⟩
  have hx2 : anL a ((vsT t).getD i 0) = x := by unfold anL; rw [hx, Int.toNat_natCast]
  have hE := enI_lt (l := vsT t) (t := t) (a := anL a) i (fun j hj => anL_lt (hin j (by omega)))
  have hP := prI_mono (l := vsT t) (t := t) (m := (vsT t).length) (fun j hj => (vsT_get hj).2) i hi
  have hnx : enI (vsT t) t (anL a) (i + 1) = enI (vsT t) t (anL a) i * t ((vsT t).getD i 0) + x := by rw [← hx2]; rfl
  have hS := ht.2
  unfold szT at hS
  rw [hx] at g3 n2 n3
  have g4 := hzA
  have c1 := cl _ n1
  rw [hx] at c1
  clear hgv hga hin hx hx2
  obtain ⟨E', hE'⟩ : ∃ E', enI (vsT t) t (anL a) (i + 1) = E' := ⟨_, rfl⟩
  rw [hE'] at hnx
  generalize enI (vsT t) t (anL a) i = E at *
  generalize t ((vsT t).getD i 0) = k at *
  generalize (vsT t).getD i 0 = v at *
  obtain ⟨p, hp⟩ : ∃ p, E * k = p := ⟨_, rfl⟩
  rw [hp] at hnx
  have m1 : (E : Int) * (k : Int) = (p : Int) := by rw [← Int.natCast_mul, hp]
  have bp : p ≤ 4096 * 64 := by rw [← hp]; exact Nat.mul_le_mul (by omega) b3
  have a1 : (p : Int) + (x : Int) = (E' : Int) := by omega
  clear cl g3
  refine AX.sR (rgAV [1, 2, 5, 9, 10, 11, 12]) ?_
  refine AX.seq ?_
  refine AX.condT ?_
  refine AX.keepA [1, 2, 5, 9, 10, 11] ?_
  refine AX.skip ?_
  refine nmZ ?_
  refine AX.seq ?_
  refine AX.block ?_
  refine AX.sR (rgWV [1, 2, 5, 6, 7, 9, 10, 11] (aI @hzv (aI @g1 oT)) oT) ?_
  apply AX.dreg [1, 2, 5, 9, 10, 11] (by kernel_rfl) (by simp only [pq]; rfl)
  ·repeat (first
  |(apply RunD.op rfl; · rfl
    ·(simp only [opsOf, valsOf, valOf, lkp, ofConst, ofCell, Array.toList, Option.toList, List.map_cons, List.map_nil, List.cons_append, List.nil_append, List.append_nil, Nat.reduceEqDiff, Nat.reducePow, Nat.reduceLT, Nat.reduceLeDiff, reduceIte, if_true, if_false, IntKind.min, IntKind.max, IntKind.bits, IntKind.signed, Int.reduceLE, Int.reduceNeg, Int.reducePow, Int.reduceSub, and_self, Bool.false_eq_true, Nat.reduceSub]; rfl)
    iterate 2 (· (simp (disch := omega) only [go_sem, i64_of, u32_of, u64_of, Nat.reduceLT, Nat.reduceLeDiff, Nat.reduceEqDiff, Nat.reduceAdd, Nat.reduceSub, Nat.reduceMul, Nat.reducePow, Nat.reduceBEq, Int.reduceLE, Int.reduceLT, Int.reduceToNat, Int.reduceEq, Int.reduceNeg, reduceIte, reduceCtorEq, hza, g2, m1, a1]; rfl))
    ·(simp only [pb, Nat.reduceLT, Nat.reduceAdd, reduceIte]; rfl)
    ·rfl)
  |(apply RunD.gcall [0, 1] rfl; · rfl
    ·(simp only [opsOf, valsOf, valOf, lkp, ofConst, ofCell, Array.toList, Option.toList, List.map_cons, List.map_nil, List.cons_append, List.nil_append, List.append_nil, Nat.reduceEqDiff, Nat.reducePow, Nat.reduceLT, Nat.reduceLeDiff, reduceIte, if_true, if_false, IntKind.min, IntKind.max, IntKind.bits, IntKind.signed, Int.reduceLE, Int.reduceNeg, Int.reducePow, Int.reduceSub, and_self, Bool.false_eq_true, Nat.reduceSub]; rfl)
    ·exact c1
    ·first | rfl | (simp only [Row.ren, V.ren, V.renL, renS, ren_q, renL_u, ren_zl, ren_tb, ren_frw, ren_cnq]; rfl)
    ·first | rfl | (simp only [V.lt, V.ltL, ltS, lt_q, ltL_u, lt_zl, lt_tb, lt_frw, lt_cnq]; rfl)
    ·decide
    ·repeat' (first | exact trivial | rfl | (simp only [Row.ren, V.ren, V.renL, renS, ren_q, renL_u, ren_zl, ren_tb, ren_frw, ren_cnq]; done) | (simp only [Row.ren, V.ren, V.renL, renS, ren_q, renL_u, ren_zl, ren_tb, ren_frw, ren_cnq]; rfl) | (simp only [V.lt, V.ltL, ltS, lt_q, ltL_u, lt_zl, lt_tb, lt_frw, lt_cnq]; done) | apply And.intro)
    ·first | rfl | (simp only [Row.ren, V.ren, V.renL, renS, ren_q, renL_u, ren_zl, ren_tb, ren_frw, ren_cnq]; rfl)
    ·(simp only [setRows, setL, Row.ren, V.ren, V.renL, renS, ren_q, renL_u, ren_zl, ren_tb, ren_frw, ren_cnq, pb, Nat.reduceLT, Nat.reduceAdd, Nat.reduceEqDiff, reduceIte]; rfl)
    ·rfl)
  |(apply RunD.skip; · rfl
    ·(simp only [pb, Nat.reduceLT, Nat.reduceAdd, reduceIte]; rfl)
    ·rfl))
   exact RunD.nil
  ·repeat (first | exact Keep.nil | (apply Keep.take; · rfl) | (apply Keep.drop; · rfl))
  ·kernel_rfl
  refine nmZ ?_
  refine AX.rR (rgWV [1, 2, 5, 9, 10, 11] (aI @lit_add oT) oT) ?_
  refine nmZ ?_
  refine ⟨_, _, id, ?_,
   leQ5
   , ⟨i + 1, E', by omega, rfl, hE', rfl⟩⟩
  omega
 ·obtain rfl : i = (vsT t).length := by omega
  have hE := enI_lt (l := vsT t) (t := t) (a := anL a) (vsT t).length (fun j hj => anL_lt (hin j hj))
  have hS := ht.2
  unfold szT at hS
  generalize enI (vsT t) t (anL a) (vsT t).length = E at *
  refine AX.sR (rgAV [1, 2, 5, 9, 10, 11, 12]) ?_
  refine AX.seq ?_
  refine AX.condF ?_
  refine AX.exit ?_
  refine nmZ ?_
  refine AX.sR (rgAV [4]) ?_
  refine AX.ret ⟨.inl rfl, ?_⟩
  exact Lift.DoneG.twoA rfl rfl rfl
open Classical in
noncomputable def atA (t : Nat → Nat) (q : Nat → Rat) (a : List Int) : V := if inA t a then .tup [rV (q (enT t (anL a))), .i .i64 0] else .tup [zA, .i .i64 1]
set_option maxHeartbeats 16000000 in
theorem fAtA_g (t : Nat → Nat) (q : Nat → Rat) (ht : okT t) (hq : ∀ k, k < szT t → rL (q k) ≤ 2 ^ 30) (a : List Int) (ha : a.length < 2 ^ 62) (hab : ∀ j, j < a.length → -9223372036854775808 ≤ a.getD j 0 ∧ a.getD j 0 ≤ 9223372036854775807) : GCall Try.prog 9 [FV t q, .own 0 0 a.length 1] [⟨3, zl a⟩] [⟨3, zl a⟩] (atA t q a) := by
 have hm := vsT_len t
 have hzv : (zl (ci (vsT t))).length = (vsT t).length := zn_length _
 have hza : (zl (ci (asT t))).length = (vsT t).length := (zn_length _).trans (asT_len t)
 have hgv := fun j (hj : j < (vsT t).length) => show (zl (ci (vsT t))).getD j .junk = .i .i64 (((vsT t).getD j 0 : Nat) : Int) from zn_get hj
 have hga := fun j (hj : j < (vsT t).length) => show (zl (ci (asT t))).getD j .junk = .i .i64 ((t ((vsT t).getD j 0) : Nat) : Int) from (zn_get (by rw [asT_len]; exact hj)).trans (by rw [asT_get hj])
 have hzA := zl_length a
 have hgA := fun j (hj : j < a.length) => zl_get hj
 have hno : ¬ inA t a → atA t q a = .tup [zA, .i .i64 1] := fun h => if_neg h
 have hyes : inA t a → atA t q a = .tup [rV (q (enT t (anL a))), .i .i64 0] := fun h => if_pos h
 have cr := fright_ok (ci (vsT t)) (ci (asT t)) (xsT t q) (by rw [ci_length]; omega) (by rw [ci_length, asT_len]; omega) (by rw [xsT_length]; have := ht.2; omega) (xsT_okY hq).x
 rw [isF_T ht q] at cr
 have cpl := fun (X : List V) (h : inA t a) => fplaceA_g t X ht a ha h
 have cow : ∀ k, k < szT t → PCall Try.prog 30 [.agg [.b (decide ((q k).num < 0)), dg (digits (q k).num.natAbs), dg (digits (q k).den)]] (.agg [.b (decide ((q k).num < 0)), dg (digits (q k).num.natAbs), dg (digits (q k).den)]) [] := fun k hk => fown_ok (IsQ.of (hq k hk)) (by decide) (by decide)
 have hix := fun (h : inA t a) => fun x y => effIxT (x := x) (y := y) q (enT_lt (anL_in h))
 generalize atA t q a = r at *
 unfold FV fV at *
 rw [xsT_map] at *
 refine GCall.of_ax rfl Try.call9 Try.func9 rfl (by simp [Try.ntmps9]) fun O M w0 E0 => ?_
 simp only [Try.ntmps9, Try.results9, argFr, rowsFr, List.length_cons, List.length_nil, Nat.zero_add, Nat.reduceAdd]
 generalize zl (ci (vsT t)) = Vs at *
 generalize zl (ci (asT t)) = As at *
 generalize (ql (szT t) q).map rV = X at *
 refine AX.sR (rgAV [2, 3, 4]) ?_
 refine AX.seq ?_
 refine AX.sR (rgCV [2, 3, 4, 10] (aI cr oT)) ?_
 refine AX.condF ?_
 refine AX.keepA [2, 3, 4] ?_
 refine AX.skip ?_
 refine nmZ ?_
 refine AX.cutR (fun st => inA t a ∧ Le 1 id ⟨[(4, .ptr 3 0), (3, .ptr 2 0), (2, .ptr 1 0)], [(3, ⟨29, [.b false, .nl, .nl]⟩), (2, ⟨22, [.own 0 0 a.length 1]⟩), (1, ⟨25, [.sl Vs, .sl As, .sl X]⟩), (0, ⟨3, zl a⟩)], 4⟩ st) ?_ ?_
 ·refine AX.sR (rgWV [2, 3, 4, 13, 14, 15] (aI @hzv oT) oT) ?_
  refine AX.weaken id (st' := ⟨[(15, .i .i64 (0 : Nat)), (14, .i .i64 (vsT t).length), (13, .sl Vs), (4, .ptr 3 0), (3, .ptr 2 0), (2, .ptr 1 0)], [(3, ⟨29, [.b false, .nl, .nl]⟩), (2, ⟨22, [.own 0 0 a.length 1]⟩), (1, ⟨25, [.sl Vs, .sl As, .sl X]⟩), (0, ⟨3, zl a⟩)], 4⟩)
   leQ5
   ?_
  refine AX.block ?_
  refine AX.loop (fun N st => ∃ i : Nat, i ≤ (vsT t).length ∧ N = (vsT t).length - i ∧ (∀ j, j < i → okA t a j) ∧ st = ⟨[(15, .i .i64 i), (14, .i .i64 (vsT t).length), (13, .sl Vs), (4, .ptr 3 0), (3, .ptr 2 0), (2, .ptr 1 0)], [(3, ⟨29, [.b false, .nl, .nl]⟩), (2, ⟨22, [.own 0 0 a.length 1]⟩), (1, ⟨25, [.sl Vs, .sl As, .sl X]⟩), (0, ⟨3, zl a⟩)], 4⟩) (vsT t).length ⟨0, Nat.zero_le _, rfl, fun j hj => absurd hj (Nat.not_lt_zero _), rfl⟩ ?_
  rintro N st ⟨i, hi, rfl, hp, rfl⟩
  by_cases h1 : i < (vsT t).length
  ·have g1 := hgv i h1
   have g2 := hga i h1
   obtain ⟨b1, b2⟩ := vsT_get h1
   have b3 := ht.1 ((vsT t).getD i 0)
   have g3 := hgA ((vsT t).getD i 0)
   have b4 := hab ((vsT t).getD i 0)
   have hbad : ¬ okA t a i → r = .tup [zA, .i .i64 1] := fun h => hno fun hh => h (hh i h1)
   have hok : okA t a i → ∀ j, j < i + 1 → okA t a j := fun hb j hj => by
    by_cases e : j = i
    ·rw [e]; exact hb
    ·exact hp j (by omega)
   unfold okA at hbad
   have hok' : ((vsT t).getD i 0 < a.length ∧ 0 ≤ a.getD ((vsT t).getD i 0) 0 ∧ a.getD ((vsT t).getD i 0) 0 < (t ((vsT t).getD i 0) : Int)) → ∀ j, j < i + 1 → okA t a j := hok
   clear hok hno hyes hgv hga hgA hab hp cr cpl cow hix
   generalize t ((vsT t).getD i 0) = k at *
   generalize (vsT t).getD i 0 = v at *
   generalize a.getD v 0 = x at *
   refine AX.sR (rgAV [2, 3, 4, 13, 14, 15, 16]) ?_
   refine AX.seq ?_
   refine AX.condT ?_
   refine AX.keepA [2, 3, 4, 13, 14, 15] ?_
   refine AX.skip ?_
   refine nmZ ?_
   refine AX.seq ?_
   refine AX.block ?_
   refine AX.sR (rgWV [2, 3, 4, 6, 7, 13, 14, 15] (aI @hzv (aI @g1 oT)) oT) ?_
   by_cases k1 : a.length ≤ v
   ·obtain rfl := hbad (by omega)
    refine AX.sD (rgDWV [2, 3, 4, 13, 14, 15, 42] (aI @hzA oT) oT) ?_
    refine AX.condT ?_
    refine AX.sR (rgAV [4, 5]) ?_
    refine AX.ret ⟨.inl rfl, ?_⟩
    exact Lift.DoneG.cellN rfl rfl rfl rfl
   have g3 := g3 (by omega)
   have b4 := b4 (by omega)
   by_cases k2 : x < 0
   ·obtain rfl := hbad (by omega)
    refine AX.sD (rgDWV [2, 3, 4, 13, 14, 15, 42] (aI @hzA (aI @g3 oT)) oT) ?_
    refine AX.condT ?_
    refine AX.sR (rgAV [4, 5]) ?_
    refine AX.ret ⟨.inl rfl, ?_⟩
    exact Lift.DoneG.cellN rfl rfl rfl rfl
   by_cases k3 : (k : Int) ≤ x
   ·obtain rfl := hbad (by omega)
    refine AX.sD (rgDWV [2, 3, 4, 13, 14, 15, 42] (aI @hzA (aI @g3 (aI @hza (aI @g2 oT)))) oT) ?_
    refine AX.condT ?_
    refine AX.sR (rgAV [4, 5]) ?_
    refine AX.ret ⟨.inl rfl, ?_⟩
    exact Lift.DoneG.cellN rfl rfl rfl rfl
   have hp' := hok' (by omega)
   refine AX.sD (rgDWV [2, 3, 4, 13, 14, 15, 42] (aI @hzA (aI @g3 (aI @hza (aI @g2 oT)))) oT) ?_
   refine AX.condF ?_
   refine AX.keepA [2, 3, 4, 13, 14, 15] ?_
   refine AX.skip ?_
   refine nmZ ?_
   refine AX.rR (rgWV [2, 3, 4, 13, 14, 15] (aI @lit_add oT) oT) ?_
   refine nmZ ?_
   refine ⟨_, _, id, ?_,
    leQ5
    , ⟨i + 1, by omega, rfl, hp', rfl⟩⟩
   omega
  ·obtain rfl : i = (vsT t).length := by omega
   refine AX.sR (rgAV [2, 3, 4, 13, 14, 15, 16]) ?_
   refine AX.seq ?_
   refine AX.condF ?_
   refine AX.exit ?_
   refine nmZ ?_
   exact ⟨hp,
    leQ5
    ⟩
 ·rintro st ⟨hin, hle⟩
  refine AX.weaken id hle ?_
  obtain rfl := hyes hin
  have c1 := cpl X hin
  have hE := enT_lt (anL_in hin)
  have c2 := cow _ hE
  have hix := hix hin
  have hS := ht.2
  clear cpl cow hno hyes hgv hga hgA hab hle cr
  generalize q (enT t (anL a)) = p at *
  generalize enT t (anL a) = E at *
  apply AX.sdreg [4, 5] (by kernel_rfl) (by simp only [pq]; rfl)
  ·repeat (first
  |(apply RunD.op rfl; · rfl
    ·(simp only [opsOf, valsOf, valOf, lkp, ofConst, ofCell, Array.toList, Option.toList, List.map_cons, List.map_nil, List.cons_append, List.nil_append, List.append_nil, Nat.reduceEqDiff, Nat.reducePow, Nat.reduceLT, Nat.reduceLeDiff, reduceIte, if_true, if_false, IntKind.min, IntKind.max, IntKind.bits, IntKind.signed, Int.reduceLE, Int.reduceNeg, Int.reducePow, Int.reduceSub, and_self, Bool.false_eq_true, Nat.reduceSub]; rfl)
    ·first | exact hix _ _ | (simp (disch := omega) only [go_sem, i64_of, u32_of, u64_of, Nat.reduceLT, Nat.reduceLeDiff, Nat.reduceEqDiff, Nat.reduceAdd, Nat.reduceSub, Nat.reduceMul, Nat.reducePow, Nat.reduceBEq, Int.reduceLE, Int.reduceLT, Int.reduceToNat, Int.reduceEq, Int.reduceNeg, reduceIte, reduceCtorEq]; rfl)
    ·(simp (disch := omega) only [go_sem, i64_of, u32_of, u64_of, Nat.reduceLT, Nat.reduceLeDiff, Nat.reduceEqDiff, Nat.reduceAdd, Nat.reduceSub, Nat.reduceMul, Nat.reducePow, Nat.reduceBEq, Int.reduceLE, Int.reduceLT, Int.reduceToNat, Int.reduceEq, Int.reduceNeg, reduceIte, reduceCtorEq]; rfl)
    ·(simp only [pb, Nat.reduceLT, Nat.reduceAdd, reduceIte]; rfl)
    ·rfl)
  |(apply RunD.call rfl; · rfl
    ·(simp only [opsOf, valsOf, valOf, lkp, ofConst, ofCell, Array.toList, Option.toList, List.map_cons, List.map_nil, List.cons_append, List.nil_append, List.append_nil, Nat.reduceEqDiff, Nat.reducePow, Nat.reduceLT, Nat.reduceLeDiff, reduceIte, if_true, if_false, IntKind.min, IntKind.max, IntKind.bits, IntKind.signed, Int.reduceLE, Int.reduceNeg, Int.reducePow, Int.reduceSub, and_self, Bool.false_eq_true, Nat.reduceSub]; rfl)
    ·first | rfl | (simp only [List.cons_append, List.nil_append, V.hfL, V.hf, Bool.true_and]; assumption)
    ·(first | (simp only [cnlL, cnl, List.append_nil, List.cons_append, List.nil_append]; first | exact c2) | (first | exact c2))
    ·rfl
    ·(simp only [pb, Nat.reduceLT, Nat.reduceAdd, reduceIte]; rfl)
    ·rfl)
  |(apply RunD.gcall [0, 2] rfl; · rfl
    ·(simp only [opsOf, valsOf, valOf, lkp, ofConst, ofCell, Array.toList, Option.toList, List.map_cons, List.map_nil, List.cons_append, List.nil_append, List.append_nil, Nat.reduceEqDiff, Nat.reducePow, Nat.reduceLT, Nat.reduceLeDiff, reduceIte, if_true, if_false, IntKind.min, IntKind.max, IntKind.bits, IntKind.signed, Int.reduceLE, Int.reduceNeg, Int.reducePow, Int.reduceSub, and_self, Bool.false_eq_true, Nat.reduceSub]; rfl)
    ·exact c1
    ·first | rfl | (simp only [Row.ren, V.ren, V.renL, renS, ren_q, renL_u, ren_zl, ren_tb, ren_frw, ren_cnq]; rfl)
    ·first | rfl | (simp only [V.lt, V.ltL, ltS, lt_q, ltL_u, lt_zl, lt_tb, lt_frw, lt_cnq]; rfl)
    ·decide
    ·repeat' (first | exact trivial | rfl | (simp only [Row.ren, V.ren, V.renL, renS, ren_q, renL_u, ren_zl, ren_tb, ren_frw, ren_cnq]; done) | (simp only [Row.ren, V.ren, V.renL, renS, ren_q, renL_u, ren_zl, ren_tb, ren_frw, ren_cnq]; rfl) | (simp only [V.lt, V.ltL, ltS, lt_q, ltL_u, lt_zl, lt_tb, lt_frw, lt_cnq]; done) | apply And.intro)
    ·first | rfl | (simp only [Row.ren, V.ren, V.renL, renS, ren_q, renL_u, ren_zl, ren_tb, ren_frw, ren_cnq]; rfl)
    ·(simp only [setRows, setL, Row.ren, V.ren, V.renL, renS, ren_q, renL_u, ren_zl, ren_tb, ren_frw, ren_cnq, pb, Nat.reduceLT, Nat.reduceAdd, Nat.reduceEqDiff, reduceIte]; rfl)
    ·rfl)
  |(apply RunD.skip; · rfl
    ·(simp only [pb, Nat.reduceLT, Nat.reduceAdd, reduceIte]; rfl)
    ·rfl))
   exact RunD.nil
  ·repeat (first | exact Keep.nil | (apply Keep.take; · rfl) | (apply Keep.drop; · rfl))
  ·kernel_rfl
  refine AX.ret ⟨.inl rfl, ?_⟩
  exact Lift.DoneG.cellE rfl rfl rfl rfl
end Go.Proofs.Ytogpimmcodaljaa
/- The law FactorMosts: plain part, and the walk where the factor is right. -/
set_option linter.unusedVariables false
set_option linter.unusedSimpArgs false
namespace Go.Proofs.Ytogpimmcodaljaa
open Go Go.Proofs.Ytogpimmcodaljaa.Lift
attribute [local irreducible] Lift.PCall Lift.HCall
theorem woX1_succ {f : Nat → Rat} {k : Nat} (hk : 1 ≤ k) : woX 1 0 f (k + 1) = if woX 1 0 f k < f k then f k else woX 1 0 f k := by
 show (if k = 0 ∨ 1 = 2 ∧ (k : Int) = 0 then f k else if 1 = 0 then woX 1 0 f k + f k else if 1 = 1 ∧ woX 1 0 f k < f k then f k else woX 1 0 f k) = _
 rw [if_neg (by omega), if_neg (by decide)]
 by_cases h : woX 1 0 f k < f k
 ·rw [if_pos ⟨rfl, h⟩, if_pos h]
 ·rw [if_neg (fun hh => h hh.2), if_neg h]
theorem woX1_ge {f : Nat → Rat} : ∀ n k, k < n → f k ≤ woX 1 0 f n
 | 0, k, h => absurd h (Nat.not_lt_zero _)
 | n + 1, k, h => by
  by_cases h0 : n = 0
  ·subst h0
   obtain rfl : k = 0 := by omega
   exact Rat.le_refl
  ·rw [woX1_succ (by omega)]
   by_cases e : k = n
   ·subst e
    split
    ·exact Rat.le_refl
    ·exact Rat.not_lt.1 ‹_›
   ·have := woX1_ge (f := f) n k (by omega)
    split
    ·exact Rat.le_trans this (Rat.le_of_lt ‹_›)
    ·exact this
theorem woX1_att {f : Nat → Rat} : ∀ n, 1 ≤ n → ∃ k, k < n ∧ woX 1 0 f n = f k
 | 0, h => absurd h (by decide)
 | n + 1, _ => by
  by_cases h0 : n = 0
  ·subst h0
   exact ⟨0, Nat.zero_lt_one, if_pos (.inl rfl)⟩
  ·rw [woX1_succ (by omega)]
   split
   ·exact ⟨n, Nat.lt_succ_self _, rfl⟩
   ·obtain ⟨k, h1, h2⟩ := woX1_att (f := f) n (by omega)
    exact ⟨k, by omega, h2⟩
theorem woX_congr {what : Nat} {arm : Int} {f g : Nat → Rat} : ∀ n, (∀ k, k < n → f k = g k) → woX what arm f n = woX what arm g n
 | 0, _ => rfl
 | n + 1, h => by
  show (if n = 0 ∨ what = 2 ∧ (n : Int) = arm then f n else if what = 0 then woX what arm f n + f n else if what = 1 ∧ woX what arm f n < f n then f n else woX what arm f n) = (if n = 0 ∨ what = 2 ∧ (n : Int) = arm then g n else if what = 0 then woX what arm g n + g n else if what = 1 ∧ woX what arm g n < g n then g n else woX what arm g n)
  rw [h n (by omega), woX_congr n fun k hk => h k (by omega)]
def metB (X : Rat) (g : Nat → Rat) : Nat → Bool
 | 0 => false
 | k + 1 => if metB X g k = true then true else decide (X = g k)
theorem metB_of {X : Rat} {g : Nat → Rat} {k : Nat} (hX : X = g k) : ∀ n, k < n → metB X g n = true
 | 0, h => absurd h (Nat.not_lt_zero _)
 | n + 1, h => by
  unfold metB
  by_cases e : k = n
  ·subst e
   split
   ·rfl
   ·exact decide_eq_true hX
  ·rw [if_pos (metB_of hX n (by omega))]
theorem anL_set {a : List Int} {v k : Nat} (hv : v < a.length) : anL (a.set v (k : Int)) = updT (anL a) v k := funext fun u => by
 unfold anL
 by_cases e : u = v
 ·rw [e, updT_same, List.getD_eq_getElem?_getD, List.getElem?_set_self hv]
  exact Int.toNat_natCast k
 ·rw [updT_ne _ _ e, List.getD_eq_getElem?_getD, List.getElem?_set_ne (Ne.symm e), ← List.getD_eq_getElem?_getD]
theorem getD_set_int {a : List Int} {v u : Nat} {x : Int} (hv : v < a.length) : (a.set v x).getD u 0 = if u = v then x else a.getD u 0 := by
 by_cases e : u = v
 ·rw [if_pos e, e, List.getD_eq_getElem?_getD, List.getElem?_set_self hv]
  rfl
 ·rw [if_neg e, List.getD_eq_getElem?_getD, List.getElem?_set_ne (Ne.symm e), ← List.getD_eq_getElem?_getD]
theorem inA_iff {t : Nat → Nat} {a : List Int} : inA t a ↔ ∀ v, v < 64 → t v ≠ 0 → v < a.length ∧ 0 ≤ a.getD v 0 ∧ a.getD v 0 < (t v : Int) := by
 constructor
 ·intro h v hv h0
  obtain ⟨i, hi, rfl⟩ := mem_getD0 (vsT_mem.2 ⟨hv, h0⟩)
  exact h i hi
 ·intro h j hj
  exact h _ (vsT_get hj).1 (vsT_get hj).2
theorem inA_set {t : Nat → Nat} {a : List Int} {v k : Nat} (hv : v < a.length) (h : inA t (a.set v 0)) (hk : k < t v) : inA t (a.set v (k : Int)) := inA_iff.2 fun u hu h0 => by
 obtain ⟨h1, h2, h3⟩ := inA_iff.1 h u hu h0
 rw [getD_set_int hv] at h2 h3
 rw [List.length_set] at h1 ⊢
 rw [getD_set_int hv]
 by_cases e : u = v
 ·rw [if_pos e]
  refine ⟨h1, by omega, ?_⟩
  rw [e]; omega
 ·rw [if_neg e] at h2 h3 ⊢
  exact ⟨h1, h2, h3⟩
theorem inA_del {t : Nat → Nat} {a : List Int} (v : Nat) (h : inA t a) : inA (updT t v 0) a := inA_iff.2 fun u hu h0 => by
 have e : u ≠ v := fun e => h0 (by rw [e]; exact updT_same _ _ _)
 rw [updT_ne _ _ e] at h0 ⊢
 exact inA_iff.1 h u hu h0
theorem woQ_at {t : Nat → Nat} {q : Nat → Rat} {v what : Nat} {arm : Int} {a : List Int} (hv : v < 64) (hva : v < a.length) (h : inA t (a.set v 0)) : woQ t q v what arm (enT (updT t v 0) (anL (a.set v 0))) = woX what arm (fun k => q (enT t (anL (a.set v (k : Int))))) (t v) := by
 unfold woQ
 refine woX_congr _ fun k hk => ?_
 show q (enT t _) = q (enT t _)
 congr 1
 refine enT_congr fun u hu h0 => ?_
 rw [anL_set hva]
 by_cases e : u = v
 ·rw [e, updT_same, updT_same]
 ·rw [updT_ne _ _ e, updT_ne _ _ e]
  have h1 := de_enT (anL_in (inA_del v h)) hu (by rw [updT_ne _ _ e]; exact h0)
  rw [h1]
  have h2 : anL (a.set v 0) = updT (anL a) v 0 := anL_set (k := 0) hva
  rw [h2, updT_ne _ _ e]
theorem zl_set (l : List Int) (v : Nat) (x : Int) : (zl l).set v (.i .i64 x) = zl (l.set v x) := (List.map_set ..).symm
theorem fAppZ {l : List Int} (hl : l.length ≤ 2 ^ 40) {h : Nat} (x y : Operand) : eff Try.prog (.call ⟨.builtin .append, #[x, y], #[22, 22]⟩) [.own h 0 0 1, .sl (zl l)] = some (.grow h (appRow ⟨1, false, 8, [.i .i64 0]⟩ 3 0 (zl l) l.length) (fun n => .own n 0 l.length 1)) := by
 have h1 : ((zl l).getD 0 .junk).cells.length = 1 ∨ zl l = [] := by
  cases l
  ·exact .inr rfl
  ·exact .inl rfl
 have h2 := flatCells_zl l
 have h3 := zl_length l
 generalize zl l = Z at *
 simp only [eff, effCall, effAppend, Try.underlying22, fa_lay_int, if_true, h2, h3, h1, List.length_cons, List.length_nil, Nat.zero_add, and_true, true_and]
 rw [if_pos (by decide), if_pos hl]
end Go.Proofs.Ytogpimmcodaljaa
