/- Fractions: Text, Right, Sum. -/
import Derived.Test.YtmhjcmochemndaaGD
import Derived.Test.YtmhjcmochemndaaGN
set_option linter.unusedVariables false
set_option linter.unusedSimpArgs false
namespace Go.Proofs.Ytmhjcmochemndaa
open Go Go.Proofs.Ytmhjcmochemndaa.Lift
attribute [local irreducible] Lift.PCall Lift.HCall
def rtxL (q : Rat) : List Nat := (if q.num < 0 then [45] else []) ++ decB q.num.natAbs ++ (if q.den = 1 then [] else 47 :: decB q.den)
abbrev rtxt (q : Rat) : ByteArray := strN (rtxL q)
theorem strN_app (l l' : List Nat) : strN l ++ strN l' = strN (l ++ l') := by
 apply ByteArray.ext
 rw [ByteArray.data_append]
 simp [strN, strOf]
theorem effCat {P : Program} {t y' : TypeId} {x y : Operand} {l l' : List Nat} (h : l.length + l'.length < 2 ^ 61) : eff P (.binOp .add t x y y') [.s (strN l), .s (strN l')] = some (.val (.s (strN (l ++ l')))) := by
 show (match binStr .add (strN l) (strN l') with
  | some v => some (Eff.val v)
  | none => none) = _
 have hs : (strN l).size + (strN l').size < 2 ^ 62 := by
  rw [size_strN, size_strN]
  omega
 simp only [binStr]
 rw [if_pos hs, strN_app]
set_option maxRecDepth 20000 in
set_option maxHeartbeats 4000000 in
theorem qtext_ok {x : V} {q : Rat} {L : Nat} (hx : IsQ x q L) (hL : L < 2 ^ 34) (hL1 : 1 ≤ L) : PCall Try.prog 48 [x] (.s (rtxt q)) [] := by
 obtain ⟨s, a, b, rfl, ha, hb, hq, hla, hlb⟩ := hx
 refine PCall.of_ax Try.call48 Try.func48 rfl (by simp [Try.ntmps48]) fun O w => ?_
 simp only [Try.ntmps48, Try.results48, argFr]
 have c1 : PCall Try.prog 68 [.b s, dg a, dg b] (.agg [.b (decide (q.num < 0)), nv q.num.natAbs, nv q.den]) [] := by
  have c := made_ok s a b ha hb (by omega) (by omega)
  rw [hq] at c
  exact c
 have hr : rL q ≤ L := by
  rw [← hq]
  exact rL_rq (Nat.le_trans (digits_length_val ha) hla) (Nat.le_trans (digits_length_val hb) hlb) hL1
 have hr1 : (digits q.num.natAbs).length ≤ L := Nat.le_trans (Nat.le_max_left _ _) hr
 have hr2 : (digits q.den).length ≤ L := Nat.le_trans (Nat.le_max_right _ _) hr
 have c2 := text_n q.num.natAbs (by omega)
 have c3 := text_n q.den (by omega)
 have c4 := small_n q.den (by omega)
 have d1 := decB_len q.num.natAbs
 have d2 := decB_len q.den
 unfold smallV at c4
 have hrt : rtxt q = strN ((if q.num < 0 then [45] else []) ++ decB q.num.natAbs ++ (if q.den = 1 then [] else 47 :: decB q.den)) := rfl
 rw [hrt]
 obtain ⟨N, hN⟩ : ∃ N, q.num.natAbs = N := ⟨_, rfl⟩
 obtain ⟨D, hD⟩ : ∃ D, q.den = D := ⟨_, rfl⟩
 rw [hN] at c1 c2 d1 hr1 ⊢
 rw [hD] at c1 c3 c4 d2 hr2 ⊢
 refine AX.sR (rgAV [1]) ?_
 refine AX.sR (rgCV [1] (aI c1 oT)) ?_
 refine AX.sR (rgCV [1, 3] (aI c2 oT)) ?_
 refine AX.cut (fun st => ∃ l : List Nat, l = (if q.num < 0 then [45] else []) ++ decB N ∧ st = ⟨[(3, .s (strN l)), (1, .ptr 0 0)], [(0, ⟨25, [.b (decide (q.num < 0)), nv N, nv D]⟩)], 1⟩) ?_ ?_
 ·by_cases hn : q.num < 0
  ·rw [decide_eq_true hn, if_pos hn]
   have hcat := fun x y t y' => effCat (P := Try.prog) (t := t) (y' := y') (x := x) (y := y) (l := [45]) (l' := decB N) (by simp only [List.length_cons, List.length_nil]; omega)
   refine AX.sR (rgAV [1, 3, 17]) ?_
   refine AX.condT ?_
   refine AX.rR (rgEV [1, 3] oT oT (aI (hcat _ _) oT)) ?_
   exact ⟨rfl, _, rfl, rfl⟩
  ·rw [decide_eq_false hn, if_neg hn]
   refine AX.sR (rgAV [1, 3, 17]) ?_
   refine AX.condF ?_
   refine AX.keepA [1, 3] ?_
   refine AX.skip ?_
   refine nmZ ?_
   refine ⟨by first | exact trivial | rfl, _, rfl, rfl⟩
 rintro st ⟨l, hl, rfl⟩
 rw [← hl]
 have hll : l.length ≤ 10 * L + 2 := by
  rw [hl, List.length_append]
  split <;> simp <;> omega
 by_cases h1 : D = 1
 ·subst h1
  rw [if_pos rfl, List.append_nil]
  rw [show smallN 1 = 1 from rfl, show decide (1 < 18446744073709551616) = true from rfl] at c4
  refine AX.seq ?_
  refine AX.sR (rgCV [1, 3, 4, 5] (aI c4 oT)) ?_
  refine nmZ ?_
  refine AX.sR (rgAV [1, 3, 30]) ?_
  refine AX.condT ?_
  refine AX.sR (rgAV [2]) ?_
  refine AX.ret ⟨.inl rfl, ?_⟩
  exact Done.one rfl rfl rfl rfl
 ·rw [if_neg h1]
  refine AX.cut (fun st => st = ⟨[(3, .s (strN l)), (1, .ptr 0 0)], [(0, ⟨25, [.b (decide (q.num < 0)), nv N, nv D]⟩)], 1⟩) ?_ ?_
  ·by_cases h2 : D < 18446744073709551616
   ·have e : smallN D = D := if_pos h2
    rw [e, decide_eq_true h2] at c4
    refine AX.sR (rgCV [1, 3, 4, 5] (aI c4 oT)) ?_
    refine AX.sR (rgAV [1, 3, 30]) ?_
    refine AX.condF ?_
    refine AX.keepA [1, 3] ?_
    refine AX.skip ?_
    refine nmZ ?_
    first | exact trivial | exact ⟨trivial, trivial⟩ | exact ⟨rfl, rfl⟩ | exact ⟨trivial, rfl⟩
   ·rw [decide_eq_false h2] at c4
    refine AX.sR (rgCV [1, 3, 4, 5] (aI c4 oT)) ?_
    refine AX.sR (rgAV [1, 3, 30]) ?_
    refine AX.condF ?_
    refine AX.keepA [1, 3] ?_
    refine AX.skip ?_
    refine nmZ ?_
    first | exact trivial | exact ⟨trivial, trivial⟩ | exact ⟨rfl, rfl⟩ | exact ⟨trivial, rfl⟩
  rintro st rfl
  have hcat1 := fun x y t y' => effCat (P := Try.prog) (t := t) (y' := y') (x := x) (y := y) (l := l) (l' := [47]) (by simp only [List.length_cons, List.length_nil]; omega)
  have hcat2 := fun x y t y' => effCat (P := Try.prog) (t := t) (y' := y') (x := x) (y := y) (l := l ++ [47]) (l' := decB D) (by simp only [List.length_append, List.length_cons, List.length_nil]; omega)
  rw [List.append_assoc] at hcat2
  refine AX.sR (rgEV [2] oT (aI c3 oT) (aI (hcat1 _ _) (aI (hcat2 _ _) oT))) ?_
  refine AX.ret ⟨.inl rfl, ?_⟩
  exact Done.one rfl rfl rfl rfl
theorem coprime_small (q : Rat) : Nat.gcd q.num.natAbs q.den = 1 := q.reduced
set_option maxRecDepth 20000 in
set_option maxHeartbeats 4000000 in
theorem qright_ok (q : Rat) (hL : rL q < 2 ^ 34) : PCall Try.prog 19 [rV q] (.b true) [] := by
 refine PCall.of_ax Try.call19 Try.func19 rfl (by simp [Try.ntmps19]) fun O w => ?_
 simp only [Try.ntmps19, Try.results19, argFr]
 have hr1 : (digits q.num.natAbs).length ≤ rL q := Nat.le_max_left _ _
 have hr2 : (digits q.den).length ≤ rL q := Nat.le_max_right _ _
 have c1 := right_n q.num.natAbs (by omega)
 have c2 := right_n q.den (by omega)
 have c3 := gcd_n q.num.natAbs q.den (by omega) (by omega)
 rw [coprime_small] at c3
 have c4 : PCall Try.prog 60 [nv 1] (.tup [.i .u64 ((1 : Nat) : Int), .b true]) [] := small_n 1 (by have := lenS (n := 1) (by omega); omega)
 have hd : 0 < (digits q.den).length := Nat.pos_of_ne_zero fun e => q.den_nz (digits_len_zero.1 e)
 have hnum : (digits q.num.natAbs).length = 0 → decide (q.num < 0) = false := by
  intro e
  have := digits_len_zero.1 e
  exact decide_eq_false (by omega)
 clear hr1 hr2 hL
 have hg : rV q = .agg [.b (decide (q.num < 0)), nv q.num.natAbs, nv q.den] := rfl
 rw [hg]
 generalize q.num.natAbs = N at *
 generalize q.den = D at *
 generalize decide (q.num < 0) = s at *
 refine AX.sR (rgAV [1]) ?_
 refine AX.cut (fun st => st = ⟨[(1, .ptr 0 0)], [(0, ⟨25, [.b s, nv N, nv D]⟩)], 1⟩) ?_ ?_
 ·by_cases h0 : (digits N).length = 0
  ·have hs := hnum h0
   subst hs
   refine AX.sR (rgCV [1, 30] (aI c1 (aI c2 oT))) ?_
   refine AX.condF ?_
   refine AX.keepA [1] ?_
   refine AX.skip ?_
   refine nmZ ?_
   first | exact trivial | exact ⟨trivial, trivial⟩ | exact ⟨rfl, rfl⟩ | exact ⟨trivial, rfl⟩
  ·refine AX.sR (rgCV [1, 30] (aI c1 (aI c2 oT))) ?_
   refine AX.condF ?_
   refine AX.keepA [1] ?_
   refine AX.skip ?_
   refine nmZ ?_
   first | exact trivial | exact ⟨trivial, trivial⟩ | exact ⟨rfl, rfl⟩ | exact ⟨trivial, rfl⟩
 rintro st rfl
 refine AX.sR (rgCV [3, 4] (aI c3 (aI c4 oT))) ?_
 refine AX.sR (rgAV [2]) ?_
 refine AX.ret ⟨.inl rfl, ?_⟩
 exact Done.one rfl rfl rfl rfl
end Go.Proofs.Ytmhjcmochemndaa
/- Fractions: Parse. -/
set_option linter.unusedVariables false
set_option linter.unusedSimpArgs false
namespace Go.Proofs.Ytmhjcmochemndaa
open Go Go.Proofs.Ytmhjcmochemndaa.Lift
attribute [local irreducible] Lift.PCall Lift.HCall
theorem parN_len (s : ByteArray) : (digits (parN s)).length ≤ 20000 := by
 rcases parE_val s with h | ⟨h, e⟩
 ·by_cases h0 : s.size = 0 ∨ (bt s 0 = 48 ∧ 1 < s.size)
  ·rw [(par_head h0).2, digits_zero]; exact Nat.zero_le _
  by_cases hD : Dgt s
  ·by_cases hl : 20000 < s.size
   ·rw [(par_long h0 hD hl).2, digits_zero]; exact Nat.zero_le _
   ·rw [(par_good h0 hD hl).2]
    exact dv_len hD (by omega) (Nat.le_refl _)
  ·rw [(par_bad hD).2, digits_zero]; exact Nat.zero_le _
 ·rw [e, digits_zero]; exact Nat.zero_le _
theorem restS_lt {s : ByteArray} {K : Nat} (hs : s.size < K) : (restS s).size < K := by
 unfold restS
 split
 ·rw [size_ext]; omega
 ·exact hs
def numS (r : ByteArray) : ByteArray := if ixS r = -1 then r else r.extract 0 (ixS r).toNat
def denS (r : ByteArray) : ByteArray := r.extract ((ixS r).toNat + 1) r.size
noncomputable def denE (r : ByteArray) : Int := if ixS r = -1 then 0 else parE (denS r)
noncomputable def denN (r : ByteArray) : Nat := if ixS r = -1 then 1 else parN (denS r)
noncomputable def rpQ (s : ByteArray) : Rat := rq (neg1 s) (parN (numS (restS s))) (denN (restS s))
noncomputable def rpE (s : ByteArray) : Int := if parE (numS (restS s)) ≠ 0 then parE (numS (restS s)) else if denE (restS s) ≠ 0 then denE (restS s) else if rtxt (rpQ s) = s then 0 else 33
noncomputable def rpV (s : ByteArray) : V := if rpE s = 0 then .tup [rV (rpQ s), .i .i64 0] else .tup [zR, .i .i64 (rpE s)]
theorem numS_lt {r : ByteArray} {K : Nat} (hs : r.size < K) : (numS r).size < K := by
 unfold numS
 split
 ·exact hs
 ·rw [ByteArray.size_extract]; omega
theorem denS_lt {r : ByteArray} {K : Nat} (hs : r.size < K) : (denS r).size < K := by
 unfold denS
 rw [size_ext]; omega
theorem denN_len (r : ByteArray) : (digits (denN r)).length ≤ 20000 := by
 unfold denN
 split
 ·have := lenS (n := 1) (by omega)
  omega
 ·exact parN_len _
theorem rpQ_len (s : ByteArray) : rL (rpQ s) ≤ 20000 := rL_rq (parN_len _) (denN_len _) (by omega)
theorem effStrNe {P : Program} {t y' : TypeId} {x y : Operand} {a b : ByteArray} {c : Bool} (h : decide (a = b) = c) : eff P (.binOp .neq t x y y') [.s a, .s b] = some (.val (.b (!c))) := by
 have h1 := effStr (P := P) (t := t) (y' := y') (x := x) (y := y) h
 have h2 : some (Eff.val (.b (a.toList == b.toList))) = some (Eff.val (.b c)) := h1
 have h3 : (a.toList == b.toList) = c := by injection h2 with h2; injection h2 with h2; injection h2
 show some (Eff.val (.b (!(a.toList == b.toList)))) = _
 rw [h3]
set_option maxRecDepth 20000 in
set_option maxHeartbeats 4000000 in
theorem qparse_ok (s : ByteArray) (hs : s.size < 2 ^ 62) : PCall Try.prog 46 [.s s] (rpV s) [] := by
 refine PCall.of_ax Try.call46 Try.func46 rfl (by simp [Try.ntmps46]) fun O w => ?_
 simp only [Try.ntmps46, Try.results46, argFr]
 have c1 := cutp_ok s
 have c2 := cut_ok (restS s) (restS_lt hs)
 have c3 := parse_ok (numS (restS s)) (numS_lt (restS_lt hs))
 have c4 := parse_ok (denS (restS s)) (denS_lt (restS_lt hs))
 have c6 := of_ok 1 (by omega)
 have c5 : PCall Try.prog 68 [.b (neg1 s), nv (parN (numS (restS s))), nv (denN (restS s))] (rR (decide ((rpQ s).num < 0)) (digits (rpQ s).num.natAbs) (digits (rpQ s).den)) [] := by
  have c := made_ok (neg1 s) (digits (parN (numS (restS s)))) (digits (denN (restS s))) (Dg_digits _) (Dg_digits _) (by have := parN_len (numS (restS s)); omega) (by have := denN_len (restS s); omega)
  rw [val_digits, val_digits] at c
  exact c
 have c7 : PCall Try.prog 48 [rR (decide ((rpQ s).num < 0)) (digits (rpQ s).num.natAbs) (digits (rpQ s).den)] (.s (rtxt (rpQ s))) [] :=
  qtext_ok (IsQ.of (rpQ_len s)) (by omega) (by omega)
 have hnum : numS (restS s) = if ixS (restS s) = -1 then restS s else (restS s).extract 0 (ixS (restS s)).toNat := rfl
 have hden : denS (restS s) = (restS s).extract ((ixS (restS s)).toNat + 1) (restS s).size := rfl
 have hE : denE (restS s) = if ixS (restS s) = -1 then 0 else parE (denS (restS s)) := rfl
 have hN : denN (restS s) = if ixS (restS s) = -1 then 1 else parN (denS (restS s)) := rfl
 have hV : rpV s = if rpE s = 0 then .tup [rR (decide ((rpQ s).num < 0)) (digits (rpQ s).num.natAbs) (digits (rpQ s).den), .i .i64 0] else .tup [zR, .i .i64 (rpE s)] := rfl
 have hR : rpE s = if parE (numS (restS s)) ≠ 0 then parE (numS (restS s)) else if denE (restS s) ≠ 0 then denE (restS s) else if rtxt (rpQ s) = s then 0 else 33 := rfl
 rw [hV]
 unfold cutV at c2
 generalize rpE s = RE at *
 generalize rpQ s = Q at *
 generalize neg1 s = S at *
 generalize restS s = r at *
 generalize numS r = b1 at *
 generalize denS r = b2 at *
 generalize denE r = E2 at *
 generalize denN r = N2 at *
 generalize parE b1 = E1 at *
 generalize parN b1 = N1 at *
 by_cases hx : ixS r = -1
 ·rw [if_pos hx] at c2 hnum hE hN
  subst hnum
  subst hN
  subst hE
  clear c4 hden
  rw [if_neg (c := (0 : Int) ≠ 0) (by omega)] at hR
  refine AX.sR (rgAV [0, 2]) ?_
  refine AX.sR (rgCV [0, 2, 4, 5] (aI c1 oT)) ?_
  refine AX.sR (rgCV [0, 2, 5, 6, 7, 8] (aI c2 oT)) ?_
  refine AX.sR (rgCV [0, 2, 5, 7, 8, 9, 10] (aI c3 oT)) ?_
  refine AX.seq ?_
  by_cases h1 : E1 = 0
  ·rw [if_neg (not_not_intro h1)] at hR
   refine AX.sR (rgAV [0, 2, 5, 7, 8, 9, 10, 30]) ?_
   refine AX.condF ?_
   refine AX.keepA [0, 2, 5, 7, 8, 9, 10] ?_
   refine AX.skip ?_
   refine nmZ ?_
   refine AX.sR (rgCV [0, 2, 5, 7, 8, 9, 11] (aI c6 oT)) ?_
   refine AX.seq ?_
   refine AX.sR (rgAV [0, 2, 5, 9, 11, 34]) ?_
   refine AX.condF ?_
   refine AX.keepA [0, 2, 5, 9, 11] ?_
   refine AX.skip ?_
   refine nmZ ?_
   refine AX.sR (rgCV [0, 2, 12] (aI c5 oT)) ?_
   refine AX.seq ?_
   by_cases h3 : rtxt Q = s
   ·have hq := decide_eq_true h3
    rw [if_pos h3] at hR
    rw [if_pos hR]
    apply AX.sreg [0, 2, 12, 51] (by simp only [pq]; rfl)
    ·repeat (first
    |(apply RunO.op rfl; · rfl
      ·(simp only [opsOf, valsOf, valOf, lkp, ofConst, ofCell, Array.toList, Option.toList, List.map_cons, List.map_nil, List.cons_append, List.nil_append, List.append_nil, Nat.reduceEqDiff, Nat.reducePow, Nat.reduceLT, Nat.reduceLeDiff, reduceIte, if_true, if_false, IntKind.min, IntKind.max, IntKind.bits, IntKind.signed, Int.reduceLE, Int.reduceNeg, Int.reducePow, Int.reduceSub, and_self, Bool.false_eq_true, Nat.reduceSub]; rfl)
      ·first | exact effStrNe hq | (simp (disch := omega) only [go_sem, i64_of, u32_of, u64_of, Nat.reduceLT, Nat.reduceLeDiff, Nat.reduceEqDiff, Nat.reduceAdd, Nat.reduceSub, Nat.reduceMul, Nat.reducePow, Nat.reduceBEq, Int.reduceLE, Int.reduceLT, Int.reduceToNat, Int.reduceEq, Int.reduceNeg, ↓reduceIte, reduceCtorEq]; rfl)
      ·(simp (disch := omega) only [go_sem, i64_of, u32_of, u64_of, Nat.reduceLT, Nat.reduceLeDiff, Nat.reduceEqDiff, Nat.reduceAdd, Nat.reduceSub, Nat.reduceMul, Nat.reducePow, Nat.reduceBEq, Int.reduceLE, Int.reduceLT, Int.reduceToNat, Int.reduceEq, Int.reduceNeg, ↓reduceIte, reduceCtorEq]; rfl)
      ·(simp only [pb, Nat.reduceLT, Nat.reduceAdd, reduceIte]; rfl))
    |(apply RunO.call rfl; · rfl
      ·(simp only [opsOf, valsOf, valOf, lkp, ofConst, ofCell, Array.toList, Option.toList, List.map_cons, List.map_nil, List.cons_append, List.nil_append, List.append_nil, Nat.reduceEqDiff, Nat.reducePow, Nat.reduceLT, Nat.reduceLeDiff, reduceIte, if_true, if_false, IntKind.min, IntKind.max, IntKind.bits, IntKind.signed, Int.reduceLE, Int.reduceNeg, Int.reducePow, Int.reduceSub, and_self, Bool.false_eq_true, Nat.reduceSub]; rfl)
      ·(simp (disch := omega) only [go_sem, i64_of, u32_of, u64_of, Nat.reduceLT, Nat.reduceLeDiff, Nat.reduceEqDiff, Nat.reduceAdd, Nat.reduceSub, Nat.reduceMul, Nat.reducePow, Nat.reduceBEq, Int.reduceLE, Int.reduceLT, Int.reduceToNat, Int.reduceEq, Int.reduceNeg, ↓reduceIte, reduceCtorEq]; rfl)
      ·rfl
      ·(first | exact c7)
      ·(simp (disch := omega) only [go_sem, i64_of, u32_of, u64_of, Nat.reduceLT, Nat.reduceLeDiff, Nat.reduceEqDiff, Nat.reduceAdd, Nat.reduceSub, Nat.reduceMul, Nat.reducePow, Nat.reduceBEq, Int.reduceLE, Int.reduceLT, Int.reduceToNat, Int.reduceEq, Int.reduceNeg, ↓reduceIte, reduceCtorEq]; rfl)
      ·(simp only [pb, Nat.reduceLT, Nat.reduceAdd, reduceIte]; rfl))
    |(apply RunO.skip; · rfl
      ·(simp only [pb, Nat.reduceLT, Nat.reduceAdd, reduceIte]; rfl)))
     exact RunO.nil
    ·repeat (first | exact Keep.nil | (apply Keep.take; · rfl) | (apply Keep.drop; · rfl))
    refine AX.condF ?_
    refine AX.keepA [2, 12] ?_
    refine AX.skip ?_
    refine nmZ ?_
    refine AX.sR (rgAV [2, 3]) ?_
    refine AX.ret ⟨.inl rfl, ?_⟩
    exact Done.cellE rfl rfl rfl
   ·have hq := decide_eq_false h3
    rw [if_neg h3] at hR
    rw [if_neg (by omega)]
    subst hR
    apply AX.sreg [0, 2, 12, 51] (by simp only [pq]; rfl)
    ·repeat (first
    |(apply RunO.op rfl; · rfl
      ·(simp only [opsOf, valsOf, valOf, lkp, ofConst, ofCell, Array.toList, Option.toList, List.map_cons, List.map_nil, List.cons_append, List.nil_append, List.append_nil, Nat.reduceEqDiff, Nat.reducePow, Nat.reduceLT, Nat.reduceLeDiff, reduceIte, if_true, if_false, IntKind.min, IntKind.max, IntKind.bits, IntKind.signed, Int.reduceLE, Int.reduceNeg, Int.reducePow, Int.reduceSub, and_self, Bool.false_eq_true, Nat.reduceSub]; rfl)
      ·first | exact effStrNe hq | (simp (disch := omega) only [go_sem, i64_of, u32_of, u64_of, Nat.reduceLT, Nat.reduceLeDiff, Nat.reduceEqDiff, Nat.reduceAdd, Nat.reduceSub, Nat.reduceMul, Nat.reducePow, Nat.reduceBEq, Int.reduceLE, Int.reduceLT, Int.reduceToNat, Int.reduceEq, Int.reduceNeg, ↓reduceIte, reduceCtorEq]; rfl)
      ·(simp (disch := omega) only [go_sem, i64_of, u32_of, u64_of, Nat.reduceLT, Nat.reduceLeDiff, Nat.reduceEqDiff, Nat.reduceAdd, Nat.reduceSub, Nat.reduceMul, Nat.reducePow, Nat.reduceBEq, Int.reduceLE, Int.reduceLT, Int.reduceToNat, Int.reduceEq, Int.reduceNeg, ↓reduceIte, reduceCtorEq]; rfl)
      ·(simp only [pb, Nat.reduceLT, Nat.reduceAdd, reduceIte]; rfl))
    |(apply RunO.call rfl; · rfl
      ·(simp only [opsOf, valsOf, valOf, lkp, ofConst, ofCell, Array.toList, Option.toList, List.map_cons, List.map_nil, List.cons_append, List.nil_append, List.append_nil, Nat.reduceEqDiff, Nat.reducePow, Nat.reduceLT, Nat.reduceLeDiff, reduceIte, if_true, if_false, IntKind.min, IntKind.max, IntKind.bits, IntKind.signed, Int.reduceLE, Int.reduceNeg, Int.reducePow, Int.reduceSub, and_self, Bool.false_eq_true, Nat.reduceSub]; rfl)
      ·(simp (disch := omega) only [go_sem, i64_of, u32_of, u64_of, Nat.reduceLT, Nat.reduceLeDiff, Nat.reduceEqDiff, Nat.reduceAdd, Nat.reduceSub, Nat.reduceMul, Nat.reducePow, Nat.reduceBEq, Int.reduceLE, Int.reduceLT, Int.reduceToNat, Int.reduceEq, Int.reduceNeg, ↓reduceIte, reduceCtorEq]; rfl)
      ·rfl
      ·(first | exact c7)
      ·(simp (disch := omega) only [go_sem, i64_of, u32_of, u64_of, Nat.reduceLT, Nat.reduceLeDiff, Nat.reduceEqDiff, Nat.reduceAdd, Nat.reduceSub, Nat.reduceMul, Nat.reducePow, Nat.reduceBEq, Int.reduceLE, Int.reduceLT, Int.reduceToNat, Int.reduceEq, Int.reduceNeg, ↓reduceIte, reduceCtorEq]; rfl)
      ·(simp only [pb, Nat.reduceLT, Nat.reduceAdd, reduceIte]; rfl))
    |(apply RunO.skip; · rfl
      ·(simp only [pb, Nat.reduceLT, Nat.reduceAdd, reduceIte]; rfl)))
     exact RunO.nil
    ·repeat (first | exact Keep.nil | (apply Keep.take; · rfl) | (apply Keep.drop; · rfl))
    refine AX.condT ?_
    refine AX.sR (rgAV [2, 3]) ?_
    refine AX.ret ⟨.inl rfl, ?_⟩
    exact Done.cellZ rfl rfl rfl
  ·rw [if_pos h1] at hR
   rw [if_neg (by omega)]
   subst hR
   refine AX.sR (rgAV [0, 2, 10, 30]) ?_
   refine AX.condT ?_
   refine AX.sR (rgAV [2, 3]) ?_
   refine AX.ret ⟨.inl rfl, ?_⟩
   exact Done.cellZ rfl rfl rfl
 ·rw [if_neg hx] at c2 hnum hE hN
  rw [← hnum, ← hden] at c2
  rw [hE] at hR
  rw [hN] at c5
  clear hE hN E2
  generalize parE b2 = E2 at *
  refine AX.sR (rgAV [0, 2]) ?_
  refine AX.sR (rgCV [0, 2, 4, 5] (aI c1 oT)) ?_
  refine AX.sR (rgCV [0, 2, 5, 6, 7, 8] (aI c2 oT)) ?_
  refine AX.sR (rgCV [0, 2, 5, 7, 8, 9, 10] (aI c3 oT)) ?_
  refine AX.seq ?_
  by_cases h1 : E1 = 0
  ·rw [if_neg (not_not_intro h1)] at hR
   refine AX.sR (rgAV [0, 2, 5, 7, 8, 9, 10, 30]) ?_
   refine AX.condF ?_
   refine AX.keepA [0, 2, 5, 7, 8, 9, 10] ?_
   refine AX.skip ?_
   refine nmZ ?_
   refine AX.sR (rgCV [0, 2, 5, 7, 8, 9, 11] (aI c6 oT)) ?_
   refine AX.seq ?_
   refine AX.sR (rgAV [0, 2, 5, 7, 9, 11, 34]) ?_
   refine AX.condT ?_
   refine AX.sR (rgCV [0, 2, 5, 9, 10, 11] (aI c4 oT)) ?_
   by_cases h2 : E2 = 0
   ·rw [if_neg (not_not_intro h2)] at hR
    refine AX.sR (rgAV [0, 2, 5, 9, 10, 11, 41]) ?_
    refine AX.condF ?_
    refine AX.keepA [0, 2, 5, 9, 11] ?_
    refine AX.skip ?_
    refine nmZ ?_
    refine AX.sR (rgCV [0, 2, 12] (aI c5 oT)) ?_
    refine AX.seq ?_
    by_cases h3 : rtxt Q = s
    ·have hq := decide_eq_true h3
     rw [if_pos h3] at hR
     rw [if_pos hR]
     apply AX.sreg [0, 2, 12, 51] (by simp only [pq]; rfl)
     ·repeat (first
     |(apply RunO.op rfl; · rfl
       ·(simp only [opsOf, valsOf, valOf, lkp, ofConst, ofCell, Array.toList, Option.toList, List.map_cons, List.map_nil, List.cons_append, List.nil_append, List.append_nil, Nat.reduceEqDiff, Nat.reducePow, Nat.reduceLT, Nat.reduceLeDiff, reduceIte, if_true, if_false, IntKind.min, IntKind.max, IntKind.bits, IntKind.signed, Int.reduceLE, Int.reduceNeg, Int.reducePow, Int.reduceSub, and_self, Bool.false_eq_true, Nat.reduceSub]; rfl)
       ·first | exact effStrNe hq | (simp (disch := omega) only [go_sem, i64_of, u32_of, u64_of, Nat.reduceLT, Nat.reduceLeDiff, Nat.reduceEqDiff, Nat.reduceAdd, Nat.reduceSub, Nat.reduceMul, Nat.reducePow, Nat.reduceBEq, Int.reduceLE, Int.reduceLT, Int.reduceToNat, Int.reduceEq, Int.reduceNeg, ↓reduceIte, reduceCtorEq]; rfl)
       ·(simp (disch := omega) only [go_sem, i64_of, u32_of, u64_of, Nat.reduceLT, Nat.reduceLeDiff, Nat.reduceEqDiff, Nat.reduceAdd, Nat.reduceSub, Nat.reduceMul, Nat.reducePow, Nat.reduceBEq, Int.reduceLE, Int.reduceLT, Int.reduceToNat, Int.reduceEq, Int.reduceNeg, ↓reduceIte, reduceCtorEq]; rfl)
       ·(simp only [pb, Nat.reduceLT, Nat.reduceAdd, reduceIte]; rfl))
     |(apply RunO.call rfl; · rfl
       ·(simp only [opsOf, valsOf, valOf, lkp, ofConst, ofCell, Array.toList, Option.toList, List.map_cons, List.map_nil, List.cons_append, List.nil_append, List.append_nil, Nat.reduceEqDiff, Nat.reducePow, Nat.reduceLT, Nat.reduceLeDiff, reduceIte, if_true, if_false, IntKind.min, IntKind.max, IntKind.bits, IntKind.signed, Int.reduceLE, Int.reduceNeg, Int.reducePow, Int.reduceSub, and_self, Bool.false_eq_true, Nat.reduceSub]; rfl)
       ·(simp (disch := omega) only [go_sem, i64_of, u32_of, u64_of, Nat.reduceLT, Nat.reduceLeDiff, Nat.reduceEqDiff, Nat.reduceAdd, Nat.reduceSub, Nat.reduceMul, Nat.reducePow, Nat.reduceBEq, Int.reduceLE, Int.reduceLT, Int.reduceToNat, Int.reduceEq, Int.reduceNeg, ↓reduceIte, reduceCtorEq]; rfl)
       ·rfl
       ·(first | exact c7)
       ·(simp (disch := omega) only [go_sem, i64_of, u32_of, u64_of, Nat.reduceLT, Nat.reduceLeDiff, Nat.reduceEqDiff, Nat.reduceAdd, Nat.reduceSub, Nat.reduceMul, Nat.reducePow, Nat.reduceBEq, Int.reduceLE, Int.reduceLT, Int.reduceToNat, Int.reduceEq, Int.reduceNeg, ↓reduceIte, reduceCtorEq]; rfl)
       ·(simp only [pb, Nat.reduceLT, Nat.reduceAdd, reduceIte]; rfl))
     |(apply RunO.skip; · rfl
       ·(simp only [pb, Nat.reduceLT, Nat.reduceAdd, reduceIte]; rfl)))
      exact RunO.nil
     ·repeat (first | exact Keep.nil | (apply Keep.take; · rfl) | (apply Keep.drop; · rfl))
     refine AX.condF ?_
     refine AX.keepA [2, 12] ?_
     refine AX.skip ?_
     refine nmZ ?_
     refine AX.sR (rgAV [2, 3]) ?_
     refine AX.ret ⟨.inl rfl, ?_⟩
     exact Done.cellE rfl rfl rfl
    ·have hq := decide_eq_false h3
     rw [if_neg h3] at hR
     rw [if_neg (by omega)]
     subst hR
     apply AX.sreg [0, 2, 12, 51] (by simp only [pq]; rfl)
     ·repeat (first
     |(apply RunO.op rfl; · rfl
       ·(simp only [opsOf, valsOf, valOf, lkp, ofConst, ofCell, Array.toList, Option.toList, List.map_cons, List.map_nil, List.cons_append, List.nil_append, List.append_nil, Nat.reduceEqDiff, Nat.reducePow, Nat.reduceLT, Nat.reduceLeDiff, reduceIte, if_true, if_false, IntKind.min, IntKind.max, IntKind.bits, IntKind.signed, Int.reduceLE, Int.reduceNeg, Int.reducePow, Int.reduceSub, and_self, Bool.false_eq_true, Nat.reduceSub]; rfl)
       ·first | exact effStrNe hq | (simp (disch := omega) only [go_sem, i64_of, u32_of, u64_of, Nat.reduceLT, Nat.reduceLeDiff, Nat.reduceEqDiff, Nat.reduceAdd, Nat.reduceSub, Nat.reduceMul, Nat.reducePow, Nat.reduceBEq, Int.reduceLE, Int.reduceLT, Int.reduceToNat, Int.reduceEq, Int.reduceNeg, ↓reduceIte, reduceCtorEq]; rfl)
       ·(simp (disch := omega) only [go_sem, i64_of, u32_of, u64_of, Nat.reduceLT, Nat.reduceLeDiff, Nat.reduceEqDiff, Nat.reduceAdd, Nat.reduceSub, Nat.reduceMul, Nat.reducePow, Nat.reduceBEq, Int.reduceLE, Int.reduceLT, Int.reduceToNat, Int.reduceEq, Int.reduceNeg, ↓reduceIte, reduceCtorEq]; rfl)
       ·(simp only [pb, Nat.reduceLT, Nat.reduceAdd, reduceIte]; rfl))
     |(apply RunO.call rfl; · rfl
       ·(simp only [opsOf, valsOf, valOf, lkp, ofConst, ofCell, Array.toList, Option.toList, List.map_cons, List.map_nil, List.cons_append, List.nil_append, List.append_nil, Nat.reduceEqDiff, Nat.reducePow, Nat.reduceLT, Nat.reduceLeDiff, reduceIte, if_true, if_false, IntKind.min, IntKind.max, IntKind.bits, IntKind.signed, Int.reduceLE, Int.reduceNeg, Int.reducePow, Int.reduceSub, and_self, Bool.false_eq_true, Nat.reduceSub]; rfl)
       ·(simp (disch := omega) only [go_sem, i64_of, u32_of, u64_of, Nat.reduceLT, Nat.reduceLeDiff, Nat.reduceEqDiff, Nat.reduceAdd, Nat.reduceSub, Nat.reduceMul, Nat.reducePow, Nat.reduceBEq, Int.reduceLE, Int.reduceLT, Int.reduceToNat, Int.reduceEq, Int.reduceNeg, ↓reduceIte, reduceCtorEq]; rfl)
       ·rfl
       ·(first | exact c7)
       ·(simp (disch := omega) only [go_sem, i64_of, u32_of, u64_of, Nat.reduceLT, Nat.reduceLeDiff, Nat.reduceEqDiff, Nat.reduceAdd, Nat.reduceSub, Nat.reduceMul, Nat.reducePow, Nat.reduceBEq, Int.reduceLE, Int.reduceLT, Int.reduceToNat, Int.reduceEq, Int.reduceNeg, ↓reduceIte, reduceCtorEq]; rfl)
       ·(simp only [pb, Nat.reduceLT, Nat.reduceAdd, reduceIte]; rfl))
     |(apply RunO.skip; · rfl
       ·(simp only [pb, Nat.reduceLT, Nat.reduceAdd, reduceIte]; rfl)))
      exact RunO.nil
     ·repeat (first | exact Keep.nil | (apply Keep.take; · rfl) | (apply Keep.drop; · rfl))
     refine AX.condT ?_
     refine AX.sR (rgAV [2, 3]) ?_
     refine AX.ret ⟨.inl rfl, ?_⟩
     exact Done.cellZ rfl rfl rfl
   ·rw [if_pos h2] at hR
    rw [if_neg (by omega)]
    subst hR
    refine AX.sR (rgAV [0, 2, 5, 9, 10, 11, 41]) ?_
    refine AX.condT ?_
    refine AX.sR (rgAV [2, 3]) ?_
    refine AX.ret ⟨.inl rfl, ?_⟩
    exact Done.cellZ rfl rfl rfl
  ·rw [if_pos h1] at hR
   rw [if_neg (by omega)]
   subst hR
   refine AX.sR (rgAV [0, 2, 10, 30]) ?_
   refine AX.condT ?_
   refine AX.sR (rgAV [2, 3]) ?_
   refine AX.ret ⟨.inl rfl, ?_⟩
   exact Done.cellZ rfl rfl rfl
end Go.Proofs.Ytmhjcmochemndaa
