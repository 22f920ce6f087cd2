/- Bytes as values; slices.Reverse of bytes. -/
import Derived.Test.YtlhobedecoeohaaGF
import Derived.Test.YtlhobedecoeohaaGM
import Derived.Test.YtlhobedecoeohaaGO
import Derived.Test.YtlhobedecoeohaaGE
import Derived.Lib.Bytealg
set_option linter.unusedVariables false
set_option linter.unusedSimpArgs false
namespace Go.Proofs.Ytlhobedecoeohaa
open Go Go.Proofs.Ytlhobedecoeohaa.Lift
attribute [local irreducible] Lift.PCall Lift.HCall
def y8 (x : Nat) : V := .i .u8 x
def strN (l : List Nat) : ByteArray := strOf (l.map Int.ofNat)
@[go_sem] theorem getD_y (l : List Nat) (j : Nat) (h : j < l.length) : (l.map y8).getD j .junk = V.i .u8 ((l.getD j 0 : Nat) : Int) := by
 simp [List.getD_eq_getElem?_getD, h, y8]
@[go_sem] theorem cells_y_len (l : List Nat) (j : Nat) : (((l.map y8).getD j .junk).cells).length = 1 := by
 rw [List.getD_eq_getElem?_getD, List.getElem?_map]
 cases l[j]? <;> rfl
theorem flatCells_y (l : List Nat) : flatCells (l.map y8) = l.map y8 := by
 unfold flatCells
 induction l with
 | nil => rfl
 | cons x l ih => simp only [List.map_cons, List.flatMap_cons, ih]; rfl
theorem flat_y (l : List Nat) : (l.map y8).all V.flat = true := by
 rw [List.all_eq_true]
 intro v hv
 obtain ⟨x, _, rfl⟩ := List.mem_map.1 hv
 rfl
theorem hfL_y (l : List Nat) : V.hfL (l.map y8) = true := by
 induction l with
 | nil => rfl
 | cons x l ih => simp only [List.map_cons, V.hfL, ih]; rfl
theorem renL_y (f : Nat → Nat) (l : List Nat) : V.renL f (l.map y8) = l.map y8 := by
 induction l with
 | nil => rfl
 | cons x l ih => simp only [List.map_cons, V.renL, ih]; rfl
theorem ltL_y (n : Nat) (l : List Nat) : V.ltL n (l.map y8) = true := by
 induction l with
 | nil => rfl
 | cons x l ih => simp only [List.map_cons, V.ltL, ih]; rfl
theorem set_y (l : List Nat) (j : Nat) (x : Nat) : (l.map y8).set j (V.i .u8 ((x : Nat) : Int)) = (l.set j x).map y8 := by
 rw [List.map_set]; rfl
theorem replicate_y (n : Nat) : List.replicate n (V.i .u8 0) = (List.replicate n 0).map y8 := by
 rw [List.map_replicate]; rfl
theorem append_y (l : List Nat) (x : Nat) : l.map y8 ++ [V.i .u8 ((x : Nat) : Int)] = (l ++ [x]).map y8 := by simp [y8]
theorem take_y (l : List Nat) (n : Nat) : (l.map y8).take n = (l.take n).map y8 := by rw [List.map_take]
theorem drop_y (l : List Nat) (n : Nat) : (l.map y8).drop n = (l.drop n).map y8 := by rw [List.map_drop]
theorem append_yx (l : List Nat) (x : Nat) : l.map y8 ++ [y8 x] = (l ++ [x]).map y8 := by simp
theorem flat_yx (x : Nat) : V.flat (y8 x) = true := rfl
theorem hf_yx (x : Nat) : V.hf (y8 x) = true := rfl
theorem cells_yx (x : Nat) : V.cells (y8 x) = [y8 x] := rfl
theorem ren_yx (f : Nat → Nat) (x : Nat) : V.ren f (y8 x) = y8 x := rfl
theorem numsOf_y (l : List Nat) : numsOf .u8 (l.map y8) = some (l.map Int.ofNat) := by
 induction l with
 | nil => rfl
 | cons x l ih =>
  show numsOf .u8 (V.i .u8 (x : Int) :: l.map y8) = _
  unfold numsOf
  simp only [ih, if_true]
  rfl
attribute [go_sem] append_yx flat_yx hf_yx cells_yx ren_yx flatCells_y flat_y hfL_y renL_y ltL_y set_y replicate_y append_y take_y drop_y numsOf_y
theorem getD_reverse (l : List Nat) (j : Nat) (h : j < l.length) : l.reverse.getD j 0 = l.getD (l.length - 1 - j) 0 := by
 rw [List.getD_eq_getElem?_getD, List.getElem?_reverse h, ← List.getD_eq_getElem?_getD]
theorem getD_set_swap (l : List Nat) (i k x y j : Nat) (hi : i < l.length) (hk : k < l.length) : ((l.set i x).set k y).getD j 0 = if j = k then y else if j = i then x else l.getD j 0 := by
 simp only [List.getD_eq_getElem?_getD, List.getElem?_set]
 by_cases h1 : j = k
 ·subst h1
  simp [hk]
 ·rw [if_neg (Ne.symm h1), if_neg h1]
  by_cases h2 : j = i
  ·subst h2
   simp [hi]
  ·rw [if_neg (Ne.symm h2), if_neg h2]
theorem reverse_ok (l : List Nat) (hl : l.length < 2 ^ 40) : HCall Try.prog 59 [.own 0 0 l.length 1] ⟨5, l.map y8⟩ ⟨5, l.reverse.map y8⟩ (.tup []) := by
 refine HCall.of_ax Try.call59 Try.func59 rfl (by simp [Try.ntmps59]) fun O M w G => ?_
 simp only [Try.ntmps59, Try.results59, argFr]
 refine AX.sR (rgAV [0, 2, 3]) ?_
 refine AX.block ?_
 refine AX.loop (fun N st => ∃ (i : Nat) (r : List Nat), N = l.length - i ∧ 2 * i ≤ l.length ∧ r.length = l.length ∧ (∀ j, j < l.length → r.getD j 0 = if j < i ∨ l.length - i ≤ j then l.getD (l.length - 1 - j) 0 else l.getD j 0) ∧
  st = ⟨[(3, .i .i64 ((l.length : Int) - 1 - (i : Int))), (2, .i .i64 i), (0, .own 0 0 l.length 1)], [(0, ⟨5, r.map y8⟩)], 1⟩) l.length ⟨0, l, rfl, by omega, rfl, fun j hj => by rw [if_neg (by omega)], by simp⟩ ?_
 rintro N st ⟨i, r, rfl, hi, hr, hg, rfl⟩
 refine AX.seq ?_
 by_cases h : i < l.length - 1 - i
 ·have e : (l.length : Int) - 1 - (i : Int) = ((l.length - 1 - i : Nat) : Int) := by omega
  obtain ⟨k, hk⟩ : ∃ k, k = l.length - 1 - i := ⟨_, rfl⟩
  rw [← hk] at e h
  rw [e]
  refine AX.sR (rgAV [0, 2, 3, 9]) ?_
  refine AX.condT ?_
  refine AX.keepA [0, 2, 3] ?_
  refine AX.skip ?_
  refine nmZ ?_
  refine AX.seq ?_
  refine AX.block ?_
  refine AX.rD (rgDAV [0, 2, 3]) ?_
  refine nmZ ?_
  have e2 : (k : Int) - 1 = (l.length : Int) - 1 - ((i + 1 : Nat) : Int) := by omega
  refine AX.rR (rgWV [0, 2, 3] (aI @lit_add (aI @e2 oT)) oT) ?_
  refine nmZ ?_
  have h1 := hg i (by omega)
  have h2 := hg k (by omega)
  rw [if_neg (by omega)] at h1 h2
  refine ⟨l.length - (i + 1), _, id, by omega,
   ⟨by simp only [renL_y, ltL_y, LeFr, LeHp, lkp, V.ren, V.renL, Row.ren, V.lt, V.ltL, renL_u, ltL_u, List.length_append, List.length_cons, List.length_nil, List.length_set, id_eq, Option.some.injEq, V.i.injEq, V.b.injEq, V.own.injEq, Row.mk.injEq, decide_true, decide_eq_true_eq, true_and, and_true, Bool.and_true, Bool.true_and, if_true, if_false, and_self, Nat.reduceLT, Nat.reduceLeDiff, Nat.reduceEqDiff, Nat.reduceAdd, Nat.reduceSub, Nat.reduceMul, Nat.reducePow, Nat.reduceBEq, Int.reduceLE, Int.reduceLT, Int.reduceToNat, Int.reduceEq, Int.reduceNeg, reduceIte, reduceCtorEq] <;> (first | done | trivial | (and_intros <;> first | trivial | omega | assumption)), by simp only [renL_y, ltL_y, LeFr, LeHp, lkp, V.ren, V.renL, Row.ren, V.lt, V.ltL, renL_u, ltL_u, List.length_append, List.length_cons, List.length_nil, List.length_set, id_eq, Option.some.injEq, V.i.injEq, V.b.injEq, V.own.injEq, Row.mk.injEq, decide_true, decide_eq_true_eq, true_and, and_true, Bool.and_true, Bool.true_and, if_true, if_false, and_self, Nat.reduceLT, Nat.reduceLeDiff, Nat.reduceEqDiff, Nat.reduceAdd, Nat.reduceSub, Nat.reduceMul, Nat.reducePow, Nat.reduceBEq, Int.reduceLE, Int.reduceLT, Int.reduceToNat, Int.reduceEq, Int.reduceNeg, reduceIte, reduceCtorEq] <;> (first | done | trivial | (and_intros <;> first | trivial | omega | assumption)), by simp [Apart], by first | exact Nat.zero_le _ | simp, by intro n hn; first | rfl | exact absurd hn (Nat.not_lt_zero _) | (have h0 : n = 0 := Nat.lt_one_iff.1 hn; subst h0; rfl)⟩
   , ⟨i + 1, (r.set i (r.getD k 0)).set k (r.getD i 0), rfl, by omega, by simp [hr], ?_, rfl⟩⟩
  intro j hj
  rw [getD_set_swap _ _ _ _ _ _ (by omega) (by omega), h1, h2]
  by_cases j1 : j = k
  ·rw [if_pos j1, if_pos (by omega)]
   congr 1
   omega
  ·rw [if_neg j1]
   by_cases j2 : j = i
   ·rw [if_pos j2, if_pos (by omega)]
    congr 1
    omega
   ·rw [if_neg j2, hg j hj]
    by_cases j3 : j < i ∨ l.length - i ≤ j
    ·rw [if_pos j3, if_pos (by omega)]
    ·rw [if_neg j3, if_neg (by omega)]
 ·refine AX.sR (rgAV [0, 2, 3, 9]) ?_
  refine AX.condF ?_
  refine AX.keepA [0, 2, 3] ?_
  refine AX.exit ?_
  refine nmZ ?_
  have hrev : r = l.reverse := by
   refine eq_of_getD (by simp [hr]) fun j hj => ?_
   rw [hg j (by omega), getD_reverse l j (by omega)]
   by_cases j3 : j < i ∨ l.length - i ≤ j
   ·rw [if_pos j3]
   ·rw [if_neg j3]
    congr 1
    omega
  subst hrev
  refine ⟨by simp, [], rfl, rfl, rfl, rfl, rfl, ltL_y _ _, renL_y _ _⟩
end Go.Proofs.Ytlhobedecoeohaa
/- The decimal text of a number. -/
set_option linter.unusedVariables false
set_option linter.unusedSimpArgs false
namespace Go.Proofs.Ytlhobedecoeohaa
open Go Go.Proofs.Ytlhobedecoeohaa.Lift
attribute [local irreducible] Lift.PCall Lift.HCall
def decr (n : Nat) : List Nat := if n = 0 then [] else (48 + n % 10) :: decr (n / 10)
termination_by n
decreasing_by omega
theorem decr_zero : decr 0 = [] := by unfold decr; rfl
theorem decr_pos {n : Nat} (h : n ≠ 0) : decr n = (48 + n % 10) :: decr (n / 10) := by rw [decr, if_neg h]
def decB (n : Nat) : List Nat := if n = 0 then [48] else (decr n).reverse
abbrev txt (n : Nat) : ByteArray := strN (decB n)
theorem decr_len {k : Nat} : ∀ {n : Nat}, n < 10 ^ k → (decr n).length ≤ k := by
 induction k with
 | zero =>
  intro n h
  have : n = 0 := by simpa using h
  subst this; rw [decr_zero]; exact Nat.le_refl _
 | succ k ih =>
  intro n h
  by_cases h0 : n = 0
  ·subst h0; rw [decr_zero]; exact Nat.zero_le _
  ·rw [decr_pos h0, List.length_cons]
   exact Nat.succ_le_succ (ih (by rw [Nat.pow_succ] at h; omega))
theorem decr_digits (n : Nat) : (decr n).length ≤ 10 * (digits n).length := by
 apply decr_len
 refine Nat.lt_of_lt_of_le (lt_pow_digits n) ?_
 rw [Nat.pow_mul]
 exact Nat.pow_le_pow_left (by decide) _
theorem decr_step {q d P : Nat} (h : q * (P * 10) + d ≠ 0) : decr (q * (P * 10) + d) = (48 + d % 10) :: decr (q * P + d / 10) := by
 rw [decr_pos h, ← Nat.mul_assoc]
 congr 2
 ·omega
 ·omega
theorem tmod_ten (n : Nat) : Int.tmod (n : Int) 10 = ((n % 10 : Nat) : Int) := rfl
theorem tdiv_ten (n : Nat) : Int.tdiv (n : Int) 10 = ((n / 10 : Nat) : Int) := rfl
theorem add48 (n : Nat) : (48 : Int) + (n : Int) = ((48 + n : Nat) : Int) := by omega
theorem short_n (m d : Nat) (hm : (digits m).length < 2 ^ 40) (h0 : 0 < d) (hdB : d < 4294967296) : PCall Try.prog 51 [nv m, .i .u32 d] (.tup [nv (m / d), .i .u32 (m % d : Nat)]) [] := by
 have := short_ok (digits m) d (Dg_digits _) hm h0 hdB
 rwa [val_digits] at this
set_option maxHeartbeats 1000000 in
theorem text_ok (a : List Nat) (ha : Dg a) (hl : a.length < 2 ^ 36) : PCall Try.prog 42 [dg a] (.s (txt (val a))) [] := by
 refine PCall.of_ax Try.call42 Try.func42 rfl (by simp [Try.ntmps42]) fun O w => ?_
 simp only [Try.ntmps42, Try.results42, argFr]
 have c1 := ntrim_ok a ha (by omega)
 have hma := digits_length_val ha
 generalize val a = m at *
 have hD := decr_digits m
 generalize hDD : (decr m).length = D at *
 refine AX.sR (rgA [0]) ?_
 refine AX.sR (rgC [0] (aI c1 oT)) ?_
 refine AX.seq ?_
 by_cases h0 : (digits m).length = 0
 ·have hm0 := digits_len_zero.1 h0
  subst hm0
  refine AX.sR (rgA [0, 10]) ?_
  refine AX.condT ?_
  refine AX.sR (rgA [2]) ?_
  refine AX.ret ⟨.inl rfl, ?_⟩
  exact Done.one rfl rfl rfl rfl
 have hm0 : m ≠ 0 := fun e => h0 (digits_len_zero.2 e)
 refine AX.sR (rgA [0, 10]) ?_
 refine AX.condF ?_
 refine AX.keepA [0] ?_
 refine AX.skip ?_
 refine nmZ ?_
 refine AX.sR (rgA [0, 3]) ?_
 refine AX.own0 3 5 1 rfl ?_
 refine AX.keepA [0, 3] ?_
 refine AX.seq ?_
 refine AX.block ?_
 refine AX.loop (fun N st => ∃ acc : List Nat, acc ++ decr N = decr m ∧ (digits N).length < 2 ^ 36 ∧ st = ⟨[(3, .own 0 0 acc.length 1), (0, nv N)], [(0, ⟨5, acc.map y8⟩)], 1⟩) m ⟨[], rfl, by omega, rfl⟩ ?_
 rintro N st ⟨acc, hacc, hN, rfl⟩
 have hlen := congrArg List.length hacc
 rw [List.length_append, hDD] at hlen
 refine AX.seq ?_
 by_cases hN0 : (digits N).length = 0
 ·have := digits_len_zero.1 hN0
  subst this
  rw [decr_zero, List.append_nil] at hacc
  refine AX.sR (rgA [0, 3, 13]) ?_
  refine AX.condF ?_
  refine AX.keepA [3] ?_
  refine AX.exit ?_
  refine nmZ ?_
  have hr := reverse_ok acc (by omega)
  have hne : acc.map y8 ≠ [] := by
   rw [hacc, decr_pos hm0]
   simp
  apply AX.sreg [3] (by simp only [pq]; rfl)
  ·repeat (first
  |(apply RunO.op rfl; · rfl
    ·rfl
    iterate 2 (· (simp (disch := omega) only [go_sem, i64_of, u32_of, u64_of, Nat.reduceLT, Nat.reduceLeDiff, Nat.reduceEqDiff, Nat.reduceAdd, Nat.reduceSub, Nat.reduceMul, Nat.reducePow, Nat.reduceBEq, Int.reduceLE, Int.reduceLT, Int.reduceToNat, Int.reduceEq, Int.reduceNeg, reduceIte, reduceCtorEq]; rfl))
    ·(simp only [pb, Nat.reduceLT, Nat.reduceAdd, reduceIte]; rfl))
  |(apply RunO.hcall (n := 0) rfl; · rfl
    ·rfl
    ·exact hr
    ·first | rfl | (simp only [Row.ren, V.ren, V.renL, renL_u, renL_y]; done) | (simp only [Row.ren, V.ren, V.renL, renL_u, renL_y]; rfl)
    ·first | rfl | (simp only [V.lt, V.ltL, ltL_u, ltL_y]; done) | (simp only [V.lt, V.ltL, ltL_u, ltL_y]; rfl)
    ·rfl
    ·first | (simp only [Row.ren, V.ren, V.renL, renL_u, renL_y]; done) | rfl | (simp only [Row.ren, V.ren, V.renL, renL_u, renL_y]; rfl)
    ·first | (simp only [V.lt, V.ltL, ltL_u, ltL_y]; done) | rfl | (simp only [V.lt, V.ltL, ltL_u, ltL_y]; rfl)
    ·exact hne
    ·first | (simp only [Row.ren, V.ren, V.renL, renL_u, renL_y]; done) | (simp only [Row.ren, V.ren, V.renL, renL_u, renL_y]; rfl) | rfl
    ·first | rfl | (simp only [Row.ren, V.ren, V.renL, renL_u, renL_y]; done) | (simp only [Row.ren, V.ren, V.renL, renL_u, renL_y]; rfl)
    ·(simp only [pb, Nat.reduceLT, Nat.reduceAdd, reduceIte]; rfl))
  |(apply RunO.skip; · rfl
    ·(simp only [pb, Nat.reduceLT, Nat.reduceAdd, reduceIte]; rfl)))
   exact RunO.nil
  ·repeat (first | exact Keep.nil | (apply Keep.take; · rfl) | (apply Keep.drop; · rfl))
  have htk : List.take acc.length acc.reverse = acc.reverse := List.take_of_length_le (by simp)
  apply AX.sreg [2] (by simp only [pq]; rfl)
  ·repeat (first
  |(apply RunO.op rfl; · rfl
    ·rfl
    iterate 2 (· (simp (disch := omega) only [go_sem, i64_of, u32_of, u64_of, Nat.reduceLT, Nat.reduceLeDiff, Nat.reduceEqDiff, Nat.reduceAdd, Nat.reduceSub, Nat.reduceMul, Nat.reducePow, Nat.reduceBEq, Int.reduceLE, Int.reduceLT, Int.reduceToNat, Int.reduceEq, Int.reduceNeg, reduceIte, reduceCtorEq, htk, List.length_reverse]; rfl))
    ·(simp only [pb, Nat.reduceLT, Nat.reduceAdd, reduceIte]; rfl))
  |(apply RunO.skip; · rfl
    ·(simp only [pb, Nat.reduceLT, Nat.reduceAdd, reduceIte]; rfl)))
   exact RunO.nil
  ·repeat (first | exact Keep.nil | (apply Keep.take; · rfl) | (apply Keep.drop; · rfl))
  refine AX.ret ⟨.inl rfl, ?_⟩
  have htx : txt m = strN acc.reverse := by
   show strN (decB m) = _
   unfold decB
   rw [if_neg hm0, ← hacc]
  rw [htx]
  exact Done.one rfl rfl rfl rfl
 ·have hNpos : 0 < N := Nat.pos_of_ne_zero fun e => hN0 (digits_len_zero.2 e)
  refine AX.sR (rgA [0, 3, 13]) ?_
  refine AX.condT ?_
  refine AX.keepA [0, 3] ?_
  refine AX.skip ?_
  refine nmZ ?_
  refine AX.block ?_
  have c2 := short_n N 1000000000 (by omega) (by omega) (by omega)
  have hdm := Nat.div_add_mod N 1000000000
  have hml := Nat.mod_lt N (show 1000000000 > 0 by omega)
  have hql : N / 1000000000 < N := Nat.div_lt_self hNpos (by omega)
  have hqd := digits_len_mono (Nat.le_of_lt hql)
  generalize N / 1000000000 = q at *
  generalize N % 1000000000 = r at *
  refine AX.sR (rgA [0, 3, 4]) ?_
  refine AX.sR (rgC [0, 3, 4] (aI c2 oT)) ?_
  refine AX.sR (rgA [0, 3, 4, 5]) ?_
  refine AX.block ?_
  refine AX.loop (fun M st => ∃ (i d P K : Nat) (acc : List Nat), M = 9 - i ∧ i ≤ 9 ∧ acc.length = K ∧ P = 10 ^ (9 - i) ∧ d < P ∧ acc ++ decr (q * P + d) = decr m ∧ st = ⟨[(5, .i .i64 i), (4, .i .u32 d), (0, nv q), (3, .own 0 0 K 1)], [(0, ⟨5, acc.map y8⟩)], 1⟩) 9
   ⟨0, r, 1000000000, acc.length, acc, rfl, by omega, rfl, rfl, hml, by rw [Nat.mul_comm, hdm]; exact hacc, rfl⟩ ?_
  clear hacc hlen hdm hml acc
  rintro M st ⟨i, d, P, K, acc, rfl, hi, hK, hP, hd, hacc, rfl⟩
  have hlen := congrArg List.length hacc
  rw [List.length_append, hDD] at hlen
  have hP9 : P ≤ 1000000000 := by rw [hP]; exact Nat.pow_le_pow_right (by omega) (show 9 - i ≤ 9 by omega)
  by_cases hgo : i < 9 ∧ (0 < (digits q).length ∨ 0 < d)
  ·obtain ⟨h9, hgo⟩ := hgo
   refine AX.cut (fun st => st = ⟨[(5, .i .i64 i), (4, .i .u32 d), (0, nv q), (3, .own 0 0 K 1)], [(0, ⟨5, acc.map y8⟩)], 1⟩) ?_ ?_
   ·by_cases hq0 : 0 < (digits q).length
    ·refine AX.sR (rgA [0, 3, 4, 5, 29]) ?_
     refine AX.condT ?_
     refine AX.keepA [0, 3, 4, 5] ?_
     refine AX.skip ?_
     refine nmZ ?_
     first | exact trivial | exact ⟨trivial, trivial⟩ | exact ⟨rfl, rfl⟩
    ·have hd0 : 0 < d := hgo.resolve_left hq0
     refine AX.sR (rgA [0, 3, 4, 5, 29]) ?_
     refine AX.condT ?_
     refine AX.keepA [0, 3, 4, 5] ?_
     refine AX.skip ?_
     refine nmZ ?_
     first | exact trivial | exact ⟨trivial, trivial⟩ | exact ⟨rfl, rfl⟩
   rintro st rfl
   obtain ⟨P', hP'⟩ : ∃ P', P' = 10 ^ (9 - (i + 1)) := ⟨_, rfl⟩
   have hPP : P = P' * 10 := by rw [hP, hP', ← Nat.pow_succ]; congr 1; omega
   subst hPP
   have hne : q * (P' * 10) + d ≠ 0 := by
    rcases hgo with h | h
    ·have : 0 < q := Nat.pos_of_ne_zero fun e => by rw [e, digits_zero] at h; exact absurd h (by simp)
     have : 0 < P' := by rw [hP']; exact Nat.pow_pos (by omega)
     have : 0 < q * (P' * 10) := Nat.mul_pos (by omega) (by omega)
     omega
    ·omega
   rw [decr_step hne] at hacc hlen
   rw [List.length_cons] at hlen
   refine AX.seq ?_
   refine AX.block ?_
   refine AX.sR (rgW [0, 3, 4, 5] (aI @tmod_ten (aI @add48 (aI @u8n oT))) oT) ?_
   refine AX.rR (rgW [0, 3, 4, 5] (aI @tdiv_ten oT) oT) ?_
   refine nmZ ?_
   refine AX.rR (rgW [0, 3, 4, 5] (aI @lit_add oT) oT) ?_
   refine nmZ ?_
   refine ⟨9 - (i + 1), _, fun _ => 2, by omega,
    ⟨by simp only [renL_y, ltL_y, LeFr, LeHp, lkp, V.ren, V.renL, Row.ren, V.lt, V.ltL, renL_u, ltL_u, List.length_append, List.length_cons, List.length_nil, List.length_set, id_eq, Option.some.injEq, V.i.injEq, V.b.injEq, V.own.injEq, Row.mk.injEq, decide_true, decide_eq_true_eq, true_and, and_true, Bool.and_true, Bool.true_and, if_true, if_false, and_self, Nat.reduceLT, Nat.reduceLeDiff, Nat.reduceEqDiff, Nat.reduceAdd, Nat.reduceSub, Nat.reduceMul, Nat.reducePow, Nat.reduceBEq, Int.reduceLE, Int.reduceLT, Int.reduceToNat, Int.reduceEq, Int.reduceNeg, reduceIte, reduceCtorEq] <;> (first | done | trivial | (and_intros <;> first | trivial | omega | assumption)), by simp only [renL_y, ltL_y, LeFr, LeHp, lkp, V.ren, V.renL, Row.ren, V.lt, V.ltL, renL_u, ltL_u, List.length_append, List.length_cons, List.length_nil, List.length_set, id_eq, Option.some.injEq, V.i.injEq, V.b.injEq, V.own.injEq, Row.mk.injEq, decide_true, decide_eq_true_eq, true_and, and_true, Bool.and_true, Bool.true_and, if_true, if_false, and_self, Nat.reduceLT, Nat.reduceLeDiff, Nat.reduceEqDiff, Nat.reduceAdd, Nat.reduceSub, Nat.reduceMul, Nat.reducePow, Nat.reduceBEq, Int.reduceLE, Int.reduceLT, Int.reduceToNat, Int.reduceEq, Int.reduceNeg, reduceIte, reduceCtorEq] <;> (first | done | trivial | (and_intros <;> first | trivial | omega | assumption)), by simp [Apart], by first | exact Nat.zero_le _ | simp, by intro n hn; first | rfl | exact absurd hn (Nat.not_lt_zero _) | (have h0 : n = 0 := Nat.lt_one_iff.1 hn; subst h0; rfl)⟩
    , ⟨i + 1, d / 10, P', K + 1, acc ++ [48 + d % 10], rfl, by omega, by simp [hK], hP', by omega, by rw [← hacc]; simp, rfl⟩⟩
  ·refine AX.seq ?_
   have hfin : q * P + d = q := by
    by_cases h9 : i < 9
    ·have h1 : ¬ (0 < (digits q).length ∨ 0 < d) := fun h => hgo ⟨h9, h⟩
     have hq0 : q = 0 := digits_len_zero.1 (by omega)
     rw [hq0]
     omega
    ·have : P = 1 := by rw [hP, show 9 - i = 0 by omega]
     subst this
     omega
   by_cases h9 : i < 9
   ·have h1 : ¬ (0 < (digits q).length ∨ 0 < d) := fun h => hgo ⟨h9, h⟩
    refine AX.sR (rgA [0, 3, 4, 5, 29]) ?_
    refine AX.condF ?_
    refine AX.keepA [0, 3] ?_
    refine AX.exit ?_
    refine nmZ ?_
    subst hK
    refine ⟨q, _, id, hql,
     ⟨by simp only [renL_y, ltL_y, LeFr, LeHp, lkp, V.ren, V.renL, Row.ren, V.lt, V.ltL, renL_u, ltL_u, List.length_append, List.length_cons, List.length_nil, List.length_set, id_eq, Option.some.injEq, V.i.injEq, V.b.injEq, V.own.injEq, Row.mk.injEq, decide_true, decide_eq_true_eq, true_and, and_true, Bool.and_true, Bool.true_and, if_true, if_false, and_self, Nat.reduceLT, Nat.reduceLeDiff, Nat.reduceEqDiff, Nat.reduceAdd, Nat.reduceSub, Nat.reduceMul, Nat.reducePow, Nat.reduceBEq, Int.reduceLE, Int.reduceLT, Int.reduceToNat, Int.reduceEq, Int.reduceNeg, reduceIte, reduceCtorEq] <;> (first | done | trivial | (and_intros <;> first | trivial | omega | assumption)), by simp only [renL_y, ltL_y, LeFr, LeHp, lkp, V.ren, V.renL, Row.ren, V.lt, V.ltL, renL_u, ltL_u, List.length_append, List.length_cons, List.length_nil, List.length_set, id_eq, Option.some.injEq, V.i.injEq, V.b.injEq, V.own.injEq, Row.mk.injEq, decide_true, decide_eq_true_eq, true_and, and_true, Bool.and_true, Bool.true_and, if_true, if_false, and_self, Nat.reduceLT, Nat.reduceLeDiff, Nat.reduceEqDiff, Nat.reduceAdd, Nat.reduceSub, Nat.reduceMul, Nat.reducePow, Nat.reduceBEq, Int.reduceLE, Int.reduceLT, Int.reduceToNat, Int.reduceEq, Int.reduceNeg, reduceIte, reduceCtorEq] <;> (first | done | trivial | (and_intros <;> first | trivial | omega | assumption)), by simp [Apart], by first | exact Nat.zero_le _ | simp, by intro n hn; first | rfl | exact absurd hn (Nat.not_lt_zero _) | (have h0 : n = 0 := Nat.lt_one_iff.1 hn; subst h0; rfl)⟩
     , ⟨acc, by rw [hfin] at hacc; exact hacc, by omega, rfl⟩⟩
   ·refine AX.sR (rgA [0, 3, 4, 5, 29]) ?_
    refine AX.condF ?_
    refine AX.keepA [0, 3] ?_
    refine AX.exit ?_
    refine nmZ ?_
    subst hK
    refine ⟨q, _, id, hql,
     ⟨by simp only [renL_y, ltL_y, LeFr, LeHp, lkp, V.ren, V.renL, Row.ren, V.lt, V.ltL, renL_u, ltL_u, List.length_append, List.length_cons, List.length_nil, List.length_set, id_eq, Option.some.injEq, V.i.injEq, V.b.injEq, V.own.injEq, Row.mk.injEq, decide_true, decide_eq_true_eq, true_and, and_true, Bool.and_true, Bool.true_and, if_true, if_false, and_self, Nat.reduceLT, Nat.reduceLeDiff, Nat.reduceEqDiff, Nat.reduceAdd, Nat.reduceSub, Nat.reduceMul, Nat.reducePow, Nat.reduceBEq, Int.reduceLE, Int.reduceLT, Int.reduceToNat, Int.reduceEq, Int.reduceNeg, reduceIte, reduceCtorEq] <;> (first | done | trivial | (and_intros <;> first | trivial | omega | assumption)), by simp only [renL_y, ltL_y, LeFr, LeHp, lkp, V.ren, V.renL, Row.ren, V.lt, V.ltL, renL_u, ltL_u, List.length_append, List.length_cons, List.length_nil, List.length_set, id_eq, Option.some.injEq, V.i.injEq, V.b.injEq, V.own.injEq, Row.mk.injEq, decide_true, decide_eq_true_eq, true_and, and_true, Bool.and_true, Bool.true_and, if_true, if_false, and_self, Nat.reduceLT, Nat.reduceLeDiff, Nat.reduceEqDiff, Nat.reduceAdd, Nat.reduceSub, Nat.reduceMul, Nat.reducePow, Nat.reduceBEq, Int.reduceLE, Int.reduceLT, Int.reduceToNat, Int.reduceEq, Int.reduceNeg, reduceIte, reduceCtorEq] <;> (first | done | trivial | (and_intros <;> first | trivial | omega | assumption)), by simp [Apart], by first | exact Nat.zero_le _ | simp, by intro n hn; first | rfl | exact absurd hn (Nat.not_lt_zero _) | (have h0 : n = 0 := Nat.lt_one_iff.1 hn; subst h0; rfl)⟩
     , ⟨acc, by rw [hfin] at hacc; exact hacc, by omega, rfl⟩⟩
end Go.Proofs.Ytlhobedecoeohaa
/- Contracts at numbers. -/
set_option linter.unusedVariables false
set_option linter.unusedSimpArgs false
namespace Go.Proofs.Ytlhobedecoeohaa
open Go Go.Proofs.Ytlhobedecoeohaa.Lift
attribute [local irreducible] Lift.PCall Lift.HCall
theorem lenS {n : Nat} (h : n < 18446744073709551616) : (digits n).length ≤ 2 := digits_length_le (by simpa using h)
theorem sub_n (m n : Nat) (hm : (digits m).length < 2 ^ 39) (hn : (digits n).length < 2 ^ 39) : PCall Try.prog 28 [nv m, nv n] (numE (m - n) (if m < n then 1 else 0)) [] := by
 have := sub_ok (digits m) (digits n) (Dg_digits _) (Dg_digits _) hm hn
 rwa [val_digits, val_digits] at this
theorem add_n (m n : Nat) (hm : (digits m).length < 2 ^ 39) (hn : (digits n).length < 2 ^ 39) : PCall Try.prog 30 [nv m, nv n] (nv (m + n)) [] := by
 have := add_ok (digits m) (digits n) (Dg_digits _) (Dg_digits _) hm hn
 rwa [val_digits, val_digits] at this
theorem gcd_n (m n : Nat) (hm : (digits m).length < 2 ^ 36) (hn : (digits n).length < 2 ^ 36) : PCall Try.prog 36 [nv m, nv n] (nv (Nat.gcd m n)) [] := by
 have := gcd_ok (digits m) (digits n) (Dg_digits _) (Dg_digits _) hm hn
 rwa [val_digits, val_digits] at this
theorem text_n (m : Nat) (hm : (digits m).length < 2 ^ 36) : PCall Try.prog 42 [nv m] (.s (txt m)) [] := by
 have := text_ok (digits m) (Dg_digits _) hm
 rwa [val_digits] at this
theorem small_n (m : Nat) (hm : (digits m).length < 2 ^ 40) : PCall Try.prog 17 [nv m] (smallV m) [] := by
 have := small_ok (digits m) (Dg_digits _) hm
 rwa [val_digits] at this
theorem right_digits (n : Nat) : right (digits n) = true := by
 by_cases h : (digits n).length = 0
 ·exact right_0 h
 ·exact right_t (digits_canon n fun e => h (by rw [e]; rfl))
theorem right_n (m : Nat) (hm : (digits m).length < 2 ^ 40) : PCall Try.prog 19 [nv m] (.b true) [] := by
 have := right_ok (digits m) hm
 rwa [right_digits] at this
end Go.Proofs.Ytlhobedecoeohaa
/- Decimal texts and their values: plain facts. -/
set_option linter.unusedVariables false
set_option linter.unusedSimpArgs false
namespace Go.Proofs.Ytlhobedecoeohaa
open Go Go.Proofs.Ytlhobedecoeohaa.Lift
attribute [local irreducible] Lift.PCall Lift.HCall
def bytesOf (s : ByteArray) : List Nat := s.data.toList.map UInt8.toNat
def B10 (l : List Nat) : Prop := ∀ x ∈ l, 48 ≤ x ∧ x ≤ 57
theorem B10.lt {l : List Nat} (h : B10 l) : ∀ x ∈ l, x < 256 := fun x hx => by have := h x hx; omega
end Go.Proofs.Ytlhobedecoeohaa
/- strings.CutPrefix by a byte and strings.Cut at a byte. -/
set_option linter.unusedVariables false
set_option linter.unusedSimpArgs false
namespace Go.Proofs.Ytlhobedecoeohaa
open Go Go.Proofs.Ytlhobedecoeohaa.Lift
attribute [local irreducible] Lift.PCall Lift.HCall
end Go.Proofs.Ytlhobedecoeohaa
