/- Bytes as values; slices.Reverse of bytes. -/
import Derived.Test.YtmhjcmochemndaaGF
import Derived.Test.YtmhjcmochemndaaGM
import Derived.Test.YtmhjcmochemndaaGO
import Derived.Test.YtmhjcmochemndaaGE
import Derived.Lib.Bytealg
set_option linter.unusedVariables false
set_option linter.unusedSimpArgs false
namespace Go.Proofs.Ytmhjcmochemndaa
open Go Go.Proofs.Ytmhjcmochemndaa.Lift
attribute [local irreducible] Lift.PCall Lift.HCall
def y8 (x : Nat) : V := .i .u8 x
def strN (l : List Nat) : ByteArray := strOf (l.map Int.ofNat)
@[go_sem] theorem getD_y (l : List Nat) (j : Nat) (h : j < l.length) : (l.map y8).getD j .junk = V.i .u8 ((l.getD j 0 : Nat) : Int) := by
 simp [List.getD_eq_getElem?_getD, h, y8]
@[go_sem] theorem cells_y_len (l : List Nat) (j : Nat) : (((l.map y8).getD j .junk).cells).length = 1 := by
 rw [List.getD_eq_getElem?_getD, List.getElem?_map]
 cases l[j]? <;> rfl
theorem flatCells_y (l : List Nat) : flatCells (l.map y8) = l.map y8 := by
 unfold flatCells
 induction l with
 | nil => rfl
 | cons x l ih => simp only [List.map_cons, List.flatMap_cons, ih]; rfl
theorem flat_y (l : List Nat) : (l.map y8).all V.flat = true := by
 rw [List.all_eq_true]
 intro v hv
 obtain ⟨x, _, rfl⟩ := List.mem_map.1 hv
 rfl
theorem hfL_y (l : List Nat) : V.hfL (l.map y8) = true := by
 induction l with
 | nil => rfl
 | cons x l ih => simp only [List.map_cons, V.hfL, ih]; rfl
theorem renL_y (f : Nat → Nat) (l : List Nat) : V.renL f (l.map y8) = l.map y8 := by
 induction l with
 | nil => rfl
 | cons x l ih => simp only [List.map_cons, V.renL, ih]; rfl
theorem ltL_y (n : Nat) (l : List Nat) : V.ltL n (l.map y8) = true := by
 induction l with
 | nil => rfl
 | cons x l ih => simp only [List.map_cons, V.ltL, ih]; rfl
theorem set_y (l : List Nat) (j : Nat) (x : Nat) : (l.map y8).set j (V.i .u8 ((x : Nat) : Int)) = (l.set j x).map y8 := by
 rw [List.map_set]; rfl
theorem replicate_y (n : Nat) : List.replicate n (V.i .u8 0) = (List.replicate n 0).map y8 := by
 rw [List.map_replicate]; rfl
theorem append_y (l : List Nat) (x : Nat) : l.map y8 ++ [V.i .u8 ((x : Nat) : Int)] = (l ++ [x]).map y8 := by simp [y8]
theorem take_y (l : List Nat) (n : Nat) : (l.map y8).take n = (l.take n).map y8 := by rw [List.map_take]
theorem drop_y (l : List Nat) (n : Nat) : (l.map y8).drop n = (l.drop n).map y8 := by rw [List.map_drop]
theorem append_yx (l : List Nat) (x : Nat) : l.map y8 ++ [y8 x] = (l ++ [x]).map y8 := by simp
theorem flat_yx (x : Nat) : V.flat (y8 x) = true := rfl
theorem hf_yx (x : Nat) : V.hf (y8 x) = true := rfl
theorem cells_yx (x : Nat) : V.cells (y8 x) = [y8 x] := rfl
theorem ren_yx (f : Nat → Nat) (x : Nat) : V.ren f (y8 x) = y8 x := rfl
theorem numsOf_y (l : List Nat) : numsOf .u8 (l.map y8) = some (l.map Int.ofNat) := by
 induction l with
 | nil => rfl
 | cons x l ih =>
  show numsOf .u8 (V.i .u8 (x : Int) :: l.map y8) = _
  unfold numsOf
  simp only [ih, if_true]
  rfl
attribute [go_sem] append_yx flat_yx hf_yx cells_yx ren_yx flatCells_y flat_y hfL_y renL_y ltL_y set_y replicate_y append_y take_y drop_y numsOf_y
theorem getD_reverse (l : List Nat) (j : Nat) (h : j < l.length) : l.reverse.getD j 0 = l.getD (l.length - 1 - j) 0 := by
 rw [List.getD_eq_getElem?_getD, List.getElem?_reverse h, ← List.getD_eq_getElem?_getD]
theorem getD_set_swap (l : List Nat) (i k x y j : Nat) (hi : i < l.length) (hk : k < l.length) : ((l.set i x).set k y).getD j 0 = if j = k then y else if j = i then x else l.getD j 0 := by
 simp only [List.getD_eq_getElem?_getD, List.getElem?_set]
 by_cases h1 : j = k
 ·subst h1
  simp [hk]
 ·rw [if_neg (Ne.symm h1), if_neg h1]
  by_cases h2 : j = i
  ·subst h2
   simp [hi]
  ·rw [if_neg (Ne.symm h2), if_neg h2]
theorem reverse_ok (l : List Nat) (hl : l.length < 2 ^ 40) : HCall Try.prog 95 [.own 0 0 l.length 1] ⟨5, l.map y8⟩ ⟨5, l.reverse.map y8⟩ (.tup []) := by
 refine HCall.of_ax Try.call95 Try.func95 rfl (by simp [Try.ntmps95]) fun O M w G => ?_
 simp only [Try.ntmps95, Try.results95, argFr]
 refine AX.sR (rgAV [0, 2, 3]) ?_
 refine AX.block ?_
 refine AX.loop (fun N st => ∃ (i : Nat) (r : List Nat), N = l.length - i ∧ 2 * i ≤ l.length ∧ r.length = l.length ∧ (∀ j, j < l.length → r.getD j 0 = if j < i ∨ l.length - i ≤ j then l.getD (l.length - 1 - j) 0 else l.getD j 0) ∧
  st = ⟨[(3, .i .i64 ((l.length : Int) - 1 - (i : Int))), (2, .i .i64 i), (0, .own 0 0 l.length 1)], [(0, ⟨5, r.map y8⟩)], 1⟩) l.length ⟨0, l, rfl, by omega, rfl, fun j hj => by rw [if_neg (by omega)], by simp⟩ ?_
 rintro N st ⟨i, r, rfl, hi, hr, hg, rfl⟩
 refine AX.seq ?_
 by_cases h : i < l.length - 1 - i
 ·have e : (l.length : Int) - 1 - (i : Int) = ((l.length - 1 - i : Nat) : Int) := by omega
  obtain ⟨k, hk⟩ : ∃ k, k = l.length - 1 - i := ⟨_, rfl⟩
  rw [← hk] at e h
  rw [e]
  refine AX.sR (rgAV [0, 2, 3, 9]) ?_
  refine AX.condT ?_
  refine AX.keepA [0, 2, 3] ?_
  refine AX.skip ?_
  refine nmZ ?_
  refine AX.seq ?_
  refine AX.block ?_
  refine AX.rD (rgDAV [0, 2, 3]) ?_
  refine nmZ ?_
  have e2 : (k : Int) - 1 = (l.length : Int) - 1 - ((i + 1 : Nat) : Int) := by omega
  refine AX.rR (rgWV [0, 2, 3] (aI @lit_add (aI @e2 oT)) oT) ?_
  refine nmZ ?_
  have h1 := hg i (by omega)
  have h2 := hg k (by omega)
  rw [if_neg (by omega)] at h1 h2
  refine ⟨l.length - (i + 1), _, id, by omega,
   ⟨by simp only [renL_y, ltL_y, LeFr, LeHp, lkp, V.ren, V.renL, Row.ren, V.lt, V.ltL, renL_u, ltL_u, List.length_append, List.length_cons, List.length_nil, List.length_set, id_eq, Option.some.injEq, V.i.injEq, V.b.injEq, V.own.injEq, Row.mk.injEq, decide_true, decide_eq_true_eq, true_and, and_true, Bool.and_true, Bool.true_and, if_true, if_false, and_self, Nat.reduceLT, Nat.reduceLeDiff, Nat.reduceEqDiff, Nat.reduceAdd, Nat.reduceSub, Nat.reduceMul, Nat.reducePow, Nat.reduceBEq, Int.reduceLE, Int.reduceLT, Int.reduceToNat, Int.reduceEq, Int.reduceNeg, ↓reduceIte, reduceCtorEq] <;> (first | done | trivial | (and_intros <;> first | trivial | omega | assumption)), by simp only [renL_y, ltL_y, LeFr, LeHp, lkp, V.ren, V.renL, Row.ren, V.lt, V.ltL, renL_u, ltL_u, List.length_append, List.length_cons, List.length_nil, List.length_set, id_eq, Option.some.injEq, V.i.injEq, V.b.injEq, V.own.injEq, Row.mk.injEq, decide_true, decide_eq_true_eq, true_and, and_true, Bool.and_true, Bool.true_and, if_true, if_false, and_self, Nat.reduceLT, Nat.reduceLeDiff, Nat.reduceEqDiff, Nat.reduceAdd, Nat.reduceSub, Nat.reduceMul, Nat.reducePow, Nat.reduceBEq, Int.reduceLE, Int.reduceLT, Int.reduceToNat, Int.reduceEq, Int.reduceNeg, ↓reduceIte, reduceCtorEq] <;> (first | done | trivial | (and_intros <;> first | trivial | omega | assumption)), by simp [Apart], by first | exact Nat.zero_le _ | simp, by intro n hn; first | rfl | exact absurd hn (Nat.not_lt_zero _) | (have h0 : n = 0 := Nat.lt_one_iff.1 hn; subst h0; rfl)⟩
   , ⟨i + 1, (r.set i (r.getD k 0)).set k (r.getD i 0), rfl, by omega, by simp [hr], ?_, rfl⟩⟩
  intro j hj
  rw [getD_set_swap _ _ _ _ _ _ (by omega) (by omega), h1, h2]
  by_cases j1 : j = k
  ·rw [if_pos j1, if_pos (by omega)]
   congr 1
   omega
  ·rw [if_neg j1]
   by_cases j2 : j = i
   ·rw [if_pos j2, if_pos (by omega)]
    congr 1
    omega
   ·rw [if_neg j2, hg j hj]
    by_cases j3 : j < i ∨ l.length - i ≤ j
    ·rw [if_pos j3, if_pos (by omega)]
    ·rw [if_neg j3, if_neg (by omega)]
 ·refine AX.sR (rgAV [0, 2, 3, 9]) ?_
  refine AX.condF ?_
  refine AX.keepA [0, 2, 3] ?_
  refine AX.exit ?_
  refine nmZ ?_
  have hrev : r = l.reverse := by
   refine eq_of_getD (by simp [hr]) fun j hj => ?_
   rw [hg j (by omega), getD_reverse l j (by omega)]
   by_cases j3 : j < i ∨ l.length - i ≤ j
   ·rw [if_pos j3]
   ·rw [if_neg j3]
    congr 1
    omega
  subst hrev
  refine ⟨by simp, [], rfl, rfl, rfl, rfl, rfl, ltL_y _ _, renL_y _ _⟩
end Go.Proofs.Ytmhjcmochemndaa
/- The decimal text of a number. -/
set_option linter.unusedVariables false
set_option linter.unusedSimpArgs false
namespace Go.Proofs.Ytmhjcmochemndaa
open Go Go.Proofs.Ytmhjcmochemndaa.Lift
attribute [local irreducible] Lift.PCall Lift.HCall
def decr (n : Nat) : List Nat := if n = 0 then [] else (48 + n % 10) :: decr (n / 10)
termination_by n
decreasing_by omega
theorem decr_zero : decr 0 = [] := by unfold decr; rfl
theorem decr_pos {n : Nat} (h : n ≠ 0) : decr n = (48 + n % 10) :: decr (n / 10) := by rw [decr, if_neg h]
def decB (n : Nat) : List Nat := if n = 0 then [48] else (decr n).reverse
abbrev txt (n : Nat) : ByteArray := strN (decB n)
theorem decr_len {k : Nat} : ∀ {n : Nat}, n < 10 ^ k → (decr n).length ≤ k := by
 induction k with
 | zero =>
  intro n h
  have : n = 0 := by simpa using h
  subst this; rw [decr_zero]; exact Nat.le_refl _
 | succ k ih =>
  intro n h
  by_cases h0 : n = 0
  ·subst h0; rw [decr_zero]; exact Nat.zero_le _
  ·rw [decr_pos h0, List.length_cons]
   exact Nat.succ_le_succ (ih (by rw [Nat.pow_succ] at h; omega))
theorem decr_digits (n : Nat) : (decr n).length ≤ 10 * (digits n).length := by
 apply decr_len
 refine Nat.lt_of_lt_of_le (lt_pow_digits n) ?_
 rw [Nat.pow_mul]
 exact Nat.pow_le_pow_left (by decide) _
theorem decr_step {q d P : Nat} (h : q * (P * 10) + d ≠ 0) : decr (q * (P * 10) + d) = (48 + d % 10) :: decr (q * P + d / 10) := by
 rw [decr_pos h, ← Nat.mul_assoc]
 congr 2
 ·omega
 ·omega
theorem tmod_ten (n : Nat) : Int.tmod (n : Int) 10 = ((n % 10 : Nat) : Int) := rfl
theorem tdiv_ten (n : Nat) : Int.tdiv (n : Int) 10 = ((n / 10 : Nat) : Int) := rfl
theorem add48 (n : Nat) : (48 : Int) + (n : Int) = ((48 + n : Nat) : Int) := by omega
theorem short_n (m d : Nat) (hm : (digits m).length < 2 ^ 40) (h0 : 0 < d) (hdB : d < 4294967296) : PCall Try.prog 82 [nv m, .i .u32 d] (.tup [nv (m / d), .i .u32 (m % d : Nat)]) [] := by
 have := short_ok (digits m) d (Dg_digits _) hm h0 hdB
 rwa [val_digits] at this
set_option maxHeartbeats 1000000 in
theorem text_ok (a : List Nat) (ha : Dg a) (hl : a.length < 2 ^ 36) : PCall Try.prog 78 [dg a] (.s (txt (val a))) [] := by
 refine PCall.of_ax Try.call78 Try.func78 rfl (by simp [Try.ntmps78]) fun O w => ?_
 simp only [Try.ntmps78, Try.results78, argFr]
 have c1 := ntrim_ok a ha (by omega)
 have hma := digits_length_val ha
 generalize val a = m at *
 have hD := decr_digits m
 generalize hDD : (decr m).length = D at *
 refine AX.sR (rgA [0]) ?_
 refine AX.sR (rgC [0] (aI c1 oT)) ?_
 refine AX.seq ?_
 by_cases h0 : (digits m).length = 0
 ·have hm0 := digits_len_zero.1 h0
  subst hm0
  refine AX.sR (rgA [0, 10]) ?_
  refine AX.condT ?_
  refine AX.sR (rgA [2]) ?_
  refine AX.ret ⟨.inl rfl, ?_⟩
  exact Done.one rfl rfl rfl rfl
 have hm0 : m ≠ 0 := fun e => h0 (digits_len_zero.2 e)
 refine AX.sR (rgA [0, 10]) ?_
 refine AX.condF ?_
 refine AX.keepA [0] ?_
 refine AX.skip ?_
 refine nmZ ?_
 refine AX.sR (rgA [0, 3]) ?_
 refine AX.own0 3 5 1 rfl ?_
 refine AX.keepA [0, 3] ?_
 refine AX.seq ?_
 refine AX.block ?_
 refine AX.loop (fun N st => ∃ acc : List Nat, acc ++ decr N = decr m ∧ (digits N).length < 2 ^ 36 ∧ st = ⟨[(3, .own 0 0 acc.length 1), (0, nv N)], [(0, ⟨5, acc.map y8⟩)], 1⟩) m ⟨[], rfl, by omega, rfl⟩ ?_
 rintro N st ⟨acc, hacc, hN, rfl⟩
 have hlen := congrArg List.length hacc
 rw [List.length_append, hDD] at hlen
 refine AX.seq ?_
 by_cases hN0 : (digits N).length = 0
 ·have := digits_len_zero.1 hN0
  subst this
  rw [decr_zero, List.append_nil] at hacc
  refine AX.sR (rgA [0, 3, 13]) ?_
  refine AX.condF ?_
  refine AX.keepA [3] ?_
  refine AX.exit ?_
  refine nmZ ?_
  have hr := reverse_ok acc (by omega)
  have hne : acc.map y8 ≠ [] := by
   rw [hacc, decr_pos hm0]
   simp
  apply AX.sreg [3] (by simp only [pq]; rfl)
  ·repeat (first
  |(apply RunO.op rfl; · rfl
    ·rfl
    iterate 2 (· (simp (disch := omega) only [go_sem, i64_of, u32_of, u64_of, Nat.reduceLT, Nat.reduceLeDiff, Nat.reduceEqDiff, Nat.reduceAdd, Nat.reduceSub, Nat.reduceMul, Nat.reducePow, Nat.reduceBEq, Int.reduceLE, Int.reduceLT, Int.reduceToNat, Int.reduceEq, Int.reduceNeg, ↓reduceIte, reduceCtorEq]; rfl))
    ·(simp only [pb, Nat.reduceLT, Nat.reduceAdd, reduceIte]; rfl))
  |(apply RunO.hcall (n := 0) rfl; · rfl
    ·rfl
    ·exact hr
    ·first | rfl | (simp only [Row.ren, V.ren, V.renL, renL_u, renL_y]; done) | (simp only [Row.ren, V.ren, V.renL, renL_u, renL_y]; rfl)
    ·first | rfl | (simp only [V.lt, V.ltL, ltL_u, ltL_y]; done) | (simp only [V.lt, V.ltL, ltL_u, ltL_y]; rfl)
    ·rfl
    ·first | (simp only [Row.ren, V.ren, V.renL, renL_u, renL_y]; done) | rfl | (simp only [Row.ren, V.ren, V.renL, renL_u, renL_y]; rfl)
    ·first | (simp only [V.lt, V.ltL, ltL_u, ltL_y]; done) | rfl | (simp only [V.lt, V.ltL, ltL_u, ltL_y]; rfl)
    ·exact hne
    ·first | (simp only [Row.ren, V.ren, V.renL, renL_u, renL_y]; done) | (simp only [Row.ren, V.ren, V.renL, renL_u, renL_y]; rfl) | rfl
    ·first | rfl | (simp only [Row.ren, V.ren, V.renL, renL_u, renL_y]; done) | (simp only [Row.ren, V.ren, V.renL, renL_u, renL_y]; rfl)
    ·(simp only [pb, Nat.reduceLT, Nat.reduceAdd, reduceIte]; rfl))
  |(apply RunO.skip; · rfl
    ·(simp only [pb, Nat.reduceLT, Nat.reduceAdd, reduceIte]; rfl)))
   exact RunO.nil
  ·repeat (first | exact Keep.nil | (apply Keep.take; · rfl) | (apply Keep.drop; · rfl))
  have htk : List.take acc.length acc.reverse = acc.reverse := List.take_of_length_le (by simp)
  apply AX.sreg [2] (by simp only [pq]; rfl)
  ·repeat (first
  |(apply RunO.op rfl; · rfl
    ·rfl
    iterate 2 (· (simp (disch := omega) only [go_sem, i64_of, u32_of, u64_of, Nat.reduceLT, Nat.reduceLeDiff, Nat.reduceEqDiff, Nat.reduceAdd, Nat.reduceSub, Nat.reduceMul, Nat.reducePow, Nat.reduceBEq, Int.reduceLE, Int.reduceLT, Int.reduceToNat, Int.reduceEq, Int.reduceNeg, ↓reduceIte, reduceCtorEq, htk, List.length_reverse]; rfl))
    ·(simp only [pb, Nat.reduceLT, Nat.reduceAdd, reduceIte]; rfl))
  |(apply RunO.skip; · rfl
    ·(simp only [pb, Nat.reduceLT, Nat.reduceAdd, reduceIte]; rfl)))
   exact RunO.nil
  ·repeat (first | exact Keep.nil | (apply Keep.take; · rfl) | (apply Keep.drop; · rfl))
  refine AX.ret ⟨.inl rfl, ?_⟩
  have htx : txt m = strN acc.reverse := by
   show strN (decB m) = _
   unfold decB
   rw [if_neg hm0, ← hacc]
  rw [htx]
  exact Done.one rfl rfl rfl rfl
 ·have hNpos : 0 < N := Nat.pos_of_ne_zero fun e => hN0 (digits_len_zero.2 e)
  refine AX.sR (rgA [0, 3, 13]) ?_
  refine AX.condT ?_
  refine AX.keepA [0, 3] ?_
  refine AX.skip ?_
  refine nmZ ?_
  refine AX.block ?_
  have c2 := short_n N 1000000000 (by omega) (by omega) (by omega)
  have hdm := Nat.div_add_mod N 1000000000
  have hml := Nat.mod_lt N (show 1000000000 > 0 by omega)
  have hql : N / 1000000000 < N := Nat.div_lt_self hNpos (by omega)
  have hqd := digits_len_mono (Nat.le_of_lt hql)
  generalize N / 1000000000 = q at *
  generalize N % 1000000000 = r at *
  refine AX.sR (rgA [0, 3, 4]) ?_
  refine AX.sR (rgC [0, 3, 4] (aI c2 oT)) ?_
  refine AX.sR (rgA [0, 3, 4, 5]) ?_
  refine AX.block ?_
  refine AX.loop (fun M st => ∃ (i d P K : Nat) (acc : List Nat), M = 9 - i ∧ i ≤ 9 ∧ acc.length = K ∧ P = 10 ^ (9 - i) ∧ d < P ∧ acc ++ decr (q * P + d) = decr m ∧ st = ⟨[(5, .i .i64 i), (4, .i .u32 d), (0, nv q), (3, .own 0 0 K 1)], [(0, ⟨5, acc.map y8⟩)], 1⟩) 9
   ⟨0, r, 1000000000, acc.length, acc, rfl, by omega, rfl, rfl, hml, by rw [Nat.mul_comm, hdm]; exact hacc, rfl⟩ ?_
  clear hacc hlen hdm hml acc
  rintro M st ⟨i, d, P, K, acc, rfl, hi, hK, hP, hd, hacc, rfl⟩
  have hlen := congrArg List.length hacc
  rw [List.length_append, hDD] at hlen
  have hP9 : P ≤ 1000000000 := by rw [hP]; exact Nat.pow_le_pow_right (by omega) (show 9 - i ≤ 9 by omega)
  by_cases hgo : i < 9 ∧ (0 < (digits q).length ∨ 0 < d)
  ·obtain ⟨h9, hgo⟩ := hgo
   refine AX.cut (fun st => st = ⟨[(5, .i .i64 i), (4, .i .u32 d), (0, nv q), (3, .own 0 0 K 1)], [(0, ⟨5, acc.map y8⟩)], 1⟩) ?_ ?_
   ·by_cases hq0 : 0 < (digits q).length
    ·refine AX.sR (rgA [0, 3, 4, 5, 29]) ?_
     refine AX.condT ?_
     refine AX.keepA [0, 3, 4, 5] ?_
     refine AX.skip ?_
     refine nmZ ?_
     first | exact trivial | exact ⟨trivial, trivial⟩ | exact ⟨rfl, rfl⟩
    ·have hd0 : 0 < d := hgo.resolve_left hq0
     refine AX.sR (rgA [0, 3, 4, 5, 29]) ?_
     refine AX.condT ?_
     refine AX.keepA [0, 3, 4, 5] ?_
     refine AX.skip ?_
     refine nmZ ?_
     first | exact trivial | exact ⟨trivial, trivial⟩ | exact ⟨rfl, rfl⟩
   rintro st rfl
   obtain ⟨P', hP'⟩ : ∃ P', P' = 10 ^ (9 - (i + 1)) := ⟨_, rfl⟩
   have hPP : P = P' * 10 := by rw [hP, hP', ← Nat.pow_succ]; congr 1; omega
   subst hPP
   have hne : q * (P' * 10) + d ≠ 0 := by
    rcases hgo with h | h
    ·have : 0 < q := Nat.pos_of_ne_zero fun e => by rw [e, digits_zero] at h; exact absurd h (by simp)
     have : 0 < P' := by rw [hP']; exact Nat.pow_pos (by omega)
     have : 0 < q * (P' * 10) := Nat.mul_pos (by omega) (by omega)
     omega
    ·omega
   rw [decr_step hne] at hacc hlen
   rw [List.length_cons] at hlen
   refine AX.seq ?_
   refine AX.block ?_
   refine AX.sR (rgW [0, 3, 4, 5] (aI @tmod_ten (aI @add48 (aI @u8n oT))) oT) ?_
   refine AX.rR (rgW [0, 3, 4, 5] (aI @tdiv_ten oT) oT) ?_
   refine nmZ ?_
   refine AX.rR (rgW [0, 3, 4, 5] (aI @lit_add oT) oT) ?_
   refine nmZ ?_
   refine ⟨9 - (i + 1), _, fun _ => 2, by omega,
    ⟨by simp only [renL_y, ltL_y, LeFr, LeHp, lkp, V.ren, V.renL, Row.ren, V.lt, V.ltL, renL_u, ltL_u, List.length_append, List.length_cons, List.length_nil, List.length_set, id_eq, Option.some.injEq, V.i.injEq, V.b.injEq, V.own.injEq, Row.mk.injEq, decide_true, decide_eq_true_eq, true_and, and_true, Bool.and_true, Bool.true_and, if_true, if_false, and_self, Nat.reduceLT, Nat.reduceLeDiff, Nat.reduceEqDiff, Nat.reduceAdd, Nat.reduceSub, Nat.reduceMul, Nat.reducePow, Nat.reduceBEq, Int.reduceLE, Int.reduceLT, Int.reduceToNat, Int.reduceEq, Int.reduceNeg, ↓reduceIte, reduceCtorEq] <;> (first | done | trivial | (and_intros <;> first | trivial | omega | assumption)), by simp only [renL_y, ltL_y, LeFr, LeHp, lkp, V.ren, V.renL, Row.ren, V.lt, V.ltL, renL_u, ltL_u, List.length_append, List.length_cons, List.length_nil, List.length_set, id_eq, Option.some.injEq, V.i.injEq, V.b.injEq, V.own.injEq, Row.mk.injEq, decide_true, decide_eq_true_eq, true_and, and_true, Bool.and_true, Bool.true_and, if_true, if_false, and_self, Nat.reduceLT, Nat.reduceLeDiff, Nat.reduceEqDiff, Nat.reduceAdd, Nat.reduceSub, Nat.reduceMul, Nat.reducePow, Nat.reduceBEq, Int.reduceLE, Int.reduceLT, Int.reduceToNat, Int.reduceEq, Int.reduceNeg, ↓reduceIte, reduceCtorEq] <;> (first | done | trivial | (and_intros <;> first | trivial | omega | assumption)), by simp [Apart], by first | exact Nat.zero_le _ | simp, by intro n hn; first | rfl | exact absurd hn (Nat.not_lt_zero _) | (have h0 : n = 0 := Nat.lt_one_iff.1 hn; subst h0; rfl)⟩
    , ⟨i + 1, d / 10, P', K + 1, acc ++ [48 + d % 10], rfl, by omega, by simp [hK], hP', by omega, by rw [← hacc]; simp, rfl⟩⟩
  ·refine AX.seq ?_
   have hfin : q * P + d = q := by
    by_cases h9 : i < 9
    ·have h1 : ¬ (0 < (digits q).length ∨ 0 < d) := fun h => hgo ⟨h9, h⟩
     have hq0 : q = 0 := digits_len_zero.1 (by omega)
     rw [hq0]
     omega
    ·have : P = 1 := by rw [hP, show 9 - i = 0 by omega]
     subst this
     omega
   by_cases h9 : i < 9
   ·have h1 : ¬ (0 < (digits q).length ∨ 0 < d) := fun h => hgo ⟨h9, h⟩
    refine AX.sR (rgA [0, 3, 4, 5, 29]) ?_
    refine AX.condF ?_
    refine AX.keepA [0, 3] ?_
    refine AX.exit ?_
    refine nmZ ?_
    subst hK
    refine ⟨q, _, id, hql,
     ⟨by simp only [renL_y, ltL_y, LeFr, LeHp, lkp, V.ren, V.renL, Row.ren, V.lt, V.ltL, renL_u, ltL_u, List.length_append, List.length_cons, List.length_nil, List.length_set, id_eq, Option.some.injEq, V.i.injEq, V.b.injEq, V.own.injEq, Row.mk.injEq, decide_true, decide_eq_true_eq, true_and, and_true, Bool.and_true, Bool.true_and, if_true, if_false, and_self, Nat.reduceLT, Nat.reduceLeDiff, Nat.reduceEqDiff, Nat.reduceAdd, Nat.reduceSub, Nat.reduceMul, Nat.reducePow, Nat.reduceBEq, Int.reduceLE, Int.reduceLT, Int.reduceToNat, Int.reduceEq, Int.reduceNeg, ↓reduceIte, reduceCtorEq] <;> (first | done | trivial | (and_intros <;> first | trivial | omega | assumption)), by simp only [renL_y, ltL_y, LeFr, LeHp, lkp, V.ren, V.renL, Row.ren, V.lt, V.ltL, renL_u, ltL_u, List.length_append, List.length_cons, List.length_nil, List.length_set, id_eq, Option.some.injEq, V.i.injEq, V.b.injEq, V.own.injEq, Row.mk.injEq, decide_true, decide_eq_true_eq, true_and, and_true, Bool.and_true, Bool.true_and, if_true, if_false, and_self, Nat.reduceLT, Nat.reduceLeDiff, Nat.reduceEqDiff, Nat.reduceAdd, Nat.reduceSub, Nat.reduceMul, Nat.reducePow, Nat.reduceBEq, Int.reduceLE, Int.reduceLT, Int.reduceToNat, Int.reduceEq, Int.reduceNeg, ↓reduceIte, reduceCtorEq] <;> (first | done | trivial | (and_intros <;> first | trivial | omega | assumption)), by simp [Apart], by first | exact Nat.zero_le _ | simp, by intro n hn; first | rfl | exact absurd hn (Nat.not_lt_zero _) | (have h0 : n = 0 := Nat.lt_one_iff.1 hn; subst h0; rfl)⟩
     , ⟨acc, by rw [hfin] at hacc; exact hacc, by omega, rfl⟩⟩
   ·refine AX.sR (rgA [0, 3, 4, 5, 29]) ?_
    refine AX.condF ?_
    refine AX.keepA [0, 3] ?_
    refine AX.exit ?_
    refine nmZ ?_
    subst hK
    refine ⟨q, _, id, hql,
     ⟨by simp only [renL_y, ltL_y, LeFr, LeHp, lkp, V.ren, V.renL, Row.ren, V.lt, V.ltL, renL_u, ltL_u, List.length_append, List.length_cons, List.length_nil, List.length_set, id_eq, Option.some.injEq, V.i.injEq, V.b.injEq, V.own.injEq, Row.mk.injEq, decide_true, decide_eq_true_eq, true_and, and_true, Bool.and_true, Bool.true_and, if_true, if_false, and_self, Nat.reduceLT, Nat.reduceLeDiff, Nat.reduceEqDiff, Nat.reduceAdd, Nat.reduceSub, Nat.reduceMul, Nat.reducePow, Nat.reduceBEq, Int.reduceLE, Int.reduceLT, Int.reduceToNat, Int.reduceEq, Int.reduceNeg, ↓reduceIte, reduceCtorEq] <;> (first | done | trivial | (and_intros <;> first | trivial | omega | assumption)), by simp only [renL_y, ltL_y, LeFr, LeHp, lkp, V.ren, V.renL, Row.ren, V.lt, V.ltL, renL_u, ltL_u, List.length_append, List.length_cons, List.length_nil, List.length_set, id_eq, Option.some.injEq, V.i.injEq, V.b.injEq, V.own.injEq, Row.mk.injEq, decide_true, decide_eq_true_eq, true_and, and_true, Bool.and_true, Bool.true_and, if_true, if_false, and_self, Nat.reduceLT, Nat.reduceLeDiff, Nat.reduceEqDiff, Nat.reduceAdd, Nat.reduceSub, Nat.reduceMul, Nat.reducePow, Nat.reduceBEq, Int.reduceLE, Int.reduceLT, Int.reduceToNat, Int.reduceEq, Int.reduceNeg, ↓reduceIte, reduceCtorEq] <;> (first | done | trivial | (and_intros <;> first | trivial | omega | assumption)), by simp [Apart], by first | exact Nat.zero_le _ | simp, by intro n hn; first | rfl | exact absurd hn (Nat.not_lt_zero _) | (have h0 : n = 0 := Nat.lt_one_iff.1 hn; subst h0; rfl)⟩
     , ⟨acc, by rw [hfin] at hacc; exact hacc, by omega, rfl⟩⟩
end Go.Proofs.Ytmhjcmochemndaa
/- Contracts at numbers. -/
set_option linter.unusedVariables false
set_option linter.unusedSimpArgs false
namespace Go.Proofs.Ytmhjcmochemndaa
open Go Go.Proofs.Ytmhjcmochemndaa.Lift
attribute [local irreducible] Lift.PCall Lift.HCall
theorem lenS {n : Nat} (h : n < 18446744073709551616) : (digits n).length ≤ 2 := digits_length_le (by simpa using h)
theorem sub_n (m n : Nat) (hm : (digits m).length < 2 ^ 39) (hn : (digits n).length < 2 ^ 39) : PCall Try.prog 71 [nv m, nv n] (numE (m - n) (if m < n then 1 else 0)) [] := by
 have := sub_ok (digits m) (digits n) (Dg_digits _) (Dg_digits _) hm hn
 rwa [val_digits, val_digits] at this
theorem add_n (m n : Nat) (hm : (digits m).length < 2 ^ 39) (hn : (digits n).length < 2 ^ 39) : PCall Try.prog 70 [nv m, nv n] (nv (m + n)) [] := by
 have := add_ok (digits m) (digits n) (Dg_digits _) (Dg_digits _) hm hn
 rwa [val_digits, val_digits] at this
theorem gcd_n (m n : Nat) (hm : (digits m).length < 2 ^ 36) (hn : (digits n).length < 2 ^ 36) : PCall Try.prog 51 [nv m, nv n] (nv (Nat.gcd m n)) [] := by
 have := gcd_ok (digits m) (digits n) (Dg_digits _) (Dg_digits _) hm hn
 rwa [val_digits, val_digits] at this
theorem text_n (m : Nat) (hm : (digits m).length < 2 ^ 36) : PCall Try.prog 78 [nv m] (.s (txt m)) [] := by
 have := text_ok (digits m) (Dg_digits _) hm
 rwa [val_digits] at this
theorem small_n (m : Nat) (hm : (digits m).length < 2 ^ 40) : PCall Try.prog 60 [nv m] (smallV m) [] := by
 have := small_ok (digits m) (Dg_digits _) hm
 rwa [val_digits] at this
theorem right_digits (n : Nat) : right (digits n) = true := by
 by_cases h : (digits n).length = 0
 ·exact right_0 h
 ·exact right_t (digits_canon n fun e => h (by rw [e]; rfl))
theorem right_n (m : Nat) (hm : (digits m).length < 2 ^ 40) : PCall Try.prog 59 [nv m] (.b true) [] := by
 have := right_ok (digits m) hm
 rwa [right_digits] at this
end Go.Proofs.Ytmhjcmochemndaa
/- Decimal texts and their values: plain facts. -/
set_option linter.unusedVariables false
set_option linter.unusedSimpArgs false
namespace Go.Proofs.Ytmhjcmochemndaa
open Go Go.Proofs.Ytmhjcmochemndaa.Lift
attribute [local irreducible] Lift.PCall Lift.HCall
theorem size_strN (l : List Nat) : (strN l).size = l.length := by
 unfold strN
 rw [strOf_size, List.length_map]
theorem bt_strN {l : List Nat} (h : ∀ x ∈ l, x < 256) (j : Nat) : bt (strN l) j = l.getD j 0 := by
 unfold bt strN strOf
 simp only [List.map_map]
 rw [Array.getD_eq_getD_getElem?, List.getElem?_toArray, List.getElem?_map, List.getD_eq_getElem?_getD]
 cases hj : l[j]? with
 | none => rfl
 | some x =>
  have := h x (List.mem_of_getElem? hj)
  simp [Nat.mod_eq_of_lt this]
def bytesOf (s : ByteArray) : List Nat := s.data.toList.map UInt8.toNat
def bv (l : List Nat) : Nat := l.foldl (fun v x => v * 10 + (x - 48)) 0
theorem bv_append (l : List Nat) (x : Nat) : bv (l ++ [x]) = bv l * 10 + (x - 48) := by
 unfold bv
 rw [List.foldl_append]
 rfl
theorem dv_strN {l : List Nat} (h : ∀ x ∈ l, x < 256) : ∀ p, p ≤ l.length → dv (strN l) p = bv (l.take p) := by
 intro p
 induction p with
 | zero => intro _; rfl
 | succ p ih =>
  intro hp
  rw [take_succ_getD l p (by omega), bv_append, ← ih (by omega), ← bt_strN h]
  rfl
theorem dv_all {l : List Nat} (h : ∀ x ∈ l, x < 256) : dv (strN l) (strN l).size = bv l := by
 rw [size_strN, dv_strN h _ (Nat.le_refl _), List.take_length]
def B10 (l : List Nat) : Prop := ∀ x ∈ l, 48 ≤ x ∧ x ≤ 57
theorem B10.lt {l : List Nat} (h : B10 l) : ∀ x ∈ l, x < 256 := fun x hx => by have := h x hx; omega
theorem decr_dig (n : Nat) : B10 (decr n) := by
 induction n using Nat.strongRecOn with
 | _ n ih =>
  by_cases h : n = 0
  ·subst h; rw [decr_zero]; intro x hx; cases hx
  ·rw [decr_pos h]
   intro x hx
   rcases List.mem_cons.1 hx with rfl | hx
   ·omega
   ·exact ih (n / 10) (by omega) x hx
theorem bv_decr (n : Nat) : bv (decr n).reverse = n := by
 induction n using Nat.strongRecOn with
 | _ n ih =>
  by_cases h : n = 0
  ·subst h; rw [decr_zero]; rfl
  ·rw [decr_pos h, List.reverse_cons, bv_append, ih (n / 10) (by omega)]
   omega
theorem decr_head {n : Nat} : n ≠ 0 → (decr n).reverse.getD 0 0 ≠ 48 := by
 induction n using Nat.strongRecOn with
 | _ n ih =>
  intro h
  rw [decr_pos h, List.reverse_cons]
  by_cases h1 : n / 10 = 0
  ·rw [h1, decr_zero]
   simp
   omega
  ·have h2 := ih (n / 10) (by omega) h1
   have h3 : 0 < (decr (n / 10)).reverse.length := by rw [decr_pos h1]; simp
   rw [List.getD_eq_getElem?_getD, List.getElem?_append_left h3, ← List.getD_eq_getElem?_getD]
   exact h2
theorem decB_dig (n : Nat) : B10 (decB n) := by
 unfold decB
 split
 ·intro x hx
  simp at hx
  omega
 ·intro x hx
  exact decr_dig n x (List.mem_reverse.1 hx)
theorem bv_decB (n : Nat) : bv (decB n) = n := by
 unfold decB
 split
 ·rename_i h; subst h; rfl
 ·exact bv_decr n
theorem decB_head (n : Nat) : ¬ ((decB n).length = 0 ∨ ((decB n).getD 0 0 = 48 ∧ 1 < (decB n).length)) := by
 unfold decB
 split
 ·simp
 ·rename_i h
  rintro (h1 | ⟨h1, _⟩)
  ·rw [decr_pos h] at h1
   simp at h1
  ·exact decr_head h h1
theorem decB_len (n : Nat) : (decB n).length ≤ 10 * (digits n).length + 1 := by
 unfold decB
 split
 ·simp
 ·rw [List.length_reverse]
  have := decr_digits n
  omega
theorem par_txt {n : Nat} (h : (digits n).length ≤ 1000) : parE (txt n) = 0 ∧ parN (txt n) = n := by
 have hl := decB_len n
 have hlt := (decB_dig n).lt
 have hsz := size_strN (decB n)
 have h1 : ¬ ((txt n).size = 0 ∨ (bt (txt n) 0 = 48 ∧ 1 < (txt n).size)) := by
  show ¬ ((strN (decB n)).size = 0 ∨ (bt (strN (decB n)) 0 = 48 ∧ 1 < (strN (decB n)).size))
  rw [hsz, bt_strN hlt]
  exact decB_head n
 have h2 : Dgt (txt n) := by
  intro j hj
  have hj' : j < (decB n).length := by rw [← hsz]; exact hj
  show 48 ≤ bt (strN (decB n)) j ∧ bt (strN (decB n)) j ≤ 57
  rw [bt_strN hlt, List.getD_eq_getElem?_getD, List.getElem?_eq_getElem hj']
  exact decB_dig n _ (List.getElem_mem hj')
 have h3 : ¬ 20000 < (txt n).size := by
  show ¬ 20000 < (strN (decB n)).size
  omega
 obtain ⟨e1, e2⟩ := par_good h1 h2 h3
 refine ⟨e1, e2.trans ?_⟩
 show dv (strN (decB n)) (strN (decB n)).size = n
 rw [dv_all hlt, bv_decB]
theorem parE_val (s : ByteArray) : parE s = 0 ∨ (parE s ≠ 0 ∧ parN s = 0) := by
 by_cases h : parE s = 0
 ·exact .inl h
 ·refine .inr ⟨h, ?_⟩
  unfold parN
  rw [if_neg h]
end Go.Proofs.Ytmhjcmochemndaa
/- strings.CutPrefix by a byte and strings.Cut at a byte. -/
set_option linter.unusedVariables false
set_option linter.unusedSimpArgs false
namespace Go.Proofs.Ytmhjcmochemndaa
open Go Go.Proofs.Ytmhjcmochemndaa.Lift
attribute [local irreducible] Lift.PCall Lift.HCall
theorem sz45 : (((⟨#[45]⟩ : ByteArray).size : Nat) : Int) = 1 := rfl
theorem sz47 : (((⟨#[47]⟩ : ByteArray).size : Nat) : Int) = 1 := rfl
theorem Lift.Done.two {P : Program} {st : St} {t t' : Tmp} {a b : V} (h1 : lkp st.fr t = some a) (h2 : lkp st.fr t' = some b) (h3 : frz [] (.tup [a, b]) st.hp = some (.tup [a, b], st.hp)) (h4 : (V.tup [a, b]).lt 0 = true) (h5 : (V.tup [a, b]).ren id = .tup [a, b]) : Done P #[.tmp t, .tmp t'] (.tup [a, b]) [] st :=
 Done.of (vs := [a, b]) (by simp [resVs, resV, h1, h2]) h3 rfl h4 h5
theorem Lift.Done.three {P : Program} {st : St} {t t' t'' : Tmp} {a b c : V} (h1 : lkp st.fr t = some a) (h2 : lkp st.fr t' = some b) (h2' : lkp st.fr t'' = some c) (h3 : frz [] (.tup [a, b, c]) st.hp = some (.tup [a, b, c], st.hp)) (h4 : (V.tup [a, b, c]).lt 0 = true) (h5 : (V.tup [a, b, c]).ren id = .tup [a, b, c]) : Done P #[.tmp t, .tmp t', .tmp t''] (.tup [a, b, c]) [] st :=
 Done.of (vs := [a, b, c]) (by simp [resVs, resV, h1, h2, h2']) h3 rfl h4 h5
def ixS (s : ByteArray) : Int := Go.Lib.indexByte s.data.toList 47
theorem indexByte_lt (l : List UInt8) (c : UInt8) : Go.Lib.indexByte l c < l.length ∨ Go.Lib.indexByte l c = -1 := by
 induction l with
 | nil => exact .inr rfl
 | cons b l ih =>
  unfold Go.Lib.indexByte
  have hg := Go.Lib.indexByte_ge l c
  split
  ·left; simp only [List.length_cons]; omega
  ·split
   ·exact .inr rfl
   ·rename_i h
    left
    simp only [List.length_cons]
    have : Go.Lib.indexByte l c ≠ -1 := by simpa using h
    omega
theorem ixS_bound (s : ByteArray) : -1 ≤ ixS s ∧ (ixS s < s.size ∨ ixS s = -1) := by
 refine ⟨Go.Lib.indexByte_ge _ _, ?_⟩
 have := indexByte_lt s.data.toList 47
 have e : s.size = s.data.toList.length := by rw [Array.length_toList]; rfl
 rw [e]
 exact this
set_option maxRecDepth 20000 in
set_option maxHeartbeats 4000000 in
theorem ib_ok (s : ByteArray) : PCall Try.prog 99 [.s s, .i .u8 47] (.i .i64 (ixS s)) [] := by
 refine PCall.of_ax Try.call99 Try.func99 rfl (by simp [Try.ntmps99]) fun O w => ?_
 simp only [Try.ntmps99, Try.results99, argFr]
 refine AX.sR (rgA [0, 1]) ?_
 refine AX.seq ?_
 refine AX.ext4 (v1 := .s s) (v2 := .i .u8 47) (r := .i .i64 (ixS s)) rfl rfl rfl rfl rfl rfl rfl rfl rfl rfl rfl rfl rfl rfl rfl rfl rfl (by decide) (by decide) ⟨Nat.le_of_ble_eq_true rfl, Nat.le_of_ble_eq_true rfl, Nat.le_of_ble_eq_true rfl, Nat.le_of_ble_eq_true rfl⟩ ?_ ?_
 ·intro x1 x2 w F env D h1 h2
  cases h1 with
  | s hs =>
   cases h2 with
   | i hk =>
    refine ⟨.int .i64 (ixS s), ?_, ?_⟩
    ·rw [run_callFunc_extern Try.func103 (by rfl) (by rfl) (by rfl) (by rfl : Extern.find _ = some Extern.BytealgIndexByte.indexByte), Go.Lib.run_indexByteString]
     rfl
    ·have hb := ixS_bound s
     refine .i ?_
     simp only [IntKind.min, IntKind.max, IntKind.bits, IntKind.signed]
     constructor
     ·have : (-(2 ^ (64 - 1)) : Int) = -9223372036854775808 := by decide
      simp only [if_true, this]
      omega
     ·have : ((2 ^ (64 - 1)) : Int) = 9223372036854775808 := by decide
      simp only [if_true, this]
      omega
 refine nmZ ?_
 refine AX.ret ⟨.inl rfl, ?_⟩
 exact Done.one rfl rfl rfl rfl
set_option maxRecDepth 20000 in
set_option maxHeartbeats 4000000 in
theorem idx_ok (s : ByteArray) : PCall Try.prog 98 [.s s, .s ⟨#[47]⟩] (.i .i64 (ixS s)) [] := by
 refine PCall.of_ax Try.call98 Try.func98 rfl (by simp [Try.ntmps98]) fun O w => ?_
 simp only [Try.ntmps98, Try.results98, argFr]
 have c1 := ib_ok s
 refine AX.sR (rgA [0, 1]) ?_
 refine AX.sR (rgA [0, 1, 5]) ?_
 refine AX.seq ?_
 refine AX.block ?_
 by_cases h : (⟨#[47]⟩ : ByteArray) = s
 ·have hq := decide_eq_true h
  have e : ixS s = 0 := by subst h; rfl
  rw [e]
  apply AX.sreg [0, 1, 5, 16] (by simp only [pq]; rfl)
  ·repeat (first
  |(apply RunO.op rfl; · rfl
    ·rfl
    ·first | exact effStr hq | (simp (disch := omega) only [go_sem, i64_of, u32_of, u64_of, Nat.reduceLT, Nat.reduceLeDiff, Nat.reduceEqDiff, Nat.reduceAdd, Nat.reduceSub, Nat.reduceMul, Nat.reducePow, Nat.reduceBEq, Int.reduceLE, Int.reduceLT, Int.reduceToNat, Int.reduceEq, Int.reduceNeg, ↓reduceIte, reduceCtorEq]; rfl)
    ·(simp (disch := omega) only [go_sem, i64_of, u32_of, u64_of, Nat.reduceLT, Nat.reduceLeDiff, Nat.reduceEqDiff, Nat.reduceAdd, Nat.reduceSub, Nat.reduceMul, Nat.reducePow, Nat.reduceBEq, Int.reduceLE, Int.reduceLT, Int.reduceToNat, Int.reduceEq, Int.reduceNeg, ↓reduceIte, reduceCtorEq]; rfl)
    ·(simp only [pb, Nat.reduceLT, Nat.reduceAdd, reduceIte]; rfl))
  |(apply RunO.skip; · rfl
    ·(simp only [pb, Nat.reduceLT, Nat.reduceAdd, reduceIte]; rfl)))
   exact RunO.nil
  ·repeat (first | exact Keep.nil | (apply Keep.take; · rfl) | (apply Keep.drop; · rfl))
  refine AX.condT ?_
  refine AX.sR (rgA [4]) ?_
  refine AX.ret ⟨.inl rfl, ?_⟩
  exact Done.one rfl rfl rfl rfl
 ·have hq := decide_eq_false h
  apply AX.sreg [0, 1, 5, 16] (by simp only [pq]; rfl)
  ·repeat (first
  |(apply RunO.op rfl; · rfl
    ·rfl
    ·first | exact effStr hq | (simp (disch := omega) only [go_sem, i64_of, u32_of, u64_of, Nat.reduceLT, Nat.reduceLeDiff, Nat.reduceEqDiff, Nat.reduceAdd, Nat.reduceSub, Nat.reduceMul, Nat.reducePow, Nat.reduceBEq, Int.reduceLE, Int.reduceLT, Int.reduceToNat, Int.reduceEq, Int.reduceNeg, ↓reduceIte, reduceCtorEq]; rfl)
    ·(simp (disch := omega) only [go_sem, i64_of, u32_of, u64_of, Nat.reduceLT, Nat.reduceLeDiff, Nat.reduceEqDiff, Nat.reduceAdd, Nat.reduceSub, Nat.reduceMul, Nat.reducePow, Nat.reduceBEq, Int.reduceLE, Int.reduceLT, Int.reduceToNat, Int.reduceEq, Int.reduceNeg, ↓reduceIte, reduceCtorEq]; rfl)
    ·(simp only [pb, Nat.reduceLT, Nat.reduceAdd, reduceIte]; rfl))
  |(apply RunO.skip; · rfl
    ·(simp only [pb, Nat.reduceLT, Nat.reduceAdd, reduceIte]; rfl)))
   exact RunO.nil
  ·repeat (first | exact Keep.nil | (apply Keep.take; · rfl) | (apply Keep.drop; · rfl))
  refine AX.condF ?_
  refine AX.sR (rgA [0, 1, 5, 24]) ?_
  refine AX.condT ?_
  apply AX.sreg [4] (by simp only [pq]; rfl)
  ·repeat (first
  |(apply RunO.op rfl; · rfl
    ·rfl
    ·first | exact effIx0 (s := ⟨#[47]⟩) (by decide) | (simp (disch := omega) only [go_sem, i64_of, u32_of, u64_of, Nat.reduceLT, Nat.reduceLeDiff, Nat.reduceEqDiff, Nat.reduceAdd, Nat.reduceSub, Nat.reduceMul, Nat.reducePow, Nat.reduceBEq, Int.reduceLE, Int.reduceLT, Int.reduceToNat, Int.reduceEq, Int.reduceNeg, ↓reduceIte, reduceCtorEq]; rfl)
    ·(simp (disch := omega) only [go_sem, i64_of, u32_of, u64_of, Nat.reduceLT, Nat.reduceLeDiff, Nat.reduceEqDiff, Nat.reduceAdd, Nat.reduceSub, Nat.reduceMul, Nat.reducePow, Nat.reduceBEq, Int.reduceLE, Int.reduceLT, Int.reduceToNat, Int.reduceEq, Int.reduceNeg, ↓reduceIte, reduceCtorEq]; rfl)
    ·(simp only [pb, Nat.reduceLT, Nat.reduceAdd, reduceIte]; rfl))
  |(apply RunO.call rfl; · rfl
    ·rfl
    ·(simp (disch := omega) only [go_sem, i64_of, u32_of, u64_of, Nat.reduceLT, Nat.reduceLeDiff, Nat.reduceEqDiff, Nat.reduceAdd, Nat.reduceSub, Nat.reduceMul, Nat.reducePow, Nat.reduceBEq, Int.reduceLE, Int.reduceLT, Int.reduceToNat, Int.reduceEq, Int.reduceNeg, ↓reduceIte, reduceCtorEq]; rfl)
    ·rfl
    ·(first | exact c1)
    ·(simp (disch := omega) only [go_sem, i64_of, u32_of, u64_of, Nat.reduceLT, Nat.reduceLeDiff, Nat.reduceEqDiff, Nat.reduceAdd, Nat.reduceSub, Nat.reduceMul, Nat.reducePow, Nat.reduceBEq, Int.reduceLE, Int.reduceLT, Int.reduceToNat, Int.reduceEq, Int.reduceNeg, ↓reduceIte, reduceCtorEq]; rfl)
    ·(simp only [pb, Nat.reduceLT, Nat.reduceAdd, reduceIte]; rfl))
  |(apply RunO.skip; · rfl
    ·(simp only [pb, Nat.reduceLT, Nat.reduceAdd, reduceIte]; rfl)))
   exact RunO.nil
  ·repeat (first | exact Keep.nil | (apply Keep.take; · rfl) | (apply Keep.drop; · rfl))
  refine AX.ret ⟨.inl rfl, ?_⟩
  exact Done.one rfl rfl rfl rfl
def cutV (s : ByteArray) : V := if ixS s = -1 then .tup [.s s, .s ⟨#[]⟩, .b false] else .tup [.s (s.extract 0 (ixS s).toNat), .s (s.extract ((ixS s).toNat + 1) s.size), .b true]
theorem effSlTo {s : ByteArray} {n : Nat} {x y : Operand} (h : n ≤ s.size) : eff Try.prog (.slice 9 x none (some y) none) [.s s, .i .i64 (n : Int)] = some (.val (.s (s.extract 0 n))) := by
 simp only [eff, effSlice, lowHigh, sliceV, under_str, bound, Option.isSome]
 rw [if_pos ⟨by omega, by omega, by omega⟩]
 rfl
set_option maxRecDepth 20000 in
set_option maxHeartbeats 4000000 in
theorem scut_ok (s : ByteArray) (hs : s.size < 2 ^ 62) : PCall Try.prog 94 [.s s, .s ⟨#[47]⟩] (cutV s) [] := by
 refine PCall.of_ax Try.call94 Try.func94 rfl (by simp [Try.ntmps94]) fun O w => ?_
 simp only [Try.ntmps94, Try.results94, argFr]
 have c1 := idx_ok s
 have hb := ixS_bound s
 unfold cutV
 generalize ixS s = I at *
 refine AX.sR (rgA [0, 1]) ?_
 refine AX.seq ?_
 refine AX.sR (rgC [0, 1, 7] (aI c1 oT)) ?_
 by_cases h : I = -1
 ·subst h
  rw [if_pos rfl]
  refine AX.sR (rgA [0, 1, 7, 12]) ?_
  refine AX.condF ?_
  refine AX.keepA [0, 1, 7] ?_
  refine AX.skip ?_
  refine nmZ ?_
  refine AX.sR (rgA [4, 5, 6]) ?_
  refine AX.ret ⟨.inl rfl, ?_⟩
  exact Done.three rfl rfl rfl rfl rfl rfl
 ·rw [if_neg h]
  obtain ⟨n, rfl⟩ : ∃ n : Nat, I = n := ⟨I.toNat, by omega⟩
  have hn : n < s.size := by omega
  have hn' : n ≤ s.size := by omega
  have hn1 : n + 1 ≤ s.size := by omega
  rw [Int.toNat_natCast]
  refine AX.sR (rgA [0, 1, 7, 12]) ?_
  refine AX.condT ?_
  apply AX.sdreg [4, 5, 6] (by kernel_rfl) (by simp only [pq]; rfl)
  ·repeat (first
  |(apply RunD.op rfl; · rfl
    ·rfl
    ·first | exact effSlTo hn' | exact effSl hn1 | (simp (disch := omega) only [go_sem, i64_of, u32_of, u64_of, Nat.reduceLT, Nat.reduceLeDiff, Nat.reduceEqDiff, Nat.reduceAdd, Nat.reduceSub, Nat.reduceMul, Nat.reducePow, Nat.reduceBEq, Int.reduceLE, Int.reduceLT, Int.reduceToNat, Int.reduceEq, Int.reduceNeg, ↓reduceIte, reduceCtorEq, sz47, lit_add]; rfl)
    ·(simp (disch := omega) only [go_sem, i64_of, u32_of, u64_of, Nat.reduceLT, Nat.reduceLeDiff, Nat.reduceEqDiff, Nat.reduceAdd, Nat.reduceSub, Nat.reduceMul, Nat.reducePow, Nat.reduceBEq, Int.reduceLE, Int.reduceLT, Int.reduceToNat, Int.reduceEq, Int.reduceNeg, ↓reduceIte, reduceCtorEq, sz47, lit_add]; rfl)
    ·(simp only [pb, Nat.reduceLT, Nat.reduceAdd, reduceIte]; rfl)
    ·rfl)
  |(apply RunD.skip; · rfl
    ·(simp only [pb, Nat.reduceLT, Nat.reduceAdd, reduceIte]; rfl)
    ·rfl))
   exact RunD.nil
  ·repeat (first | exact Keep.nil | (apply Keep.take; · rfl) | (apply Keep.drop; · rfl))
  ·kernel_rfl
  refine AX.ret ⟨.inl rfl, ?_⟩
  exact Done.three rfl rfl rfl rfl rfl rfl
set_option maxRecDepth 20000 in
set_option maxHeartbeats 4000000 in
theorem cut_ok (s : ByteArray) (hs : s.size < 2 ^ 62) : PCall Try.prog 75 [.s s, .s ⟨#[47]⟩] (cutV s) [] := by
 refine PCall.of_ax Try.call75 Try.func75 rfl (by simp [Try.ntmps75]) fun O w => ?_
 simp only [Try.ntmps75, Try.results75, argFr]
 have c1 := scut_ok s hs
 unfold cutV at *
 by_cases h : ixS s = -1
 ·rw [if_pos h] at *
  refine AX.sR (rgA [0, 1]) ?_
  refine AX.sR (rgC [4, 5, 6] (aI c1 oT)) ?_
  refine AX.ret ⟨.inl rfl, ?_⟩
  exact Done.three rfl rfl rfl rfl rfl rfl
 ·rw [if_neg h] at *
  refine AX.sR (rgA [0, 1]) ?_
  refine AX.sR (rgC [4, 5, 6] (aI c1 oT)) ?_
  refine AX.ret ⟨.inl rfl, ?_⟩
  exact Done.three rfl rfl rfl rfl rfl rfl
def neg1 (s : ByteArray) : Bool := decide (0 < s.size ∧ bt s 0 = 45)
theorem pre_eq {s : ByteArray} (h : 1 ≤ s.size) : decide (s.extract 0 1 = ⟨#[45]⟩) = neg1 s := by
 unfold neg1
 apply decide_eq_decide.2
 constructor
 ·intro e
  refine ⟨h, ?_⟩
  have := bt_extract (s := s) (p := 0) (q := 1) (j := 0) (by omega) h
  rw [e] at this
  exact this.symm
 ·rintro ⟨_, e⟩
  apply ByteArray.ext
  obtain ⟨⟨l⟩⟩ := s
  cases l with
  | nil => exact absurd h (by decide)
  | cons b l =>
   have e2 : b.toNat = 45 := e
   have e3 : b = 45 := UInt8.toNat_inj.1 e2
   subst e3
   simp [ByteArray.data_extract]
set_option maxRecDepth 20000 in
set_option maxHeartbeats 4000000 in
theorem hasp_ok (s : ByteArray) : PCall Try.prog 97 [.s s, .s ⟨#[45]⟩] (.b (neg1 s)) [] := by
 refine PCall.of_ax Try.call97 Try.func97 rfl (by simp [Try.ntmps97]) fun O w => ?_
 simp only [Try.ntmps97, Try.results97, argFr]
 refine AX.sR (rgA [0, 1]) ?_
 by_cases h : 1 ≤ s.size
 ·have hq := pre_eq h
  have h' : (1 : Int) ≤ (s.size : Int) := by omega
  apply AX.sreg [4] (by simp only [pq]; rfl)
  ·repeat (first
  |(apply RunO.op rfl; · rfl
    ·rfl
    ·first | exact effStr hq | exact effSlTo (n := 1) h | (simp (disch := omega) only [go_sem, i64_of, u32_of, u64_of, Nat.reduceLT, Nat.reduceLeDiff, Nat.reduceEqDiff, Nat.reduceAdd, Nat.reduceSub, Nat.reduceMul, Nat.reducePow, Nat.reduceBEq, Int.reduceLE, Int.reduceLT, Int.reduceToNat, Int.reduceEq, Int.reduceNeg, ↓reduceIte, reduceCtorEq, sz45]; rfl)
    ·(simp (disch := omega) only [go_sem, i64_of, u32_of, u64_of, Nat.reduceLT, Nat.reduceLeDiff, Nat.reduceEqDiff, Nat.reduceAdd, Nat.reduceSub, Nat.reduceMul, Nat.reducePow, Nat.reduceBEq, Int.reduceLE, Int.reduceLT, Int.reduceToNat, Int.reduceEq, Int.reduceNeg, ↓reduceIte, reduceCtorEq, sz45]; rfl)
    ·(simp only [pb, Nat.reduceLT, Nat.reduceAdd, reduceIte]; rfl))
  |(apply RunO.skip; · rfl
    ·(simp only [pb, Nat.reduceLT, Nat.reduceAdd, reduceIte]; rfl)))
   exact RunO.nil
  ·repeat (first | exact Keep.nil | (apply Keep.take; · rfl) | (apply Keep.drop; · rfl))
  refine AX.ret ⟨.inl rfl, ?_⟩
  exact Done.one rfl rfl rfl rfl
 ·have hq : neg1 s = false := decide_eq_false fun ⟨h2, _⟩ => h h2
  have h' : ¬ (1 : Int) ≤ (s.size : Int) := by omega
  rw [hq]
  refine AX.sR (rgW [4] (aI @sz45 oT) oT) ?_
  refine AX.ret ⟨.inl rfl, ?_⟩
  exact Done.one rfl rfl rfl rfl
def restS (s : ByteArray) : ByteArray := if neg1 s = true then s.extract 1 s.size else s
set_option maxRecDepth 20000 in
set_option maxHeartbeats 4000000 in
theorem scutp_ok (s : ByteArray) : PCall Try.prog 93 [.s s, .s ⟨#[45]⟩] (.tup [.s (restS s), .b (neg1 s)]) [] := by
 refine PCall.of_ax Try.call93 Try.func93 rfl (by simp [Try.ntmps93]) fun O w => ?_
 simp only [Try.ntmps93, Try.results93, argFr]
 have c1 := hasp_ok s
 unfold restS
 refine AX.sR (rgA [0, 1]) ?_
 refine AX.seq ?_
 by_cases h : neg1 s = true
 ·have h1 : 1 ≤ s.size := (of_decide_eq_true h).1
  rw [h] at c1 ⊢
  rw [if_pos rfl]
  refine AX.sR (rgC [0, 1, 9] (aI c1 oT)) ?_
  refine AX.condF ?_
  refine AX.keepA [0, 1] ?_
  refine AX.skip ?_
  refine nmZ ?_
  apply AX.sreg [4, 5] (by simp only [pq]; rfl)
  ·repeat (first
  |(apply RunO.op rfl; · rfl
    ·rfl
    ·first | exact effSl (n := 1) h1 | (simp (disch := omega) only [go_sem, i64_of, u32_of, u64_of, Nat.reduceLT, Nat.reduceLeDiff, Nat.reduceEqDiff, Nat.reduceAdd, Nat.reduceSub, Nat.reduceMul, Nat.reducePow, Nat.reduceBEq, Int.reduceLE, Int.reduceLT, Int.reduceToNat, Int.reduceEq, Int.reduceNeg, ↓reduceIte, reduceCtorEq, sz45]; rfl)
    ·(simp (disch := omega) only [go_sem, i64_of, u32_of, u64_of, Nat.reduceLT, Nat.reduceLeDiff, Nat.reduceEqDiff, Nat.reduceAdd, Nat.reduceSub, Nat.reduceMul, Nat.reducePow, Nat.reduceBEq, Int.reduceLE, Int.reduceLT, Int.reduceToNat, Int.reduceEq, Int.reduceNeg, ↓reduceIte, reduceCtorEq, sz45]; rfl)
    ·(simp only [pb, Nat.reduceLT, Nat.reduceAdd, reduceIte]; rfl))
  |(apply RunO.skip; · rfl
    ·(simp only [pb, Nat.reduceLT, Nat.reduceAdd, reduceIte]; rfl)))
   exact RunO.nil
  ·repeat (first | exact Keep.nil | (apply Keep.take; · rfl) | (apply Keep.drop; · rfl))
  refine AX.ret ⟨.inl rfl, ?_⟩
  exact Done.two rfl rfl rfl rfl rfl
 ·rw [if_neg h]
  rw [Bool.not_eq_true] at h
  rw [h] at c1 ⊢
  refine AX.sR (rgC [0, 1, 9] (aI c1 oT)) ?_
  refine AX.condT ?_
  refine AX.sR (rgA [4, 5]) ?_
  refine AX.ret ⟨.inl rfl, ?_⟩
  exact Done.two rfl rfl rfl rfl rfl
set_option maxRecDepth 20000 in
set_option maxHeartbeats 4000000 in
theorem cutp_ok (s : ByteArray) : PCall Try.prog 74 [.s s, .s ⟨#[45]⟩] (.tup [.s (restS s), .b (neg1 s)]) [] := by
 refine PCall.of_ax Try.call74 Try.func74 rfl (by simp [Try.ntmps74]) fun O w => ?_
 simp only [Try.ntmps74, Try.results74, argFr]
 have c1 := scutp_ok s
 refine AX.sR (rgA [0, 1]) ?_
 refine AX.sR (rgC [4, 5] (aI c1 oT)) ?_
 refine AX.ret ⟨.inl rfl, ?_⟩
 exact Done.two rfl rfl rfl rfl rfl
end Go.Proofs.Ytmhjcmochemndaa
