/- Strings as values: bytes, equality, slices; what Parse computes. -/
import Derived.Test.YtmhjcmochemndaaGI
import Derived.ChangeKeysEq
set_option linter.unusedVariables false
set_option linter.unusedSimpArgs false
namespace Go.Proofs.Ytmhjcmochemndaa
open Go Go.Proofs.Ytmhjcmochemndaa.Lift
attribute [local irreducible] Lift.PCall Lift.HCall
theorem under_str : Try.prog.underlying 9 = some .string := by kernel_rfl
def bt (s : ByteArray) (j : Nat) : Nat := (s.data.getD j 0).toNat
theorem effStr {P : Program} {t y' : TypeId} {x y : Operand} {a b : ByteArray} {c : Bool} (h : decide (a = b) = c) : eff P (.binOp .eql t x y y') [.s a, .s b] = some (.val (.b c)) := by
 have : (a.toList == b.toList) = decide (a = b) := by
  rw [ByteArray.toList_eq, ByteArray.toList_eq]
  by_cases e : a = b
  ·subst e
   simp
  ·rw [decide_eq_false e]
   apply beq_false_of_ne
   intro h2
   apply e
   apply ByteArray.ext
   exact Array.toList_inj.1 h2
 subst h
 show some (Eff.val (.b (a.toList == b.toList))) = _
 rw [this]
theorem effIx {s : ByteArray} {x y : Operand} {j : Nat} (hj : j < s.size) : eff Try.prog (.index 9 x y) [.s s, .i .i64 (j : Int)] = some (.val (.i .u8 ((bt s j : Nat) : Int))) := by
 simp only [eff, effIndex, under_str]
 rw [if_pos ⟨Int.natCast_nonneg j, by omega⟩]
 rfl
theorem effIx0 {s : ByteArray} {x y : Operand} (hj : 0 < s.size) : eff Try.prog (.index 9 x y) [.s s, .i .i64 0] = some (.val (.i .u8 ((bt s 0 : Nat) : Int))) := effIx (j := 0) hj
theorem bt_extract {s : ByteArray} {p q j : Nat} (h : p + j < q) (hq : q ≤ s.size) : bt (s.extract p q) j = bt s (p + j) := by
 unfold bt
 rw [ByteArray.data_extract, Array.getD_eq_getD_getElem?, Array.getD_eq_getD_getElem?, Array.getElem?_extract, if_pos]
 have : q ≤ s.data.size := hq
 omega
theorem extract_all (s : ByteArray) : s.extract 0 s.size = s := by
 apply ByteArray.ext
 rw [ByteArray.data_extract]
 have : s.size = s.data.size := rfl
 rw [this, Array.extract_size]
theorem extract_extract {s : ByteArray} {p n : Nat} (h : p + n ≤ s.size) : (s.extract p s.size).extract n (s.size - p) = s.extract (p + n) s.size := by
 apply ByteArray.ext
 simp only [ByteArray.data_extract, Array.extract_extract]
 congr 1
 omega
theorem size_ext {s : ByteArray} {p : Nat} : (s.extract p s.size).size = s.size - p := by simp [ByteArray.size_extract]
theorem size_zero {s : ByteArray} : s = ⟨#[]⟩ ↔ s.size = 0 := by
 constructor
 ·rintro rfl; rfl
 ·intro h
  apply ByteArray.ext
  exact Array.eq_empty_of_size_eq_zero h
def dv (s : ByteArray) : Nat → Nat
 | 0 => 0
 | p + 1 => dv s p * 10 + (bt s p - 48)
def Dgt (s : ByteArray) : Prop := ∀ j, j < s.size → 48 ≤ bt s j ∧ bt s j ≤ 57
open Classical in
noncomputable def parE (s : ByteArray) : Int := if s.size = 0 ∨ (bt s 0 = 48 ∧ 1 < s.size) then 33 else if ¬ Dgt s then 33 else if 20000 < s.size then 2 else 0
open Classical in
noncomputable def parN (s : ByteArray) : Nat := if parE s = 0 then dv s s.size else 0
theorem par_head {s : ByteArray} (h : s.size = 0 ∨ (bt s 0 = 48 ∧ 1 < s.size)) : parE s = 33 ∧ parN s = 0 := by
 have : parE s = 33 := if_pos h
 exact ⟨this, by unfold parN; rw [this]; rfl⟩
theorem par_bad {s : ByteArray} (h : ¬ Dgt s) : parE s = 33 ∧ parN s = 0 := by
 have : parE s = 33 := by
  unfold parE
  split
  ·rfl
  ·rfl
 exact ⟨this, by unfold parN; rw [this]; rfl⟩
theorem par_long {s : ByteArray} (h0 : ¬ (s.size = 0 ∨ (bt s 0 = 48 ∧ 1 < s.size))) (h : Dgt s) (hl : 20000 < s.size) : parE s = 2 ∧ parN s = 0 := by
 have : parE s = 2 := by
  unfold parE
  rw [if_neg h0, if_neg (not_not_intro h), if_pos hl]
 exact ⟨this, by unfold parN; rw [this]; rfl⟩
theorem par_good {s : ByteArray} (h0 : ¬ (s.size = 0 ∨ (bt s 0 = 48 ∧ 1 < s.size))) (h : Dgt s) (hl : ¬ 20000 < s.size) : parE s = 0 ∧ parN s = dv s s.size := by
 have : parE s = 0 := by
  unfold parE
  rw [if_neg h0, if_neg (not_not_intro h), if_neg hl]
 exact ⟨this, by unfold parN; rw [this]; rfl⟩
theorem dv_lt {s : ByteArray} (h : Dgt s) : ∀ p, p ≤ s.size → dv s p < 10 ^ p := by
 intro p
 induction p with
 | zero => intro _; exact Nat.one_pos
 | succ p ih =>
  intro hp
  have h1 := ih (by omega)
  have h2 := h p (by omega)
  show dv s p * 10 + (bt s p - 48) < _
  rw [Nat.pow_succ]
  omega
theorem dv_lenK {s : ByteArray} (h : Dgt s) {K : Nat} (hs : s.size ≤ K) {p : Nat} (hp : p ≤ s.size) : (digits (dv s p)).length ≤ K := by
 apply digits_length_le
 have h1 := dv_lt h p hp
 have h2 : 10 ^ p ≤ 10 ^ K := Nat.pow_le_pow_right (by omega) (by omega)
 have h3 : (10 : Nat) ^ K ≤ 4294967296 ^ K := Nat.pow_le_pow_left (by omega) _
 omega
theorem dv_len {s : ByteArray} (h : Dgt s) (hs : s.size ≤ 20000) {p : Nat} (hp : p ≤ s.size) : (digits (dv s p)).length ≤ 20000 := dv_lenK h hs hp
theorem digits_of {l : List Nat} (h : Dg l) (h0 : l = [] ∨ 4294967296 ^ (l.length - 1) ≤ val l) : l = digits (val l) := by
 refine canon_unique _ _ h (Dg_digits _) (fun hne => ?_) (digits_canon _) (by rw [val_digits])
 have hl := List.length_pos_iff.2 hne
 have h1 := h0.resolve_left hne
 intro hz
 have e1 := val_take_drop l (l.length - 1) (by omega)
 have e2 := val_drop_step l (l.length - 1) (by omega)
 rw [show l.length - 1 + 1 = l.length by omega, List.drop_length, hz] at e2
 have e3 := val_lt (Dg_take h (l.length - 1))
 rw [List.length_take, Nat.min_eq_left (by omega)] at e3
 rw [e2] at e1
 simp [val] at e1
 omega
end Go.Proofs.Ytmhjcmochemndaa
/- Parse. -/
set_option linter.unusedVariables false
set_option linter.unusedSimpArgs false
namespace Go.Proofs.Ytmhjcmochemndaa
open Go Go.Proofs.Ytmhjcmochemndaa.Lift
attribute [local irreducible] Lift.PCall Lift.HCall
theorem min9 (c : Nat) : (if (9 : Int) < (c : Int) then (9 : Int) else (c : Int)) = ((min c 9 : Nat) : Int) := by
 split <;> omega
theorem mul10 (n : Nat) : (n : Int) * 10 = ((n * 10 : Nat) : Int) := by omega
theorem Lift.Done.ownE {P : Program} {st : St} {t t' : Tmp} {h len : Nat} {l r : List Nat} {T : TypeId} {e : Int} (h1 : lkp st.fr t = some (.own h 0 len 1)) (h1' : lkp st.fr t' = some (.i .i64 e)) (h2 : lkp st.hp h = some ⟨T, l.map u⟩) (h3 : len = l.length) (h4 : l = r) : Done P #[.tmp t, .tmp t'] (.tup [dg r, .i .i64 e]) [] st := by
 subst h4
 refine Done.of (vs := [.own h 0 len 1, .i .i64 e]) (by simp only [resVs, resV, h1, h1']) (by have hf := frz_u (keep := []) (by simp) h2 h3; simp only [packV]; rw [frz, frzL, hf]; simp only [frzL, frz]; rfl) rfl (by simp only [V.lt, V.ltL, ltL_u]; rfl) (by simp only [V.ren, V.renL, renL_u])
theorem carry_step {X X' P c S x T by' add : Nat} (h : X + P * c = T * by' + add) (hX : X' = X + P * (S % 4294967296)) (hS : S = c + x * by') : X' + P * 4294967296 * (S / 4294967296) = (T + P * x) * by' + add := by
 have e1 : P * S = P * (4294967296 * (S / 4294967296)) + P * (S % 4294967296) := by rw [← Nat.mul_add, Nat.div_add_mod]
 have e2 : P * S = P * c + P * (x * by') := by rw [hS, Nat.mul_add]
 have e3 : P * 4294967296 * (S / 4294967296) = P * (4294967296 * (S / 4294967296)) := Nat.mul_assoc _ _ _
 have e4 : (T + P * x) * by' = T * by' + P * (x * by') := by rw [Nat.add_mul, Nat.mul_assoc]
 omega
theorem carry_lt {x by' c : Nat} (hx : x < 4294967296) (hc : c < by') : (c + x * by') / 4294967296 < by' := by
 rw [Nat.div_lt_iff_lt_mul (by omega)]
 have : (x + 1) * by' ≤ 4294967296 * by' := Nat.mul_le_mul_right _ hx
 rw [Nat.add_mul, Nat.one_mul] at this
 rw [Nat.mul_comm by']
 omega
theorem u8sub {b : Nat} (h1 : 48 ≤ b) (h2 : b ≤ 57) : IntKind.u8.wrap ((b : Int) - 48) = ((b - 48 : Nat) : Int) := by
 have e : (b : Int) - 48 = ((b - 48 : Nat) : Int) := by omega
 rw [e, u8n _ (by omega)]
theorem effSl {s : ByteArray} {n : Nat} {x y : Operand} (h : n ≤ s.size) : eff Try.prog (.slice 9 x (some y) none none) [.s s, .i .i64 (n : Int)] = some (.val (.s (s.extract n s.size))) := by
 simp only [eff, effSlice, lowHigh, sliceV, under_str, bound, Option.isSome]
 rw [if_pos ⟨by omega, by omega, by omega⟩]
 rfl
set_option maxRecDepth 20000 in
set_option maxHeartbeats 4000000 in
theorem parse_ok (s : ByteArray) (hs : s.size < 2 ^ 62) : PCall Try.prog 76 [.s s] (numE (parN s) (parE s)) [] := by
 refine PCall.of_ax Try.call76 Try.func76 rfl (by simp [Try.ntmps76]) fun O w => ?_
 simp only [Try.ntmps76, Try.results76, argFr]
 refine AX.sR (rgA [0]) ?_
 by_cases hh : s.size = 0 ∨ (bt s 0 = 48 ∧ 1 < s.size)
 ·obtain ⟨e1, e2⟩ := par_head hh
  rw [e1, e2]
  refine AX.seq ?_
  by_cases h0 : s.size = 0
  ·have hq : decide (s = ⟨#[]⟩) = true := decide_eq_true (size_zero.2 h0)
   apply AX.sreg [0, 23] (by simp only [pq]; rfl)
   ·repeat (first
   |(apply RunO.op rfl; · rfl
     ·rfl
     ·first | exact effStr hq | (simp (disch := omega) only [go_sem, i64_of, u32_of, u64_of, Nat.reduceLT, Nat.reduceLeDiff, Nat.reduceEqDiff, Nat.reduceAdd, Nat.reduceSub, Nat.reduceMul, Nat.reducePow, Nat.reduceBEq, Int.reduceLE, Int.reduceLT, Int.reduceToNat, Int.reduceEq, Int.reduceNeg, ↓reduceIte, reduceCtorEq]; rfl)
     ·(simp (disch := omega) only [go_sem, i64_of, u32_of, u64_of, Nat.reduceLT, Nat.reduceLeDiff, Nat.reduceEqDiff, Nat.reduceAdd, Nat.reduceSub, Nat.reduceMul, Nat.reducePow, Nat.reduceBEq, Int.reduceLE, Int.reduceLT, Int.reduceToNat, Int.reduceEq, Int.reduceNeg, ↓reduceIte, reduceCtorEq]; rfl)
     ·(simp only [pb, Nat.reduceLT, Nat.reduceAdd, reduceIte]; rfl))
   |(apply RunO.skip; · rfl
     ·(simp only [pb, Nat.reduceLT, Nat.reduceAdd, reduceIte]; rfl)))
    exact RunO.nil
   ·repeat (first | exact Keep.nil | (apply Keep.take; · rfl) | (apply Keep.drop; · rfl))
   refine AX.condT ?_
   refine AX.sR (rgA [2, 3]) ?_
   refine AX.ret ⟨.inl rfl, ?_⟩
   exact Done.nil_ne rfl rfl
  ·have hq : decide (s = ⟨#[]⟩) = false := decide_eq_false fun e => h0 (size_zero.1 e)
   obtain ⟨h1, h2⟩ := hh.resolve_left h0
   apply AX.sreg [0, 23] (by simp only [pq]; rfl)
   ·repeat (first
   |(apply RunO.op rfl; · rfl
     ·rfl
     ·first | exact effStr hq | exact effIx0 (Nat.pos_of_ne_zero h0) | (simp (disch := omega) only [go_sem, i64_of, u32_of, u64_of, Nat.reduceLT, Nat.reduceLeDiff, Nat.reduceEqDiff, Nat.reduceAdd, Nat.reduceSub, Nat.reduceMul, Nat.reducePow, Nat.reduceBEq, Int.reduceLE, Int.reduceLT, Int.reduceToNat, Int.reduceEq, Int.reduceNeg, ↓reduceIte, reduceCtorEq, h1]; rfl)
     ·(simp (disch := omega) only [go_sem, i64_of, u32_of, u64_of, Nat.reduceLT, Nat.reduceLeDiff, Nat.reduceEqDiff, Nat.reduceAdd, Nat.reduceSub, Nat.reduceMul, Nat.reducePow, Nat.reduceBEq, Int.reduceLE, Int.reduceLT, Int.reduceToNat, Int.reduceEq, Int.reduceNeg, ↓reduceIte, reduceCtorEq, h1]; rfl)
     ·(simp only [pb, Nat.reduceLT, Nat.reduceAdd, reduceIte]; rfl))
   |(apply RunO.skip; · rfl
     ·(simp only [pb, Nat.reduceLT, Nat.reduceAdd, reduceIte]; rfl)))
    exact RunO.nil
   ·repeat (first | exact Keep.nil | (apply Keep.take; · rfl) | (apply Keep.drop; · rfl))
   refine AX.condT ?_
   refine AX.sR (rgA [2, 3]) ?_
   refine AX.ret ⟨.inl rfl, ?_⟩
   exact Done.nil_ne rfl rfl
 have h0 : s.size ≠ 0 := fun e => hh (.inl e)
 have hq : decide (s = ⟨#[]⟩) = false := decide_eq_false fun e => h0 (size_zero.1 e)
 refine AX.cut (fun st => st = ⟨[(0, .s s)], [], 0⟩) ?_ ?_
 ·by_cases h48 : bt s 0 = 48
  ·have h1 : ¬ 1 < s.size := fun h => hh (.inr ⟨h48, h⟩)
   apply AX.sreg [0, 23] (by simp only [pq]; rfl)
   ·repeat (first
   |(apply RunO.op rfl; · rfl
     ·rfl
     ·first | exact effStr hq | exact effIx0 (Nat.pos_of_ne_zero h0) | (simp (disch := omega) only [go_sem, i64_of, u32_of, u64_of, Nat.reduceLT, Nat.reduceLeDiff, Nat.reduceEqDiff, Nat.reduceAdd, Nat.reduceSub, Nat.reduceMul, Nat.reducePow, Nat.reduceBEq, Int.reduceLE, Int.reduceLT, Int.reduceToNat, Int.reduceEq, Int.reduceNeg, ↓reduceIte, reduceCtorEq, h48]; rfl)
     ·(simp (disch := omega) only [go_sem, i64_of, u32_of, u64_of, Nat.reduceLT, Nat.reduceLeDiff, Nat.reduceEqDiff, Nat.reduceAdd, Nat.reduceSub, Nat.reduceMul, Nat.reducePow, Nat.reduceBEq, Int.reduceLE, Int.reduceLT, Int.reduceToNat, Int.reduceEq, Int.reduceNeg, ↓reduceIte, reduceCtorEq, h48]; rfl)
     ·(simp only [pb, Nat.reduceLT, Nat.reduceAdd, reduceIte]; rfl))
   |(apply RunO.skip; · rfl
     ·(simp only [pb, Nat.reduceLT, Nat.reduceAdd, reduceIte]; rfl)))
    exact RunO.nil
   ·repeat (first | exact Keep.nil | (apply Keep.take; · rfl) | (apply Keep.drop; · rfl))
   refine AX.condF ?_
   refine AX.keepA [0] ?_
   refine AX.skip ?_
   refine nmZ ?_
   first | exact trivial | exact ⟨trivial, trivial⟩ | exact ⟨rfl, rfl⟩
  ·apply AX.sreg [0, 23] (by simp only [pq]; rfl)
   ·repeat (first
   |(apply RunO.op rfl; · rfl
     ·rfl
     ·first | exact effStr hq | exact effIx0 (Nat.pos_of_ne_zero h0) | (simp (disch := omega) only [go_sem, i64_of, u32_of, u64_of, Nat.reduceLT, Nat.reduceLeDiff, Nat.reduceEqDiff, Nat.reduceAdd, Nat.reduceSub, Nat.reduceMul, Nat.reducePow, Nat.reduceBEq, Int.reduceLE, Int.reduceLT, Int.reduceToNat, Int.reduceEq, Int.reduceNeg, ↓reduceIte, reduceCtorEq]; rfl)
     ·(simp (disch := omega) only [go_sem, i64_of, u32_of, u64_of, Nat.reduceLT, Nat.reduceLeDiff, Nat.reduceEqDiff, Nat.reduceAdd, Nat.reduceSub, Nat.reduceMul, Nat.reducePow, Nat.reduceBEq, Int.reduceLE, Int.reduceLT, Int.reduceToNat, Int.reduceEq, Int.reduceNeg, ↓reduceIte, reduceCtorEq]; rfl)
     ·(simp only [pb, Nat.reduceLT, Nat.reduceAdd, reduceIte]; rfl))
   |(apply RunO.skip; · rfl
     ·(simp only [pb, Nat.reduceLT, Nat.reduceAdd, reduceIte]; rfl)))
    exact RunO.nil
   ·repeat (first | exact Keep.nil | (apply Keep.take; · rfl) | (apply Keep.drop; · rfl))
   refine AX.condF ?_
   refine AX.keepA [0] ?_
   refine AX.skip ?_
   refine nmZ ?_
   first | exact trivial | exact ⟨trivial, trivial⟩ | exact ⟨rfl, rfl⟩
 rintro st rfl
 refine AX.seq ?_
 refine AX.sR (rgA [0, 25, 26]) ?_
 refine AX.block ?_
 refine AX.loop (fun N st => ∃ i : Nat, N = s.size - i ∧ i ≤ s.size ∧ (∀ j, j < i → 48 ≤ bt s j ∧ bt s j ≤ 57) ∧ st = ⟨[(26, .i .i64 i), (25, .i .i64 s.size), (0, .s s)], [], 0⟩) s.size ⟨0, rfl, by omega, fun j hj => absurd hj (Nat.not_lt_zero j), rfl⟩ ?_
 rintro N st ⟨i, rfl, hi, hdg, rfl⟩
 by_cases h : i < s.size
 ·refine AX.sR (rgA [0, 25, 26, 27]) ?_
  refine AX.seq ?_
  refine AX.condT ?_
  refine AX.keepA [0, 25, 26] ?_
  refine AX.skip ?_
  refine nmZ ?_
  refine AX.seq ?_
  refine AX.block ?_
  refine AX.sR (rgA [0, 4, 25, 26]) ?_
  by_cases hd : 48 ≤ bt s i ∧ bt s i ≤ 57
  ·apply AX.sreg [0, 25, 26, 38] (by simp only [pq]; rfl)
   ·repeat (first
   |(apply RunO.op rfl; · rfl
     ·rfl
     ·first | exact effIx h | (simp (disch := omega) only [go_sem, i64_of, u32_of, u64_of, Nat.reduceLT, Nat.reduceLeDiff, Nat.reduceEqDiff, Nat.reduceAdd, Nat.reduceSub, Nat.reduceMul, Nat.reducePow, Nat.reduceBEq, Int.reduceLE, Int.reduceLT, Int.reduceToNat, Int.reduceEq, Int.reduceNeg, ↓reduceIte, reduceCtorEq]; rfl)
     ·(simp (disch := omega) only [go_sem, i64_of, u32_of, u64_of, Nat.reduceLT, Nat.reduceLeDiff, Nat.reduceEqDiff, Nat.reduceAdd, Nat.reduceSub, Nat.reduceMul, Nat.reducePow, Nat.reduceBEq, Int.reduceLE, Int.reduceLT, Int.reduceToNat, Int.reduceEq, Int.reduceNeg, ↓reduceIte, reduceCtorEq]; rfl)
     ·(simp only [pb, Nat.reduceLT, Nat.reduceAdd, reduceIte]; rfl))
   |(apply RunO.skip; · rfl
     ·(simp only [pb, Nat.reduceLT, Nat.reduceAdd, reduceIte]; rfl)))
    exact RunO.nil
   ·repeat (first | exact Keep.nil | (apply Keep.take; · rfl) | (apply Keep.drop; · rfl))
   refine AX.condF ?_
   refine AX.keepA [0, 25, 26] ?_
   refine AX.skip ?_
   refine nmZ ?_
   refine AX.rR (rgW [0, 25, 26] (aI @lit_add oT) oT) ?_
   refine nmZ ?_
   refine ⟨s.size - (i + 1), _, id, by omega,
    leA
    , ⟨i + 1, rfl, by omega, ?_, rfl⟩⟩
   intro j hj
   by_cases e : j = i
   ·rw [e]; exact hd
   ·exact hdg j (by omega)
  ·obtain ⟨e1, e2⟩ := par_bad (s := s) (fun h2 => hd (h2 i h))
   rw [e1, e2]
   by_cases hlo : bt s i < 48
   ·apply AX.sreg [0, 25, 26, 38] (by simp only [pq]; rfl)
    ·repeat (first
    |(apply RunO.op rfl; · rfl
      ·rfl
      ·first | exact effIx h | (simp (disch := omega) only [go_sem, i64_of, u32_of, u64_of, Nat.reduceLT, Nat.reduceLeDiff, Nat.reduceEqDiff, Nat.reduceAdd, Nat.reduceSub, Nat.reduceMul, Nat.reducePow, Nat.reduceBEq, Int.reduceLE, Int.reduceLT, Int.reduceToNat, Int.reduceEq, Int.reduceNeg, ↓reduceIte, reduceCtorEq]; rfl)
      ·(simp (disch := omega) only [go_sem, i64_of, u32_of, u64_of, Nat.reduceLT, Nat.reduceLeDiff, Nat.reduceEqDiff, Nat.reduceAdd, Nat.reduceSub, Nat.reduceMul, Nat.reducePow, Nat.reduceBEq, Int.reduceLE, Int.reduceLT, Int.reduceToNat, Int.reduceEq, Int.reduceNeg, ↓reduceIte, reduceCtorEq]; rfl)
      ·(simp only [pb, Nat.reduceLT, Nat.reduceAdd, reduceIte]; rfl))
    |(apply RunO.skip; · rfl
      ·(simp only [pb, Nat.reduceLT, Nat.reduceAdd, reduceIte]; rfl)))
     exact RunO.nil
    ·repeat (first | exact Keep.nil | (apply Keep.take; · rfl) | (apply Keep.drop; · rfl))
    refine AX.condT ?_
    refine AX.sR (rgA [2, 3]) ?_
    refine AX.ret ⟨.inl rfl, ?_⟩
    exact Done.nil_ne rfl rfl
   ·apply AX.sreg [0, 25, 26, 38] (by simp only [pq]; rfl)
    ·repeat (first
    |(apply RunO.op rfl; · rfl
      ·rfl
      ·first | exact effIx h | (simp (disch := omega) only [go_sem, i64_of, u32_of, u64_of, Nat.reduceLT, Nat.reduceLeDiff, Nat.reduceEqDiff, Nat.reduceAdd, Nat.reduceSub, Nat.reduceMul, Nat.reducePow, Nat.reduceBEq, Int.reduceLE, Int.reduceLT, Int.reduceToNat, Int.reduceEq, Int.reduceNeg, ↓reduceIte, reduceCtorEq]; rfl)
      ·(simp (disch := omega) only [go_sem, i64_of, u32_of, u64_of, Nat.reduceLT, Nat.reduceLeDiff, Nat.reduceEqDiff, Nat.reduceAdd, Nat.reduceSub, Nat.reduceMul, Nat.reducePow, Nat.reduceBEq, Int.reduceLE, Int.reduceLT, Int.reduceToNat, Int.reduceEq, Int.reduceNeg, ↓reduceIte, reduceCtorEq]; rfl)
      ·(simp only [pb, Nat.reduceLT, Nat.reduceAdd, reduceIte]; rfl))
    |(apply RunO.skip; · rfl
      ·(simp only [pb, Nat.reduceLT, Nat.reduceAdd, reduceIte]; rfl)))
     exact RunO.nil
    ·repeat (first | exact Keep.nil | (apply Keep.take; · rfl) | (apply Keep.drop; · rfl))
    refine AX.condT ?_
    refine AX.sR (rgA [2, 3]) ?_
    refine AX.ret ⟨.inl rfl, ?_⟩
    exact Done.nil_ne rfl rfl
 refine AX.sR (rgA [0, 27]) ?_
 refine AX.seq ?_
 refine AX.condF ?_
 refine AX.keepA [0] ?_
 refine AX.exit ?_
 refine nmZ ?_
 have hD : Dgt s := fun j hj => hdg j (by omega)
 clear hdg h hi i
 refine AX.seq ?_
 by_cases hl : 20000 < s.size
 ·obtain ⟨e1, e2⟩ := par_long hh hD hl
  rw [e1, e2]
  refine AX.sR (rgA [0, 42]) ?_
  refine AX.condT ?_
  refine AX.sR (rgA [2, 3]) ?_
  refine AX.ret ⟨.inl rfl, ?_⟩
  exact Done.nil_ne rfl rfl
 refine AX.sR (rgA [0, 42]) ?_
 refine AX.condF ?_
 refine AX.keepA [0] ?_
 refine AX.skip ?_
 refine nmZ ?_
 refine AX.sR (rgA [0, 5]) ?_
 refine AX.own0 5 49 1 rfl ?_
 refine AX.keepA [0, 5] ?_
 refine AX.seq ?_
 refine AX.block ?_
 refine AX.loop (fun N st => ∃ (p K : Nat) (cur : ByteArray), N = s.size - p ∧ p ≤ s.size ∧ cur = s.extract p s.size ∧ (digits (dv s p)).length = K ∧ st = ⟨[(5, .own 0 0 K 1), (0, .s cur)], [(0, ⟨49, (digits (dv s p)).map u⟩)], 1⟩) s.size ⟨0, 0, s, rfl, by omega, (extract_all s).symm, by simp [dv, digits_zero], by simp [dv, digits_zero]⟩ ?_
 rintro N st ⟨p, K, cur, rfl, hp, hcur, hK, rfl⟩
 have hcs : cur.size = s.size - p := by rw [hcur, size_ext]
 have hKl := dv_len hD (by omega) hp
 refine AX.seq ?_
 by_cases hgo : p < s.size
 ·refine AX.sR (rgW [0, 5, 45] (aI @hcs oT) oT) ?_
  refine AX.condT ?_
  refine AX.keepA [0, 5] ?_
  refine AX.skip ?_
  refine nmZ ?_
  refine AX.block ?_
  obtain ⟨n, hn⟩ : ∃ n, n = min (s.size - p) 9 := ⟨_, rfl⟩
  have hn0 : 0 < n := by omega
  have hn9 : n ≤ 9 := by omega
  have hpn : p + n ≤ s.size := by omega
  have hmin : (if (9 : Int) < ((s.size - p : Nat) : Int) then (9 : Int) else ((s.size - p : Nat) : Int)) = (n : Int) := by rw [min9, hn]
  have hv0 := fun h => pow_le_digits (n := dv s p) h
  have hvn : dv s p = 0 → K = 0 := fun e => by rw [← hK, e, digits_zero]; rfl
  have hdvd := Dg_digits (dv s p)
  have hvv := val_digits (dv s p)
  have hbyte := fun i (hi : i < n) => bt_extract (s := s) (p := p) (q := s.size) (j := i) (by omega) (Nat.le_refl _)
  rw [← hcur] at hbyte
  have hdgt := fun i (hi : i < n) => hD (p + i) (by omega)
  refine AX.sR (rgW [0, 5, 6] (aI @hcs (aI @hmin oT)) oT) ?_
  refine AX.sR (rgA [0, 5, 6, 7, 8]) ?_
  refine AX.cut (fun st => ∃ by' add : Nat, by' = 10 ^ n ∧ add < by' ∧ dv s (p + n) = dv s p * by' + add ∧ st = ⟨[(8, .i .u64 add), (7, .i .u64 by'), (6, .i .i64 n), (5, .own 0 0 K 1), (0, .s cur)], [(0, ⟨49, (digits (dv s p)).map u⟩)], 1⟩) ?_ ?_
  ·refine AX.sR (rgA [0, 5, 6, 7, 8, 49, 50]) ?_
   refine AX.block ?_
   refine AX.loop (fun M st => ∃ (i by' add : Nat), M = n - i ∧ i ≤ n ∧ by' = 10 ^ i ∧ add < by' ∧ dv s (p + i) = dv s p * by' + add ∧ st = ⟨[(50, .i .i64 i), (49, .i .i64 n), (8, .i .u64 add), (7, .i .u64 by'), (6, .i .i64 n), (5, .own 0 0 K 1), (0, .s cur)], [(0, ⟨49, (digits (dv s p)).map u⟩)], 1⟩) n ⟨0, 1, 0, rfl, by omega, rfl, by omega, by simp, rfl⟩ ?_
   rintro M st ⟨i, by', add, rfl, hi, hby, hadd, hdv, rfl⟩
   have hby9 : by' ≤ 1000000000 := by rw [hby]; exact Nat.pow_le_pow_right (by omega) (show i ≤ 9 by omega)
   by_cases h2 : i < n
   ·refine AX.sR (rgA [0, 5, 6, 7, 8, 49, 50, 51]) ?_
    refine AX.seq ?_
    refine AX.condT ?_
    refine AX.keepA [0, 5, 6, 7, 8, 49, 50] ?_
    refine AX.skip ?_
    refine nmZ ?_
    refine AX.seq ?_
    refine AX.block ?_
    have hb := hbyte i h2
    obtain ⟨hb1, hb2⟩ := hdgt i h2
    have hus := u8sub hb1 hb2
    have hst : dv s (p + i + 1) = dv s (p + i) * 10 + (bt s (p + i) - 48) := rfl
    generalize hbb : bt s (p + i) = b at *
    refine AX.sR (rgA [0, 5, 6, 7, 8, 9, 49, 50]) ?_
    apply AX.dreg [0, 5, 6, 7, 8, 49, 50] (by kernel_rfl) (by simp only [pq]; rfl)
    ·repeat (first
    |(apply RunD.op rfl; · rfl
      ·rfl
      ·first | exact effIx (show i < cur.size by omega) | (simp (disch := omega) only [go_sem, i64_of, u32_of, u64_of, Nat.reduceLT, Nat.reduceLeDiff, Nat.reduceEqDiff, Nat.reduceAdd, Nat.reduceSub, Nat.reduceMul, Nat.reducePow, Nat.reduceBEq, Int.reduceLE, Int.reduceLT, Int.reduceToNat, Int.reduceEq, Int.reduceNeg, ↓reduceIte, reduceCtorEq, hb, hus, mul10, ← Int.natCast_add]; rfl)
      ·(simp (disch := omega) only [go_sem, i64_of, u32_of, u64_of, Nat.reduceLT, Nat.reduceLeDiff, Nat.reduceEqDiff, Nat.reduceAdd, Nat.reduceSub, Nat.reduceMul, Nat.reducePow, Nat.reduceBEq, Int.reduceLE, Int.reduceLT, Int.reduceToNat, Int.reduceEq, Int.reduceNeg, ↓reduceIte, reduceCtorEq, hb, hus, mul10, ← Int.natCast_add]; rfl)
      ·(simp only [pb, Nat.reduceLT, Nat.reduceAdd, reduceIte]; rfl)
      ·rfl)
    |(apply RunD.skip; · rfl
      ·(simp only [pb, Nat.reduceLT, Nat.reduceAdd, reduceIte]; rfl)
      ·rfl))
     exact RunD.nil
    ·repeat (first | exact Keep.nil | (apply Keep.take; · rfl) | (apply Keep.drop; · rfl))
    ·kernel_rfl
    refine nmZ ?_
    refine AX.rR (rgW [0, 5, 6, 7, 8, 49, 50] (aI @lit_add oT) oT) ?_
    refine nmZ ?_
    refine ⟨n - (i + 1), _, id, by omega,
     leA
     , ⟨i + 1, by' * 10, add * 10 + (b - 48), rfl, by omega, by rw [Nat.pow_succ, hby], by omega, ?_, rfl⟩⟩
    rw [← Nat.add_assoc, hst, hdv, Nat.add_mul, Nat.mul_assoc, Nat.add_assoc]
   ·refine AX.sR (rgA [0, 5, 6, 7, 8, 51]) ?_
    refine AX.seq ?_
    refine AX.condF ?_
    refine AX.keepA [0, 5, 6, 7, 8] ?_
    refine AX.exit ?_
    refine nmZ ?_
    have hin : i = n := by omega
    subst hin
    exact ⟨trivial, by', add, hby, hadd, hdv, rfl⟩
  rintro st ⟨by', add, hby, hadd, hdv, rfl⟩
  have hby9 : by' ≤ 1000000000 := by rw [hby]; exact Nat.pow_le_pow_right (by omega) hn9
  have hby1 : 0 < by' := by omega
  have hKn := dv_len hD (by omega) hpn
  refine AX.sR (rgA [0, 5, 6, 7, 10]) ?_
  clear hbyte hdgt hmin hby
  have hnext := extract_extract hpn
  rw [← hcur, ← hcs] at hnext
  refine AX.cut (fun st => ∃ (c : Nat) (o : List Nat), c < by' ∧ o.length = K ∧ Dg o ∧ val o + 4294967296 ^ K * c = dv s (p + n) ∧ st = ⟨[(10, .i .u64 c), (7, .i .u64 by'), (6, .i .i64 n), (5, .own 0 0 K 1), (0, .s cur)], [(0, ⟨49, o.map u⟩)], 1⟩) ?_ ?_
  ·rw [hdv]
   clear hdv hnext hKn
   generalize digits (dv s p) = l at *
   refine AX.sR (rgA [0, 5, 6, 7, 10, 66, 67]) ?_
   refine AX.block ?_
   refine AX.loop (fun M st => ∃ (i c : Nat) (o : List Nat), M = K - i ∧ i ≤ K ∧ c < by' ∧ o.length = K ∧ Dg o ∧ o.drop i = l.drop i ∧ val (o.take i) + 4294967296 ^ i * c = val (l.take i) * by' + add ∧ st = ⟨[(67, .i .i64 i), (66, .i .i64 K), (10, .i .u64 c), (7, .i .u64 by'), (6, .i .i64 n), (5, .own 0 0 K 1), (0, .s cur)], [(0, ⟨49, o.map u⟩)], 1⟩) K ⟨0, add, l, rfl, by omega, hadd, hK, hdvd, rfl, by simp [val], rfl⟩ ?_
   rintro M st ⟨i, c, o, rfl, hi, hc, ho, hdo, hdrop, hval, rfl⟩
   by_cases h2 : i < K
   ·refine AX.sR (rgA [0, 5, 6, 7, 10, 66, 67, 68]) ?_
    refine AX.seq ?_
    refine AX.condT ?_
    refine AX.keepA [0, 5, 6, 7, 10, 66, 67] ?_
    refine AX.skip ?_
    refine nmZ ?_
    refine AX.seq ?_
    refine AX.block ?_
    have hx := Dg_getD hdo i
    have hxl : o.getD i 0 = l.getD i 0 := by
     have := congrArg (fun z => z.getD 0 0) hdrop
     simpa [List.getD_eq_getElem?_getD, List.getElem?_drop] using this
    have htl := val_take_step l i
    have hto := val_take_step (o.set i 0) i
    rw [← hxl] at htl
    generalize hxx : o.getD i 0 = x at *
    have hmb : x * by' ≤ 4294967295 * 1000000000 := Nat.mul_le_mul (by omega) hby9
    obtain ⟨S, hS⟩ : ∃ S, S = c + x * by' := ⟨_, rfl⟩
    have hcl : S / 4294967296 < by' := by rw [hS]; exact carry_lt hx hc
    refine AX.sR (rgA [0, 5, 6, 7, 10, 11, 66, 67]) ?_
    refine AX.sR (rgW [0, 5, 6, 7, 10, 11, 66, 67] (aI @hxx (aI @cMul (aI @cAdd (aI hS.symm oT)))) oT) ?_
    refine AX.sR (rgW [0, 5, 6, 7, 10, 66, 67] (aI @u32n oT) oT) ?_
    refine AX.rR (rgW [0, 5, 6, 7, 10, 66, 67] (aI @shr32 oT) oT) ?_
    refine nmZ ?_
    refine AX.rR (rgW [0, 5, 6, 7, 10, 66, 67] (aI @lit_add oT) oT) ?_
    refine nmZ ?_
    refine ⟨K - (i + 1), _, id, by omega,
     leA
     , ⟨i + 1, S / 4294967296, o.set i (S % 4294967296), rfl, by omega, hcl, by simp [ho], Dg_set hdo (Nat.mod_lt _ (by omega)), ?_, ?_, rfl⟩⟩
    ·have := congrArg (List.drop 1) hdrop
     rw [List.drop_drop, List.drop_drop] at this
     rw [List.drop_set_of_lt (by omega), this]
    ·rw [take_set_succ o i _ (by omega), htl, Nat.pow_succ]
     refine carry_step hval ?_ hS
     rw [val_append, List.length_take, Nat.min_eq_left (by omega)]
     simp only [val, Nat.mul_zero, Nat.add_zero]
   ·refine AX.sR (rgA [0, 5, 6, 7, 10, 68]) ?_
    refine AX.seq ?_
    refine AX.condF ?_
    refine AX.keepA [0, 5, 6, 7, 10] ?_
    refine AX.exit ?_
    refine nmZ ?_
    have hiK : i = K := by omega
    subst hiK
    rw [List.take_of_length_le (by omega), List.take_of_length_le (by omega), hvv] at hval
    exact ⟨trivial, c, o, hc, ho, hdo, hval, rfl⟩
  rintro st ⟨c, o, hc, ho, hdo, hval, rfl⟩
  refine AX.cut (fun st => ∃ f, Le 0 f ⟨[(6, .i .i64 n), (5, .own 0 0 (digits (dv s (p + n))).length 1), (0, .s cur)], [(0, ⟨49, (digits (dv s (p + n))).map u⟩)], 1⟩ st) ?_ ?_
  ·by_cases hc0 : 0 < c
   ·have hcm : c % 4294967296 = c := Nat.mod_eq_of_lt (by omega)
    have hd2 : Dg (o ++ [c]) := by rw [Dg_append, Dg_cons]; exact ⟨hdo, by omega, Dg_nil⟩
    have hv2 : val (o ++ [c]) = dv s (p + n) := by
     rw [val_append, ho]
     simp only [val, Nat.mul_zero, Nat.add_zero]
     exact hval
    have hdig := digits_of hd2 (.inr (by
     rw [hv2, ← hval, List.length_append, ho]
     have : 4294967296 ^ K * 1 ≤ 4294967296 ^ K * c := Nat.mul_le_mul_left _ hc0
     simp only [List.length_cons, List.length_nil, Nat.zero_add, Nat.add_sub_cancel]
     omega))
    rw [hv2] at hdig
    have hlen : (digits (dv s (p + n))).length = K + 1 := by rw [← hdig, List.length_append, ho]; rfl
    refine AX.sR (rgA [0, 5, 6, 10, 88]) ?_
    refine AX.condT ?_
    refine AX.rR (rgW [0, 5, 6] (aI @u32n (aI @hcm oT)) oT) ?_
    refine nmZ ?_
    refine ⟨by first | exact trivial | rfl, fun _ => 2, ?_⟩
    rw [hlen, ← hdig]
    refine (
     leA
     )
   ·have hc1 : c = 0 := by omega
    subst hc1
    rw [Nat.mul_zero, Nat.add_zero] at hval
    have hdig := digits_of hdo (by
     by_cases hK0 : K = 0
     ·left
      exact List.eq_nil_of_length_eq_zero (by omega)
     ·right
      have h3 := hv0 (fun e => hK0 (hvn e))
      rw [hK] at h3
      have h4 : dv s p * 1 ≤ dv s p * by' := Nat.mul_le_mul_left _ hby1
      rw [ho, hval, hdv]
      omega)
    rw [hval] at hdig
    have hlen : (digits (dv s (p + n))).length = K := by rw [← hdig, ho]
    refine AX.sR (rgA [0, 5, 6, 10, 88]) ?_
    refine AX.condF ?_
    refine AX.keepA [0, 5, 6] ?_
    refine AX.skip ?_
    refine nmZ ?_
    refine ⟨by first | exact trivial | rfl, id, ?_⟩
    rw [hlen, ← hdig]
    refine (
     leA
     )
  rintro st ⟨f, hle⟩
  refine AX.weaken f hle ?_
  apply AX.reg [0, 5] (by simp only [pq]; rfl)
  ·repeat (first
  |(apply RunO.op rfl; · rfl
    ·rfl
    ·first | exact effSl (show n ≤ cur.size by omega) | (simp (disch := omega) only [go_sem, i64_of, u32_of, u64_of, Nat.reduceLT, Nat.reduceLeDiff, Nat.reduceEqDiff, Nat.reduceAdd, Nat.reduceSub, Nat.reduceMul, Nat.reducePow, Nat.reduceBEq, Int.reduceLE, Int.reduceLT, Int.reduceToNat, Int.reduceEq, Int.reduceNeg, ↓reduceIte, reduceCtorEq, hnext]; rfl)
    ·(simp (disch := omega) only [go_sem, i64_of, u32_of, u64_of, Nat.reduceLT, Nat.reduceLeDiff, Nat.reduceEqDiff, Nat.reduceAdd, Nat.reduceSub, Nat.reduceMul, Nat.reducePow, Nat.reduceBEq, Int.reduceLE, Int.reduceLT, Int.reduceToNat, Int.reduceEq, Int.reduceNeg, ↓reduceIte, reduceCtorEq, hnext]; rfl)
    ·(simp only [pb, Nat.reduceLT, Nat.reduceAdd, reduceIte]; rfl))
  |(apply RunO.skip; · rfl
    ·(simp only [pb, Nat.reduceLT, Nat.reduceAdd, reduceIte]; rfl)))
   exact RunO.nil
  ·repeat (first | exact Keep.nil | (apply Keep.take; · rfl) | (apply Keep.drop; · rfl))
  refine nmZ ?_
  refine ⟨s.size - (p + n), _, id, by omega,
   leA
   , ⟨p + n, _, _, rfl, hpn, rfl, rfl, rfl⟩⟩
 ·have hps : p = s.size := by omega
  obtain ⟨e1, e2⟩ := par_good hh hD hl
  rw [e1, e2]
  refine AX.sR (rgW [0, 5, 45] (aI @hcs oT) oT) ?_
  refine AX.condF ?_
  refine AX.keepA [5] ?_
  refine AX.exit ?_
  refine nmZ ?_
  refine AX.sR (rgA [2, 3]) ?_
  refine AX.ret ⟨.inl rfl, ?_⟩
  subst hps
  exact Done.ownE rfl rfl rfl hK.symm rfl
end Go.Proofs.Ytmhjcmochemndaa
