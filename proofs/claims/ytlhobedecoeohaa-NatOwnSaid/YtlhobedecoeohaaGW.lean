/- Powers: plain facts. -/
import Derived.Test.YtlhobedecoeohaaGJ
import Derived.Test.YtlhobedecoeohaaGV
import Derived.Test.YtlhobedecoeohaaGG
import Derived.Test.YtlhobedecoeohaaGI
set_option linter.unusedVariables false
set_option linter.unusedSimpArgs false
namespace Go.Proofs.Ytlhobedecoeohaa
open Go Go.Proofs.Ytlhobedecoeohaa.Lift
attribute [local irreducible] Lift.PCall Lift.HCall
def powLim (m : Nat) (n : Int) : Prop := 0 < blen m ∧ ((100000 / blen m : Nat) : Int) < n
instance (m : Nat) (n : Int) : Decidable (powLim m n) := inferInstanceAs (Decidable (_ ∧ _))
def powN (m : Nat) (n : Int) : Nat := if n < 0 then 0 else if powLim m n then 0 else m ^ n.toNat
def powE (m : Nat) (n : Int) : Int := if n < 0 then 1 else if powLim m n then 2 else 0
theorem digits_len_pow {m n K : Nat} (h : blen m * n ≤ 32 * K) : (digits (m ^ n)).length ≤ K + 1 := by
 apply digits_length_le
 have h1 : m ^ n ≤ (2 ^ blen m) ^ n := Nat.pow_le_pow_left (Nat.le_of_lt (lt_blen m)) n
 rw [← Nat.pow_mul] at h1
 have h2 : 2 ^ (blen m * n) ≤ 2 ^ (32 * K) := Nat.pow_le_pow_right (by omega) h
 have h3 : (4294967296 : Nat) ^ (K + 1) = 2 ^ (32 * (K + 1)) := by
  rw [show (4294967296 : Nat) = 2 ^ 32 from rfl, ← Nat.pow_mul]
 have h4 : (2 : Nat) ^ (32 * K) < 2 ^ (32 * (K + 1)) := Nat.pow_lt_pow_right (by omega) (by omega)
 rw [h3]
 omega
theorem pow_lim_le {m n : Nat} (h : ¬ powLim m n) : m ≠ 0 → blen m * n ≤ 32 * 3125 := by
 intro h0
 have hp := blen_pos h0
 have h1 : n ≤ 100000 / blen m := by
  apply Classical.byContradiction
  intro h2
  exact h ⟨hp, by omega⟩
 have := Nat.mul_le_mul_left (blen m) h1
 have h2 := Nat.mul_div_le 100000 (blen m)
 omega
end Go.Proofs.Ytlhobedecoeohaa
/- Power by squaring. -/
set_option linter.unusedVariables false
set_option linter.unusedSimpArgs false
namespace Go.Proofs.Ytlhobedecoeohaa
open Go Go.Proofs.Ytlhobedecoeohaa.Lift
attribute [local irreducible] Lift.PCall Lift.HCall
theorem and_one (n : Nat) (h : n < 9223372036854775808) : andI .i64 (n : Int) 1 = ((n % 2 : Nat) : Int) := by
 show (((BitVec.ofInt 64 (n : Int) &&& BitVec.ofInt 64 1).toNat : Nat) : Int) = _
 rw [BitVec.toNat_and, ofInt_toNat64 n (by omega)]
 rw [show (BitVec.ofInt 64 1).toNat = 1 from rfl, Nat.and_one_is_mod]
theorem shr1 (n : Nat) : Int.fdiv (n : Int) (2 ^ (min 1 64)) = ((n / 2 : Nat) : Int) := by
 rw [shr_nat]; rfl
theorem pow_even {o y N : Nat} (h : N % 2 = 0) : o * (y * y) ^ (N / 2) = o * y ^ N := by
 rw [← Nat.pow_two, ← Nat.pow_mul, show 2 * (N / 2) = N by omega]
theorem pow_odd {o y N : Nat} (h : N % 2 = 1) : o * y * (y * y) ^ (N / 2) = o * y ^ N := by
 rw [← Nat.pow_two, ← Nat.pow_mul, Nat.mul_assoc, ← Nat.pow_succ', show (2 * (N / 2)).succ = N by omega]
theorem le_of_pow {o y N A : Nat} (h : o * y ^ N = A) (hA : 0 < A) (hN : 0 < N) : 0 < o ∧ 0 < y ∧ o ≤ A ∧ y ≤ A := by
 have ho : 0 < o := Nat.pos_of_ne_zero (by rintro rfl; simp at h; omega)
 have hy : 0 < y := Nat.pos_of_ne_zero (by rintro rfl; rw [Nat.zero_pow hN] at h; simp at h; omega)
 have hp : 0 < y ^ N := Nat.pow_pos hy
 refine ⟨ho, hy, by rw [← h]; exact Nat.le_mul_of_pos_right o hp, ?_⟩
 have h1 : y ≤ y ^ N := by
  have := Nat.pow_le_pow_right hy hN
  rwa [Nat.pow_one] at this
 have h2 : y ^ N ≤ o * y ^ N := Nat.le_mul_of_pos_left _ ho
 omega
theorem pow_ok (a : List Nat) (n : Int) (ha : Dg a) (hla : a.length < 2 ^ 36) (hn : -9223372036854775808 ≤ n ∧ n ≤ 9223372036854775807) : PCall Try.prog 38 [dg a, .i .i64 n] (numE (powN (val a) n) (powE (val a) n)) [] := by
 refine PCall.of_ax Try.call38 Try.func38 rfl (by simp [Try.ntmps38]) fun O w => ?_
 simp only [Try.ntmps38, Try.results38, argFr]
 have c1 := bits_ok a ha (by omega)
 have hma := digits_length_val ha
 have hbl := blen_digits_le (val a)
 refine AX.sR (rgAV [0, 1, 4, 5]) ?_
 refine AX.seq ?_
 refine AX.sR (rgCV [0, 1, 4, 5, 6] (aI c1 oT)) ?_
 refine AX.block ?_
 by_cases h0 : n < 0
 ·refine AX.sR (rgAV [0, 1, 11]) ?_
  refine AX.condT ?_
  refine AX.sR (rgAV [4, 5]) ?_
  refine AX.ret ⟨.inl rfl, ?_⟩
  rw [powN, if_pos h0, powE, if_pos h0]
  exact Done.nil_ne rfl rfl
 obtain ⟨k, rfl⟩ : ∃ k : Nat, n = k := ⟨n.toNat, by omega⟩
 refine AX.sR (rgAV [0, 1, 4, 5, 6, 11]) ?_
 refine AX.condF ?_
 rw [powN, if_neg h0, powE, if_neg h0, Int.toNat_natCast]
 have eq1 : Int.tdiv 100000 ((blen (val a) : Nat) : Int) = ((100000 / blen (val a) : Nat) : Int) := rfl
 have hq := Nat.div_le_self 100000 (blen (val a))
 have hple := fun h => pow_lim_le (m := val a) (n := k) h
 have hdl := fun h => digits_len_pow (m := val a) (n := k) (K := 3125) h
 by_cases hlim : powLim (val a) k
 ·rw [if_pos hlim, if_pos hlim]
  obtain ⟨h1, h2⟩ := hlim
  clear hple hdl
  generalize 100000 / blen (val a) = q at *
  generalize blen (val a) = b at *
  refine AX.sR (rgWV [0, 1, 6, 14] (aI @eq1 oT) oT) ?_
  refine AX.condT ?_
  refine AX.sR (rgAV [4, 5]) ?_
  refine AX.ret ⟨.inl rfl, ?_⟩
  exact Done.nil_ne rfl rfl
 rw [if_neg hlim, if_neg hlim]
 refine AX.cut (fun st => st = ⟨[(14, .b false), (6, .i .i64 (blen (val a))), (0, dg a), (1, .i .i64 k)], [], 0⟩) ?_ ?_
 ·by_cases h1 : 0 < blen (val a)
  ·have h2 : ¬ (((100000 / blen (val a) : Nat) : Int) < k) := fun h2 => hlim ⟨h1, h2⟩
   clear hple hdl hlim
   generalize 100000 / blen (val a) = q at *
   generalize blen (val a) = b at *
   refine AX.rR (rgWV [0, 1, 6, 14] (aI @eq1 oT) oT) ?_
   exact ⟨rfl, rfl⟩
  ·clear hple hdl hlim
   generalize blen (val a) = b at *
   refine AX.rR (rgAV [0, 1, 6, 14]) ?_
   exact ⟨rfl, rfl⟩
 rintro st rfl
 refine AX.condF ?_
 refine AX.skip ?_
 refine nmZ ?_
 have c5 := of_ok 1 (by omega)
 have c6 := ntrim_ok a ha (by omega)
 refine AX.sR (rgCV [1, 7, 8] (aI c5 (aI c6 oT))) ?_
 by_cases hz : val a = 0 ∧ 0 < k
 ·obtain ⟨hz, hk⟩ := hz
  have hl0 : (digits (val a)).length = 0 := digits_len_zero.2 hz
  refine AX.seq ?_
  refine AX.sR (rgAV [1, 7, 8, 32]) ?_
  refine AX.condT ?_
  refine AX.sR (rgAV [4, 5]) ?_
  refine AX.ret ⟨.inl rfl, ?_⟩
  rw [hz, Nat.zero_pow hk]
  exact Done.nil_ne rfl rfl
 refine AX.cut (fun st => st = ⟨[(8, nv (val a)), (7, nv 1), (1, .i .i64 k)], [], 0⟩) ?_ ?_
 ·by_cases h1 : (digits (val a)).length = 0
  ·have h2 : ¬ 0 < k := fun h2 => hz ⟨digits_len_zero.1 h1, h2⟩
   refine AX.sR (rgAV [1, 7, 8, 32]) ?_
   refine AX.condF ?_
   refine AX.keepA [1, 7, 8] ?_
   refine AX.skip ?_
   exact ⟨rfl, rfl⟩
  ·refine AX.sR (rgAV [1, 7, 8, 32]) ?_
   refine AX.condF ?_
   refine AX.keepA [1, 7, 8] ?_
   refine AX.skip ?_
   exact ⟨rfl, rfl⟩
 rintro st rfl
 have hA : 0 < val a ^ k := by
  by_cases h1 : val a = 0
  ·have : k = 0 := Nat.eq_zero_of_not_pos fun h2 => hz ⟨h1, h2⟩
   subst this
   simp
  ·exact Nat.pow_pos (Nat.pos_of_ne_zero h1)
 have hsz : (digits (val a ^ k)).length ≤ 3126 := by
  by_cases h1 : val a = 0
  ·have h2 : k = 0 := Nat.eq_zero_of_not_pos fun h2 => hz ⟨h1, h2⟩
   subst h2
   rw [Nat.pow_zero]
   have := digits_length_le (n := 1) (k := 1) (by omega)
   omega
  ·exact hdl (hple hlim h1)
 clear hple hdl hlim hz c1 c6
 generalize hAA : val a ^ k = A at *
 refine AX.seq ?_
 refine AX.block ?_
 refine AX.loop (fun N st => ∃ o y : Nat, N ≤ k ∧ o * y ^ N = A ∧ st = ⟨[(8, nv y), (7, nv o), (1, .i .i64 N)], [], 0⟩) k ⟨1, val a, Nat.le_refl _, by rw [Nat.one_mul]; exact hAA, rfl⟩ ?_
 rintro N st ⟨o, y, hN, hA', rfl⟩
 refine AX.seq ?_
 by_cases h : 0 < N
 ·obtain ⟨ho, hy, hoA, hyA⟩ := le_of_pow hA' hA h
  have lo := digits_len_mono hoA
  have ly := digits_len_mono hyA
  have k1 := mul_n o y (by omega) (by omega)
  have k2 := mul_n y y (by omega) (by omega)
  refine AX.sR (rgAV [1, 7, 8, 34]) ?_
  refine AX.condT ?_
  refine AX.keepA [1, 7, 8] ?_
  refine AX.skip ?_
  refine nmZ ?_
  refine AX.seq ?_
  refine AX.block ?_
  have e5 := and_one N (by omega)
  refine AX.cut (fun st => Le 0 id ⟨[(8, nv y), (7, nv (if N % 2 = 1 then o * y else o)), (1, .i .i64 N)], [], 0⟩ st) ?_ ?_
  ·by_cases h2 : N % 2 = 1
   ·rw [h2] at e5
    rw [if_pos h2]
    refine AX.sR (rgWV [1, 7, 8, 39] (aI @e5 oT) oT) ?_
    refine AX.condT ?_
    refine AX.keepA [1, 7, 8] ?_
    refine AX.rR (rgCV [1, 7, 8] (aI k1 oT)) ?_
    refine ⟨rfl,
     leA
     ⟩
   ·rw [show N % 2 = 0 by omega] at e5
    rw [if_neg h2]
    refine AX.sR (rgWV [1, 7, 8, 39] (aI @e5 oT) oT) ?_
    refine AX.condF ?_
    refine AX.keepA [1, 7, 8] ?_
    refine AX.skip ?_
    refine ⟨rfl,
     leA
     ⟩
  rintro st hle
  refine AX.weaken id hle ?_
  generalize hoo : (if N % 2 = 1 then o * y else o) = o' at *
  by_cases h3 : 1 < N
  ·refine AX.sR (rgAV [1, 7, 8, 44]) ?_
   refine AX.condT ?_
   refine AX.keepA [1, 7, 8] ?_
   refine AX.rR (rgCV [1, 7, 8] (aI k2 oT)) ?_
   refine nmZ ?_
   refine AX.rR (rgWV [1, 7, 8] (aI @shr1 oT) oT) ?_
   refine nmZ ?_
   refine ⟨N / 2, _, id, by omega,
    leA
    , ⟨o', y * y, by omega, ?_, rfl⟩⟩
   rw [← hoo, ← hA']
   split
   ·rename_i h2
    exact pow_odd h2
   ·rename_i h2
    exact pow_even (by omega)
  ·refine AX.sR (rgAV [1, 7, 8, 44]) ?_
   refine AX.condF ?_
   refine AX.keepA [1, 7, 8] ?_
   refine AX.skip ?_
   refine nmZ ?_
   refine AX.rR (rgWV [1, 7, 8] (aI @shr1 oT) oT) ?_
   refine nmZ ?_
   refine ⟨N / 2, _, id, by omega,
    leA
    , ⟨o', y, by omega, ?_, rfl⟩⟩
   have h1 : N = 1 := by omega
   subst h1
   rw [← hoo, ← hA']
   simp
 ·refine AX.sR (rgAV [1, 7, 8, 34]) ?_
  refine AX.condF ?_
  refine AX.exit ?_
  refine nmZ ?_
  have h0 : N = 0 := by omega
  rw [h0, Nat.pow_zero, Nat.mul_one] at hA'
  rw [← hA']
  refine AX.sR (rgAV [4, 5]) ?_
  refine AX.ret ⟨.inl rfl, ?_⟩
  exact Done.ne rfl rfl
end Go.Proofs.Ytlhobedecoeohaa
/- The reference's Add; Sub. -/
set_option linter.unusedVariables false
set_option linter.unusedSimpArgs false
namespace Go.Proofs.Ytlhobedecoeohaa
open Go Go.Proofs.Ytlhobedecoeohaa.Lift
attribute [local irreducible] Lift.PCall Lift.HCall
theorem lit_rem (n : Nat) : Int.tmod (n : Int) 4294967296 = ((n % 4294967296 : Nat) : Int) := rfl
theorem lit_quo (n : Nat) : Int.tdiv (n : Int) 4294967296 = ((n / 4294967296 : Nat) : Int) := rfl
theorem radd_ok (a b : List Nat) (ha : Dg a) (hb : Dg b) (hla : a.length < 2 ^ 39) (hlb : b.length < 2 ^ 39) : PCall Try.prog 31 [dg a, dg b] (nv (val a + val b)) [] := by
 refine PCall.of_ax Try.call31 Try.func31 rfl (by simp [Try.ntmps31]) fun O w => ?_
 simp only [Try.ntmps31, Try.results31, argFr]
 refine AX.sR (rgA [0, 1]) ?_
 refine AX.sR (rgA [0, 1, 5]) ?_
 refine AX.sR (rgA [0, 1, 5, 6]) ?_
 refine AX.seq ?_
 refine AX.sR (rgA [0, 1, 5, 6, 7]) ?_
 refine AX.own0 5 50 1 rfl ?_
 refine AX.keepA [0, 1, 5, 6, 7] ?_
 refine AX.block ?_
 refine AX.loop (fun N st => ∃ (i c : Nat) (o : List Nat), N = (a.length + b.length - i) * 2 + c ∧ i ≤ a.length + b.length + 1 ∧ (a.length < i → b.length < i → c = 0) ∧ o.length = i ∧ Dg o ∧ c ≤ 1 ∧ val o + 4294967296 ^ i * c = val (a.take i) + val (b.take i) ∧
  st = ⟨[(5, .own 0 0 i 1), (7, .i .i64 i), (6, .i .u64 c), (0, dg a), (1, dg b)], [(0, ⟨50, o.map u⟩)], 1⟩) ((a.length + b.length) * 2) ⟨0, 0, [], rfl, by omega, by omega, rfl, Dg_nil, by omega, by simp [val], rfl⟩ ?_
 rintro N st ⟨i, c, o, rfl, hi, hcz, ho, hdo, hc, hval, rfl⟩
 by_cases h : i < a.length ∨ i < b.length ∨ 0 < c
 ·refine AX.cut (fun st => st = ⟨[(5, .own 0 0 i 1), (7, .i .i64 i), (6, .i .u64 c), (0, dg a), (1, dg b)], [(0, ⟨50, o.map u⟩)], 1⟩) ?_ ?_
  ·by_cases h1 : i < a.length
   ·refine AX.sR (rgA [0, 1, 5, 6, 7, 22]) ?_
    refine AX.condT ?_
    refine AX.keepA [0, 1, 5, 6, 7] ?_
    refine AX.skip ?_
    exact ⟨rfl, rfl⟩
   ·by_cases h2 : i < b.length
    ·refine AX.sR (rgA [0, 1, 5, 6, 7, 22]) ?_
     refine AX.condT ?_
     refine AX.keepA [0, 1, 5, 6, 7] ?_
     refine AX.skip ?_
     exact ⟨rfl, rfl⟩
    ·refine AX.sR (rgA [0, 1, 5, 6, 7, 22]) ?_
     refine AX.condT ?_
     refine AX.keepA [0, 1, 5, 6, 7] ?_
     refine AX.skip ?_
     exact ⟨rfl, rfl⟩
  rintro st rfl
  have hx := Dg_getD ha i
  have hy := Dg_getD hb i
  have hzz : a.length ≤ i → b.length ≤ i → a.getD i 0 + b.getD i 0 = 0 := fun e1 e2 => by rw [getD_out e1, getD_out e2]
  refine AX.seq ?_
  refine AX.block ?_
  refine AX.sR (rgW [0, 1, 5, 7, 8] (aI @cAdd oT) (aI (at_ok a i ha (by omega)) (aI (at_ok b i hb (by omega)) oT))) ?_
  generalize hs : a.getD i 0 + b.getD i 0 + c = s
  apply AX.sreg [0, 1, 5, 7, 8] (by simp only [pq]; rfl)
  ·repeat (first
  |(apply RunO.op rfl; · rfl
    ·rfl
    iterate 2 (· (simp (disch := omega) only [go_sem, i64_of, u32_of, u64_of, Nat.reduceLT, Nat.reduceLeDiff, Nat.reduceEqDiff, Nat.reduceAdd, Nat.reduceSub, Nat.reduceMul, Nat.reducePow, Nat.reduceBEq, Int.reduceLE, Int.reduceLT, Int.reduceToNat, Int.reduceEq, Int.reduceNeg, reduceIte, reduceCtorEq, lit_rem, u32n, Nat.mod_mod]; rfl))
    ·(simp only [pb, Nat.reduceLT, Nat.reduceAdd, reduceIte]; rfl))
  |(apply RunO.skip; · rfl
    ·(simp only [pb, Nat.reduceLT, Nat.reduceAdd, reduceIte]; rfl)))
   exact RunO.nil
  ·repeat (first | exact Keep.nil | (apply Keep.take; · rfl) | (apply Keep.drop; · rfl))
  refine AX.rR (rgW [0, 1, 5, 6, 7] (aI @lit_quo oT) oT) ?_
  refine nmZ ?_
  refine AX.rR (rgW [0, 1, 5, 6, 7] (aI @lit_add oT) oT) ?_
  refine nmZ ?_
  refine ⟨(a.length + b.length - (i + 1)) * 2 + s / 4294967296, _, fun _ => 2, by omega,
   leA
   , ⟨i + 1, s / 4294967296, o ++ [s % 4294967296], rfl, by omega, by omega, by simp [ho], ?_, by omega, ?_, rfl⟩⟩
  ·rw [Dg_append, Dg_cons]; exact ⟨hdo, Nat.mod_lt _ (by omega), Dg_nil⟩
  ·rw [sum_step ho (by omega), val_take_step, val_take_step, ← hs, Nat.mul_add, Nat.mul_add]
   omega
 ·have h1 : ¬ i < a.length := fun e => h (.inl e)
  have h2 : ¬ i < b.length := fun e => h (.inr (.inl e))
  have h3 : c = 0 := by
   have : ¬ 0 < c := fun e => h (.inr (.inr e))
   omega
  subst h3
  refine AX.seq ?_
  refine AX.sR (rgA [0, 1, 5, 6, 7, 22]) ?_
  refine AX.condF ?_
  refine AX.exit ?_
  refine nmZ ?_
  have c3 := rntrim_ok o hdo (by omega)
  have hv : val o = val a + val b := by
   rw [List.take_of_length_le (by omega), List.take_of_length_le (by omega)] at hval
   omega
  rw [hv] at c3
  have ht : List.take i o = o := List.take_of_length_le (by omega)
  refine AX.sR (rgW [4] (aI @ht oT) (aI c3 oT)) ?_
  refine AX.ret ⟨.inl rfl, ?_⟩
  exact Done.sl rfl
end Go.Proofs.Ytlhobedecoeohaa
/- The reference's Sub. -/
set_option linter.unusedVariables false
set_option linter.unusedSimpArgs false
namespace Go.Proofs.Ytlhobedecoeohaa
open Go Go.Proofs.Ytlhobedecoeohaa.Lift
attribute [local irreducible] Lift.PCall Lift.HCall
end Go.Proofs.Ytlhobedecoeohaa
/- The reference's Mul. -/
set_option linter.unusedVariables false
set_option linter.unusedSimpArgs false
namespace Go.Proofs.Ytlhobedecoeohaa
open Go Go.Proofs.Ytlhobedecoeohaa.Lift
attribute [local irreducible] Lift.PCall Lift.HCall
end Go.Proofs.Ytlhobedecoeohaa
