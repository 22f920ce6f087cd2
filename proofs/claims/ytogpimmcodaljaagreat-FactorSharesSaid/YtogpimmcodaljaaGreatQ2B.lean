/- The reference's fractions: size, Make, Compare, Same, Least, Sum, Right; the program's Right of any fraction. -/
import Derived.Test.YtogpimmcodaljaaGreatQ2A
import Derived.Test.YtogpimmcodaljaaGreatGS
set_option linter.unusedVariables false
set_option maxRecDepth 20000
set_option linter.unusedSimpArgs false
namespace Go.Proofs.YtogpimmcodaljaaGreat
open Go Go.Proofs.YtogpimmcodaljaaGreat.Lift
attribute [local irreducible] Lift.PCall Lift.HCall
def gcd1 (g : Nat) : Bool := decide (g = 1)
def isR (s : Bool) (a b : List Nat) : Bool := right a && right b && decide (0 < b.length) && gcd1 (Nat.gcd (val a) (val b)) && (!s || decide (0 < a.length))
theorem gcd_lt {a b : List Nat} (hla : a.length < 2 ^ 36) (hlb : b.length < 2 ^ 36) (ha : Dg a) (hb : Dg b) : (digits (Nat.gcd (val a) (val b))).length < 2 ^ 36 := by
 have h1 := digits_length_val ha
 have h2 := digits_length_val hb
 by_cases h : val b = 0
 ·rw [h, Nat.gcd_zero_right]; omega
 ·have := digits_len_mono (Nat.gcd_le_right (val a) (Nat.pos_of_ne_zero h))
  omega
set_option maxRecDepth 20000 in
set_option maxHeartbeats 4000000 in
theorem qright_raw (s : Bool) (a b : List Nat) (ha : Dg a) (hb : Dg b) (hla : a.length < 2 ^ 36) (hlb : b.length < 2 ^ 36) : PCall Tryz.prog 66 [rR s a b] (.b (isR s a b)) [] := by
 have c1 := right_ok a (by omega)
 have c2 := right_ok b (by omega)
 have c3 := gcd_ok a b ha hb hla hlb
 have c4 := small_n (Nat.gcd (val a) (val b)) (by have := gcd_lt hla hlb ha hb; omega)
 obtain ⟨R, hR⟩ : ∃ R, isR s a b = R := ⟨_, rfl⟩
 rw [hR]
 unfold isR at hR
 generalize Nat.gcd (val a) (val b) = g at *
 unfold gcd1 at hR
 unfold smallV at c4
 refine PCall.of_ax Tryz.call66 Tryz.func66 rfl (by simp [Tryz.ntmps66]) fun O w => ?_
 simp only [Tryz.ntmps66, Tryz.results66, argFr]
 refine AX.sR (rgAV [1]) ?_
 cases hra : right a
 ·rw [hra] at c1
  have e : R = false := by rw [← hR, hra]; rfl
  subst e
  refine AX.seq ?_
  refine AX.sR (rgCV [1, 30] (aI c1 oT)) ?_
  refine AX.condT ?_
  refine AX.sR (rgAV [2]) ?_
  refine AX.ret ⟨.inl rfl, ?_⟩
  exact Done.one rfl rfl rfl rfl
 rw [hra] at c1
 cases hrb : right b
 ·rw [hrb] at c2
  have e : R = false := by rw [← hR, hra, hrb]; rfl
  subst e
  refine AX.seq ?_
  refine AX.sR (rgCV [1, 30] (aI c1 (aI c2 oT))) ?_
  refine AX.condT ?_
  refine AX.sR (rgAV [2]) ?_
  refine AX.ret ⟨.inl rfl, ?_⟩
  exact Done.one rfl rfl rfl rfl
 rw [hrb] at c2
 by_cases hb0 : b.length = 0
 ·have e : R = false := by rw [← hR, hra, hrb, decide_eq_false (by omega : ¬ 0 < b.length)]; rfl
  subst e
  refine AX.seq ?_
  refine AX.sR (rgCV [1, 30] (aI c1 (aI c2 oT))) ?_
  refine AX.condT ?_
  refine AX.sR (rgAV [2]) ?_
  refine AX.ret ⟨.inl rfl, ?_⟩
  exact Done.one rfl rfl rfl rfl
 refine AX.cutR (fun st => (s = false ∨ 0 < a.length) ∧ st = ⟨[(1, .ptr 0 0)], [(0, ⟨38, [.b s, dg a, dg b]⟩)], 1⟩) ?_ ?_
 ·by_cases ha0 : a.length = 0
  ·cases s
   ·refine AX.sR (rgCV [1, 30] (aI c1 (aI c2 oT))) ?_
    refine AX.condF ?_
    refine AX.keepA [1] ?_
    refine AX.skip ⟨.inl rfl, rfl⟩
   ·have e : R = false := by rw [← hR, decide_eq_false (by omega : ¬ 0 < a.length)]; simp
    subst e
    refine AX.sR (rgCV [1, 30] (aI c1 (aI c2 oT))) ?_
    refine AX.condT ?_
    refine AX.sR (rgAV [2]) ?_
    refine AX.ret ⟨.inl rfl, ?_⟩
    exact Done.one rfl rfl rfl rfl
  ·refine AX.sR (rgCV [1, 30] (aI c1 (aI c2 oT))) ?_
   refine AX.condF ?_
   refine AX.keepA [1] ?_
   refine AX.skip ⟨.inr (by omega), rfl⟩
 rintro st ⟨hs, rfl⟩
 have e : R = decide (g = 1) := by
  rw [← hR, hra, hrb, decide_eq_true (by omega : 0 < b.length)]
  rcases hs with rfl | hs
  ·simp
  ·rw [decide_eq_true hs]; simp
 subst e
 clear hR
 by_cases hg : g = 1
 ·subst hg
  refine AX.sR (rgCV [3, 4] (aI c3 (aI c4 oT))) ?_
  refine AX.sR (rgAV [2]) ?_
  refine AX.ret ⟨.inl rfl, ?_⟩
  exact Done.one rfl rfl rfl rfl
 ·rw [decide_eq_false hg]
  by_cases hg2 : g < 18446744073709551616
  ·have e : smallN g = g := if_pos hg2
   rw [decide_eq_true hg2, e] at c4
   refine AX.sR (rgCV [3, 4] (aI c3 (aI c4 oT))) ?_
   refine AX.sR (rgWV [2] (aI @hg oT) oT) ?_
   refine AX.ret ⟨.inl rfl, ?_⟩
   exact Done.one rfl rfl rfl rfl
  ·rw [decide_eq_false hg2] at c4
   refine AX.sR (rgCV [3, 4] (aI c3 (aI c4 oT))) ?_
   refine AX.sR (rgAV [2]) ?_
   refine AX.ret ⟨.inl rfl, ?_⟩
   exact Done.one rfl rfl rfl rfl
theorem cmp_one (g : Nat) : decide (cmp g 1 = 0) = gcd1 g := by
 unfold gcd1
 by_cases h : g = 1
 ·subst h; rw [decide_eq_true rfl, cmp_eq, decide_eq_true rfl]
 ·rw [decide_eq_false h]
  apply decide_eq_false
  unfold cmp
  split <;> first | omega | (split <;> omega)
set_option maxRecDepth 20000 in
set_option maxHeartbeats 4000000 in
theorem pright_ok (s : Bool) (a b : List Nat) (ha : Dg a) (hb : Dg b) (hla : a.length < 2 ^ 36) (hlb : b.length < 2 ^ 36) : PCall Tryz.prog 43 [rR s a b] (.b (isR s a b)) [] := by
 have c1 := rright_ok a (by omega)
 have c2 := rright_ok b (by omega)
 have c3 := rgcd_ok a b ha hb hla hlb
 have c4 := rof_ok 1 (by omega)
 have l1 : (digits 1).length ≤ 2 := lenS (by omega)
 have c5 := rcmp_n (Nat.gcd (val a) (val b)) 1 (by have := gcd_lt hla hlb ha hb; omega) (by omega)
 have c6 := rcmp_ok b (digits 1) hb (Dg_digits _) (by omega) (by omega)
 rw [val_digits] at c6
 have z5 := cmp_one (Nat.gcd (val a) (val b))
 have z6 := cmp_one (val b)
 have z7 : a.length = 0 → Nat.gcd (val a) (val b) = val b := by
  intro h
  rw [List.length_eq_zero_iff.1 h]
  exact Nat.gcd_zero_left _
 clear l1
 obtain ⟨R, hR⟩ : ∃ R, isR s a b = R := ⟨_, rfl⟩
 rw [hR]
 unfold isR at hR
 generalize Nat.gcd (val a) (val b) = g at *
 unfold gcd1 at hR z5 z6
 generalize val b = vb at *
 generalize cmp g 1 = x5 at *
 generalize cmp vb 1 = x6 at *
 refine PCall.of_ax Tryz.call43 Tryz.func43 rfl (by simp [Tryz.ntmps43]) fun O w => ?_
 simp only [Tryz.ntmps43, Tryz.results43, argFr]
 refine AX.sR (rgAV [1]) ?_
 refine AX.seq ?_
 cases hra : right a
 ·rw [hra] at c1
  have e : R = false := by rw [← hR, hra]; rfl
  subst e
  refine AX.sR (rgCV [1, 18] (aI c1 oT)) ?_
  refine AX.condT ?_
  refine AX.sR (rgAV [2]) ?_
  refine AX.ret ⟨.inl rfl, ?_⟩
  exact Done.one rfl rfl rfl rfl
 rw [hra] at c1
 cases hrb : right b
 ·rw [hrb] at c2
  have e : R = false := by rw [← hR, hra, hrb]; rfl
  subst e
  refine AX.sR (rgCV [1, 18] (aI c1 (aI c2 oT))) ?_
  refine AX.condT ?_
  refine AX.sR (rgAV [2]) ?_
  refine AX.ret ⟨.inl rfl, ?_⟩
  exact Done.one rfl rfl rfl rfl
 rw [hrb] at c2
 by_cases hb0 : b.length = 0
 ·have e : R = false := by rw [← hR, hra, hrb, decide_eq_false (by omega : ¬ 0 < b.length)]; rfl
  subst e
  refine AX.sR (rgCV [1, 18] (aI c1 (aI c2 oT))) ?_
  refine AX.condT ?_
  refine AX.sR (rgAV [2]) ?_
  refine AX.ret ⟨.inl rfl, ?_⟩
  exact Done.one rfl rfl rfl rfl
 rw [hra, hrb, decide_eq_true (by omega : 0 < b.length)] at hR
 refine AX.sR (rgCV [1, 18] (aI c1 (aI c2 oT))) ?_
 refine AX.condF ?_
 refine AX.keepA [1] ?_
 refine AX.skip ?_
 refine nmZ ?_
 refine AX.seq ?_
 by_cases ha0 : a.length = 0
 ·rw [decide_eq_false (by omega : ¬ 0 < a.length), z7 ha0, ← z6] at hR
  refine AX.sR (rgAV [1, 22]) ?_
  refine AX.condT ?_
  cases s
  ·have e : R = decide (x6 = 0) := by rw [← hR]; simp
   subst e
   clear hR
   refine AX.sD (rgDCV [2] (aI c4 (aI c6 oT))) ?_
   refine AX.ret ⟨.inl rfl, ?_⟩
   exact Done.one rfl rfl rfl rfl
  ·have e : R = false := by rw [← hR]; simp
   subst e
   refine AX.sD (rgDCV [2] (aI c4 (aI c6 oT))) ?_
   refine AX.ret ⟨.inl rfl, ?_⟩
   exact Done.one rfl rfl rfl rfl
 ·rw [decide_eq_true (by omega : 0 < a.length), ← z5] at hR
  have e : R = decide (x5 = 0) := by rw [← hR]; cases s <;> simp
  subst e
  clear hR
  refine AX.sR (rgAV [1, 22]) ?_
  refine AX.condF ?_
  refine AX.keepA [1] ?_
  refine AX.skip ?_
  refine nmZ ?_
  refine AX.sR (rgCV [2] (aI c3 (aI c4 (aI c5 oT)))) ?_
  refine AX.ret ⟨.inl rfl, ?_⟩
  exact Done.one rfl rfl rfl rfl
theorem psgn_sub (A B : Rat) : sgnR (A - B) = cmpR A B := by
 have tri : A < B ∨ A = B ∨ B < A := by grind
 unfold sgnR
 rcases tri with h | h | h
 ·rw [cmpR_lt h, if_pos (by grind)]
 ·subst h; rw [cmpR_self, if_neg (by grind), if_pos (by grind)]
 ·rw [cmpR_gt h, if_neg (by grind), if_neg (by grind)]
set_option maxHeartbeats 2000000 in
theorem pcmp_ok {x y : V} {p q : Rat} {L : Nat} (hx : IsQ x p L) (hy : IsQ y q L) (hL : L < 2 ^ 33) (hL1 : 1 ≤ L) : PCall Tryz.prog 40 [x, y] (.i .i64 (cmpR p q)) [] := by
 have c1 := psub_ok hx hy hL hL1
 have l1 := rL_sub p q (hx.rL hL1) (hy.rL hL1)
 have c2 := psign_ok (IsQ.of l1) (by omega)
 rw [psgn_sub] at c2
 obtain ⟨s, a, b, rfl, ha, hb, hp, hla, hlb⟩ := hx
 obtain ⟨t, c, d, rfl, hc, hd, hq, hlc, hld⟩ := hy
 refine PCall.of_ax Tryz.call40 Tryz.func40 rfl (by simp [Tryz.ntmps40]) fun O w => ?_
 simp only [Tryz.ntmps40, Tryz.results40, argFr]
 generalize p - q = R at *
 generalize cmpR p q = Z at *
 refine AX.sR (rgAV [2, 3]) ?_
 refine AX.sR (rgCV [4] (aI c1 (aI c2 oT))) ?_
 refine AX.ret ⟨.inl rfl, ?_⟩
 exact Done.one rfl rfl rfl rfl
theorem cmp0_dec (p q : Rat) : decide (cmpR p q = 0) = decide (p = q) := decide_eq_decide.2 cmpR_eq_zero
set_option maxHeartbeats 2000000 in
theorem psame_ok {x y : V} {p q : Rat} {L : Nat} (hx : IsQ x p L) (hy : IsQ y q L) (hL : L < 2 ^ 33) (hL1 : 1 ≤ L) : PCall Tryz.prog 17 [x, y] (.b (decide (p = q))) [] := by
 have c1 := pcmp_ok hx hy hL hL1
 have e := cmp0_dec p q
 obtain ⟨s, a, b, rfl, ha, hb, hp, hla, hlb⟩ := hx
 obtain ⟨t, c, d, rfl, hc, hd, hq, hlc, hld⟩ := hy
 refine PCall.of_ax Tryz.call17 Tryz.func17 rfl (by simp [Tryz.ntmps17]) fun O w => ?_
 simp only [Tryz.ntmps17, Tryz.results17, argFr]
 rw [← e]
 generalize cmpR p q = Z at *
 refine AX.sR (rgAV [2, 3]) ?_
 refine AX.sR (rgCV [4] (aI c1 oT)) ?_
 refine AX.ret ⟨.inl rfl, ?_⟩
 exact Done.one rfl rfl rfl rfl
end Go.Proofs.YtogpimmcodaljaaGreat
