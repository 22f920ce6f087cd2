/- Power by 1, whose result is the caller's own. -/
import Derived.Test.YtlhobedecoeohaaNatO3
import Derived.Test.YtlhobedecoeohaaGW
set_option linter.unusedVariables false
set_option linter.unusedSimpArgs false
namespace Go.Proofs.Ytlhobedecoeohaa
open Go Go.Proofs.Ytlhobedecoeohaa.Lift
attribute [local irreducible] Lift.PCall Lift.HCall
theorem padD_len : ∀ k v, (padD k v).length = k
 | 0, _ => rfl
 | k + 1, v => by
  show (padD k (v / 4294967296)).length + 1 = k + 1
  rw [padD_len k]
set_option maxHeartbeats 4000000 in
theorem power1_o (a : List Nat) (ha : Dg a) (hla : a.length ≤ 60) : ∃ (l : List Nat) (n : Nat), n ≤ l.length ∧ l.length < 2 ^ 40 ∧ PCall Try.prog 38 [dg a, .i .i64 1] (.tup [.own 0 0 n 1, .i .i64 0]) [⟨50, l.map u⟩] := by
 have c1 := bits_ok a ha (by omega)
 have hma := digits_length_val ha
 have hbl := blen_digits_le (val a)
 have c5 := of_ok 1 (by omega)
 have c6 := ntrim_ok a ha (by omega)
 generalize val a = v at *
 have eq1 : Int.tdiv 100000 ((blen v : Nat) : Int) = ((100000 / blen v : Nat) : Int) := rfl
 have hq1 : 0 < blen v → ¬ (((100000 / blen v : Nat) : Int) < 1) := fun h0 => by
  have : 1 ≤ 100000 / blen v := (Nat.le_div_iff_mul_le h0).2 (by omega)
  omega
 have hq := Nat.div_le_self 100000 (blen v)
 have hl1 : (digits 1).length = 1 := by rw [digits_pos (by decide), show 1 / 4294967296 = 0 from rfl, digits_zero]; rfl
 have e5 := and_one 1 (by omega)
 by_cases hz : v = 0
 ·refine ⟨[], 0, Nat.le_refl _, by decide, ?_⟩
  subst hz
  have hl0 : (digits 0).length = 0 := digits_len_zero.2 rfl
  have hb0 : blen 0 = 0 := rfl
  rw [hb0] at c1
  refine PCall.of_ax Try.call38 Try.func38 rfl (by simp [Try.ntmps38]) fun O w => ?_
  simp only [Try.ntmps38, Try.results38, argFr]
  refine AX.sR (rgAV [0, 1, 4, 5]) ?_
  refine AX.seq ?_
  refine AX.sR (rgCV [0, 1, 4, 5, 6] (aI c1 oT)) ?_
  refine AX.block ?_
  refine AX.sR (rgAV [0, 1, 4, 5, 6, 11]) ?_
  refine AX.condF ?_
  refine AX.sR (rgAV [0, 1, 6, 14]) ?_
  refine AX.condF ?_
  refine AX.skip ?_
  refine nmZ ?_
  refine AX.sR (rgCV [1, 7, 8] (aI c5 (aI c6 oT))) ?_
  refine AX.seq ?_
  refine AX.sR (rgAV [1, 7, 8, 32]) ?_
  refine AX.condT ?_
  refine AX.sR (rgAV [4, 5]) ?_
  refine AX.own0 4 50 1 rfl ?_
  refine AX.ret ⟨.inl rfl, ?_⟩
  exact Done.ownRowE (l := []) rfl rfl rfl
 ·refine ⟨padD ((digits 1).length + (digits v).length) (1 * v), (digits (1 * v)).length, by rw [padD_len, Nat.one_mul]; omega, by rw [padD_len]; omega, ?_⟩
  have hv0 : (digits v).length ≠ 0 := fun h => hz (digits_len_zero.1 h)
  have k1 := mul_o (digits 1) (digits v) (Dg_digits _) (Dg_digits _) (by omega) (by omega)
  rw [val_digits, val_digits] at k1
  generalize (digits (1 * v)).length = n at *
  generalize padD ((digits 1).length + (digits v).length) (1 * v) = l at *
  refine PCall.of_ax Try.call38 Try.func38 rfl (by simp [Try.ntmps38]) fun O w => ?_
  simp only [Try.ntmps38, Try.results38, argFr]
  refine AX.sR (rgAV [0, 1, 4, 5]) ?_
  refine AX.seq ?_
  refine AX.sR (rgCV [0, 1, 4, 5, 6] (aI c1 oT)) ?_
  refine AX.block ?_
  refine AX.sR (rgAV [0, 1, 4, 5, 6, 11]) ?_
  refine AX.condF ?_
  refine AX.cut (fun st => st = ⟨[(14, .b false), (6, .i .i64 (blen v)), (0, dg a), (1, .i .i64 1)], [], 0⟩) ?_ ?_
  ·by_cases h1 : 0 < blen v
   ·have h2 := hq1 h1
    clear hbl
    generalize 100000 / blen v = q at *
    generalize blen v = b at *
    refine AX.rR (rgWV [0, 1, 6, 14] (aI @eq1 oT) oT) ?_
    exact ⟨rfl, rfl⟩
   ·clear hq1
    generalize blen v = b at *
    refine AX.rR (rgAV [0, 1, 6, 14]) ?_
    exact ⟨rfl, rfl⟩
  rintro st rfl
  refine AX.condF ?_
  refine AX.skip ?_
  refine nmZ ?_
  refine AX.sR (rgCV [1, 7, 8] (aI c5 (aI c6 oT))) ?_
  clear c1 c5 c6 hq1 hbl hq eq1
  refine AX.seq ?_
  refine AX.sR (rgAV [1, 7, 8, 32]) ?_
  refine AX.condF ?_
  refine AX.keepA [1, 7, 8] ?_
  refine AX.skip ?_
  refine nmZ ?_
  refine AX.seq ?_
  refine AX.block ?_
  refine AX.loop (fun N st => (N = 1 ∧ st = ⟨[(8, nv v), (7, nv 1), (1, .i .i64 1)], [], 0⟩) ∨ (N = 0 ∧ st = ⟨[(7, .own 0 0 n 1), (1, .i .i64 0)], [(0, ⟨50, l.map u⟩)], 1⟩)) 1 (.inl ⟨rfl, rfl⟩) ?_
  rintro N st (⟨rfl, rfl⟩ | ⟨rfl, rfl⟩)
  ·refine AX.seq ?_
   refine AX.sR (rgAV [1, 7, 8, 34]) ?_
   refine AX.condT ?_
   refine AX.keepA [1, 7, 8] ?_
   refine AX.skip ?_
   refine nmZ ?_
   refine AX.seq ?_
   refine AX.block ?_
   have e5' : andI .i64 1 1 = 1 := by decide
   refine AX.seq ?_
   refine AX.sR (rgWV [1, 7, 8, 39] (aI @e5' oT) oT) ?_
   refine AX.condT ?_
   refine AX.keepA [1, 7, 8] ?_
   refine AX.rR (rgCV [1, 7, 8] (aI k1 oT)) ?_
   refine nmZ ?_
   refine AX.sR (rgAV [1, 7, 8, 44]) ?_
   refine AX.condF ?_
   refine AX.keepA [1, 7] ?_
   refine AX.skip ?_
   refine nmZ ?_
   have e6 : Int.fdiv 1 (2 ^ (min 1 64)) = 0 := by decide
   refine AX.rR (rgWV [1, 7] (aI @e6 oT) oT) ?_
   refine nmZ ?_
   refine ⟨0, _, id, by omega,
    leQ0
    , .inr ⟨rfl, rfl⟩⟩
  ·refine AX.seq ?_
   refine AX.sR (rgAV [1, 7, 34]) ?_
   refine AX.condF ?_
   refine AX.exit ?_
   refine nmZ ?_
   refine AX.sR (rgAV [4, 5]) ?_
   refine AX.ret ⟨.inl rfl, ?_⟩
   exact Done.ownRowE rfl rfl rfl
end Go.Proofs.Ytlhobedecoeohaa
