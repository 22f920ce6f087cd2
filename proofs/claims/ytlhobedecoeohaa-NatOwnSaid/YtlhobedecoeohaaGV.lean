/- The reference's trim and at. -/
import Derived.Test.YtlhobedecoeohaaGF
import Derived.Test.YtlhobedecoeohaaGG
set_option linter.unusedVariables false
set_option linter.unusedSimpArgs false
namespace Go.Proofs.Ytlhobedecoeohaa
open Go Go.Proofs.Ytlhobedecoeohaa.Lift
attribute [local irreducible] Lift.PCall Lift.HCall
theorem rtrim_ok (l : List Nat) (hl : l.length < 2 ^ 40) : PCall Try.prog 47 [dg l] (dg (trim l)) [] := by
 refine PCall.of_ax Try.call47 Try.func47 rfl (by simp [Try.ntmps47]) fun O w => ?_
 simp only [Try.ntmps47, Try.results47, argFr]
 refine AX.sR (rgA [0]) ?_
 refine AX.sR (rgA [0, 3]) ?_
 refine AX.seq (AX.block ?_)
 refine AX.loop (fun n st => ∃ k : Nat, k ≤ l.length ∧ n = k ∧ tr l l.length = tr l k ∧ st = ⟨[(3, .i .i64 k), (0, dg l)], [], 0⟩) l.length ⟨l.length, Nat.le_refl _, rfl, rfl, rfl⟩ ?_
 rintro n st ⟨k, hk, rfl, htr, rfl⟩
 refine AX.seq ?_
 cases n with
 | zero =>
  refine AX.sR (rgA [0, 3, 15]) ?_
  refine AX.condF ?_
  refine AX.exit ?_
  simp only [zn3, zn8, zn6, if_true, zn1]
  refine AX.sR (rgA [2]) ?_
  refine AX.ret ⟨.inl rfl, ?_⟩
  rw [trim, htr, tr]
  exact Done.own rfl rfl (by simp) rfl
 | succ k =>
  have hk1 : ((k + 1 : Nat) : Int) - 1 = k := by omega
  by_cases hz : l.getD k 0 = 0
  ·refine AX.sR (rgW [0, 3, 15] (aI @hk1 (aI @hz oT)) oT) ?_
   refine AX.condT ?_
   refine AX.skip ?_
   simp only [zn1]
   refine AX.block ?_
   refine AX.rR (rgW [0, 3] (aI @hk1 oT) oT) ?_
   simp only [zn4]
   refine ⟨k, _, id, Nat.lt_succ_self k,
    leA
    , ⟨k, by omega, rfl, by rw [htr, tr, if_pos hz], rfl⟩⟩
  ·refine AX.sR (rgW [0, 3, 15] (aI @hk1 oT) oT) ?_
   refine AX.condF ?_
   refine AX.exit ?_
   simp only [zn3, zn8, zn6, if_true, zn1]
   refine AX.sR (rgA [2]) ?_
   refine AX.ret ⟨.inl rfl, ?_⟩
   rw [trim, htr, tr, if_neg hz]
   exact Done.own rfl rfl (by simp) rfl
theorem at_ok (l : List Nat) (i : Nat) (hd : Dg l) (hl : l.length < 2 ^ 40) : PCall Try.prog 50 [dg l, .i .i64 i] (.i .u64 (l.getD i 0 : Nat)) [] := by
 refine PCall.of_ax Try.call50 Try.func50 rfl (by simp [Try.ntmps50]) fun O w => ?_
 simp only [Try.ntmps50, Try.results50, argFr]
 have hb := Dg_getD hd i
 refine AX.sR (rgA [0, 1]) ?_
 refine AX.seq ?_
 by_cases h : i < l.length
 ·refine AX.sR (rgA [0, 1, 8]) ?_
  refine AX.condT ?_
  refine AX.sR (rgA [4]) ?_
  refine AX.ret ⟨.inl rfl, ?_⟩
  exact Done.one rfl (by simp only [frz]; rfl) rfl rfl
 ·refine AX.sR (rgA [0, 1, 8]) ?_
  refine AX.condF ?_
  refine AX.skip ?_
  refine nmZ ?_
  refine AX.sR (rgA [4]) ?_
  refine AX.ret ⟨.inl rfl, ?_⟩
  have : l.getD i 0 = 0 := by rw [List.getD_eq_getElem?_getD, List.getElem?_eq_none (by omega)]; rfl
  rw [this]
  exact Done.one rfl (by simp only [frz]; rfl) rfl rfl
end Go.Proofs.Ytlhobedecoeohaa
/- The reference's Right. -/
set_option linter.unusedVariables false
set_option linter.unusedSimpArgs false
namespace Go.Proofs.Ytlhobedecoeohaa
open Go Go.Proofs.Ytlhobedecoeohaa.Lift
attribute [local irreducible] Lift.PCall Lift.HCall
end Go.Proofs.Ytlhobedecoeohaa
/- The reference's Of. -/
set_option linter.unusedVariables false
set_option linter.unusedSimpArgs false
namespace Go.Proofs.Ytlhobedecoeohaa
open Go Go.Proofs.Ytlhobedecoeohaa.Lift
attribute [local irreducible] Lift.PCall Lift.HCall
theorem rntrim_ok (l : List Nat) (hd : Dg l) (hl : l.length < 2 ^ 40) : PCall Try.prog 47 [dg l] (nv (val l)) [] := by
 have := rtrim_ok l hl
 rwa [trim_eq hd] at this
end Go.Proofs.Ytlhobedecoeohaa
/- The reference's Compare and Bits. -/
set_option linter.unusedVariables false
set_option linter.unusedSimpArgs false
namespace Go.Proofs.Ytlhobedecoeohaa
open Go Go.Proofs.Ytlhobedecoeohaa.Lift
attribute [local irreducible] Lift.PCall Lift.HCall
end Go.Proofs.Ytlhobedecoeohaa
/- Bits. -/
set_option linter.unusedVariables false
set_option linter.unusedSimpArgs false
namespace Go.Proofs.Ytlhobedecoeohaa
open Go Go.Proofs.Ytlhobedecoeohaa.Lift
attribute [local irreducible] Lift.PCall Lift.HCall
theorem bits_ok (a : List Nat) (ha : Dg a) (hl : a.length < 2 ^ 40) : PCall Try.prog 26 [dg a] (.i .i64 (blen (val a))) [] := by
 refine PCall.of_ax Try.call26 Try.func26 rfl (by simp [Try.ntmps26]) fun O w => ?_
 simp only [Try.ntmps26, Try.results26, argFr]
 have c1 := ntrim_ok a ha hl
 have hm := digits_length_val ha
 generalize val a = m at *
 refine AX.sR (rgA [0]) ?_
 refine AX.sR (rgC [0] (aI c1 oT)) ?_
 refine AX.seq ?_
 by_cases h : (digits m).length = 0
 ·refine AX.sR (rgA [0, 7]) ?_
  refine AX.condT ?_
  refine AX.sR (rgA [2]) ?_
  refine AX.ret ⟨.inl rfl, ?_⟩
  rw [digits_len_zero.1 h, blen_zero]
  exact Done.one rfl (by simp only [frz]; rfl) rfl rfl
 ·refine AX.sR (rgA [0, 7]) ?_
  refine AX.condF ?_
  refine AX.skip ?_
  refine nmZ ?_
  have h1 : (((digits m).length : Nat) : Int) - 1 = (((digits m).length - 1 : Nat) : Int) := by omega
  have hb := Dg_getD (Dg_digits m) ((digits m).length - 1)
  have hb2 := blen_le (n := (digits m).getD ((digits m).length - 1) 0) (k := 32) (by omega)
  have c2 := len32_ok _ hb
  have hbl := blen_digits (n := m) (fun e => h (by rw [e, digits_zero]; rfl))
  refine AX.sR (rgW [2] (aI @h1 oT) (aI c2 oT)) ?_
  refine AX.ret ⟨.inl rfl, ?_⟩
  refine Done.of rfl (by simp only [packV, frz]; rfl) ?_ rfl rfl
  rw [hbl]
  congr 1
end Go.Proofs.Ytlhobedecoeohaa
