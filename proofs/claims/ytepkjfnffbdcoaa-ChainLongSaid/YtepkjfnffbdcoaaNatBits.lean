/- Bits. -/
import Derived.Test.YtepkjfnffbdcoaaGH
set_option linter.unusedVariables false
set_option maxRecDepth 20000
set_option linter.unusedSimpArgs false
namespace Go.Proofs.Ytepkjfnffbdcoaa
open Go Go.Proofs.Ytepkjfnffbdcoaa.Lift
attribute [local irreducible] Lift.PCall Lift.HCall
theorem bits_ok (a : List Nat) (ha : Dg a) (hl : a.length < 2 ^ 40) : PCall Try.prog 98 [dg a] (.i .i64 (blen (val a))) [] := by
  refine PCall.of_ax Try.call98 Try.func98 rfl (by simp [Try.ntmps98]) fun O w => ?_
  simp only [Try.ntmps98, Try.results98, argFr]
  have c1 := ntrim_ok a ha hl
  have hm := digits_length_val ha
  generalize val a = m at *
  refine AX.sregA [0] (hq := ?_)
  refine AX.sregC [0] (And.intro c1 True.intro) (hq := ?_)
  refine AX.seq ?_
  by_cases h : (digits m).length = 0
  · refine AX.sregA [0, 7] (hq := ?_)
    refine AX.condT (h := ?_)
    refine AX.sregA [2] (hq := ?_)
    refine AX.ret (And.intro (Or.inl rfl) ?_)
    rw [digits_len_zero.1 h, blen_zero]
    exact Done.one rfl (by simp only [frz]; rfl) rfl rfl
  · refine AX.sregA [0, 7] (hq := ?_)
    refine AX.condF (h := ?_)
    refine AX.skip ?_
    try simp only [thenS_normal, thenS_ret, thenS_exit, blockS_normal, blockS_ret, blockS_exit, backS_ret, backS_exit, if_true]
    have h1 : (((digits m).length : Nat) : Int) - 1 = (((digits m).length - 1 : Nat) : Int) := by omega
    have hb := Dg_getD (Dg_digits m) ((digits m).length - 1)
    have hb2 := blen_le (n := (digits m).getD ((digits m).length - 1) 0) (k := 32) (by omega)
    have c2 := len32_ok _ hb
    have hbl := blen_digits (n := m) (fun e => h (by rw [e, digits_zero]; rfl))
    refine AX.sregW [2] (And.intro @h1 True.intro) (And.intro c2 True.intro) (hq := ?_)
    refine AX.ret (And.intro (Or.inl rfl) ?_)
    refine Done.of rfl (by simp only [packV, frz]; rfl) ?_ rfl rfl
    rw [hbl]
    congr 1



end Go.Proofs.Ytepkjfnffbdcoaa
