/- Right, Same, few, Len32, Bits, Of, Small, Compare. -/
import Derived.Test.YtepkjfnffbdcoaaGF
set_option linter.unusedVariables false
set_option maxRecDepth 20000
set_option linter.unusedSimpArgs false
namespace Go.Proofs.Ytepkjfnffbdcoaa
open Go Go.Proofs.Ytepkjfnffbdcoaa.Lift
attribute [local irreducible] Lift.PCall Lift.HCall

def right (l : List Nat) : Bool := decide (l.length = 0 ∨ l.getD (l.length - 1) 0 ≠ 0)

theorem right_0 {l : List Nat} (h : l.length = 0) : right l = true := decide_eq_true (.inl h)
theorem right_t {l : List Nat} (h : ¬ l.getD (l.length - 1) 0 = 0) : right l = true := decide_eq_true (.inr h)
theorem right_f {l : List Nat} (h : ¬ l.length = 0) (h1 : l.getD (l.length - 1) 0 = 0) : right l = false := decide_eq_false (by rintro (h2 | h2); exact h h2; exact h2 h1)

theorem right_ok (l : List Nat) (hl : l.length < 2 ^ 40) : PCall Try.prog 61 [dg l] (.b (right l)) [] := by
  refine PCall.of_ax Try.call61 Try.func61 rfl (by simp [Try.ntmps61]) fun O w => ?_
  simp only [Try.ntmps61, Try.results61, argFr]
  refine AX.sregA [0] (hq := ?_)
  by_cases h : l.length = 0
  · refine AX.sregA [2] (hq := ?_)
    refine AX.ret (And.intro (Or.inl rfl) ?_)
    rw [right_0 h]
    exact Done.one rfl (by simp only [frz]; rfl) rfl rfl
  · have h1 : ((l.length : Nat) : Int) - 1 = ((l.length - 1 : Nat) : Int) := by omega
    by_cases hz : l.getD (l.length - 1) 0 = 0
    · refine AX.sregW [2] (And.intro @h1 (And.intro @hz True.intro)) True.intro (hq := ?_)
      refine AX.ret (And.intro (Or.inl rfl) ?_)
      rw [right_f h hz]
      exact Done.one rfl (by simp only [frz]; rfl) rfl rfl
    · refine AX.sregW [2] (And.intro @h1 True.intro) True.intro (hq := ?_)
      refine AX.ret (And.intro (Or.inl rfl) ?_)
      rw [right_t hz]
      exact Done.one rfl (by simp only [frz]; rfl) rfl rfl

end Go.Proofs.Ytepkjfnffbdcoaa

/- few, Len32, Bits, Of, Small, Compare. -/
set_option linter.unusedVariables false
set_option linter.unusedSimpArgs false
namespace Go.Proofs.Ytepkjfnffbdcoaa
open Go Go.Proofs.Ytepkjfnffbdcoaa.Lift
attribute [local irreducible] Lift.PCall Lift.HCall

theorem ntrim_ok (l : List Nat) (hd : Dg l) (hl : l.length < 2 ^ 40) : PCall Try.prog 65 [dg l] (nv (val l)) [] := by
  have := trim_ok l hl
  rwa [trim_eq hd] at this
theorem of_ok (n : Nat) (hn : n < 18446744073709551616) : PCall Try.prog 58 [.i .u64 n] (nv n) [] := by
  have hv : val [n % 4294967296, n / 4294967296] = n := by simp only [val]; omega
  have hd : Dg [n % 4294967296, n / 4294967296] := by
    intro x hx
    simp at hx
    omega
  refine PCall.of_ax Try.call58 Try.func58 rfl (by simp [Try.ntmps58]) fun O w => ?_
  simp only [Try.ntmps58, Try.results58, argFr]
  have h1 := ntrim_ok _ hd (by simp)
  rw [hv] at h1
  have h2 := clone_ok (digits n) (by have := digits_length_le (n := n) (k := 2) (by omega); omega)
  refine AX.sregA [0] (hq := ?_)
  have hm : n / 4294967296 % 4294967296 = n / 4294967296 := Nat.mod_eq_of_lt (by omega)
  refine AX.sregW [2] (And.intro @shr32 (And.intro @u32n (And.intro @hm True.intro))) (And.intro h1 (And.intro h2 True.intro)) (hq := ?_)
  refine AX.ret (And.intro (Or.inl rfl) ?_)
  exact Done.sl rfl


end Go.Proofs.Ytepkjfnffbdcoaa

/- Len32, Bits, Small, Compare. -/
set_option linter.unusedVariables false
set_option linter.unusedSimpArgs false
namespace Go.Proofs.Ytepkjfnffbdcoaa
open Go Go.Proofs.Ytepkjfnffbdcoaa.Lift
attribute [local irreducible] Lift.PCall Lift.HCall


theorem cmp_ok (a b : List Nat) (ha : Dg a) (hb : Dg b) (hla : a.length < 2 ^ 40) (hlb : b.length < 2 ^ 40) : PCall Try.prog 43 [dg a, dg b] (.i .i64 (cmp (val a) (val b))) [] := by
  refine PCall.of_ax Try.call43 Try.func43 rfl (by simp [Try.ntmps43]) fun O w => ?_
  simp only [Try.ntmps43, Try.results43, argFr]
  have c1 := ntrim_ok a ha hla
  have c2 := ntrim_ok b hb hlb
  have hma := digits_length_val ha
  have hmb := digits_length_val hb
  generalize val a = m at *
  generalize val b = n at *
  refine AX.sregA [0, 1] (hq := ?_)
  refine AX.sregC [0, 1] (And.intro c1 (And.intro c2 True.intro)) (hq := ?_)
  refine AX.seq ?_
  refine AX.block ?_
  by_cases h1 : (digits m).length < (digits n).length
  · refine AX.sregA [0, 1, 10] (hq := ?_)
    refine AX.condT (h := ?_)
    refine AX.sregA [4] (hq := ?_)
    refine AX.ret (And.intro (Or.inl rfl) ?_)
    rw [cmp_lt (digits_len_lt h1)]
    exact Done.one rfl (by simp only [frz]; rfl) rfl rfl
  refine AX.sregA [0, 1, 10] (hq := ?_)
  refine AX.condF (h := ?_)
  by_cases h2 : (digits n).length < (digits m).length
  · refine AX.sregA [0, 1, 16] (hq := ?_)
    refine AX.condT (h := ?_)
    refine AX.sregA [4] (hq := ?_)
    refine AX.ret (And.intro (Or.inl rfl) ?_)
    rw [cmp_gt (digits_len_lt h2)]
    exact Done.one rfl (by simp only [frz]; rfl) rfl rfl
  refine AX.sregA [0, 1, 16] (hq := ?_)
  refine AX.condF (h := ?_)
  refine AX.skip ?_
  try simp only [thenS_normal, thenS_ret, thenS_exit, blockS_normal, blockS_ret, blockS_exit, backS_ret, backS_exit, if_true]
  refine AX.seq ?_
  refine AX.sregA [0, 1, 5] (hq := ?_)
  refine AX.block ?_
  have hl : (digits m).length = (digits n).length := by omega
  refine AX.loop (fun N st => ∃ k : Nat, k ≤ (digits m).length ∧ N = k ∧ (∀ j, k ≤ j → j < (digits m).length → (digits m).getD j 0 = (digits n).getD j 0) ∧ st = ⟨[(5, .i .i64 ((k : Int) - 1)), (1, nv n), (0, nv m)], [], 0⟩) (digits m).length ⟨(digits m).length, Nat.le_refl _, rfl, fun j h1 h2 => absurd h2 (Nat.not_lt.2 h1), rfl⟩ ?_
  rintro N st ⟨k, hk, rfl, hj, rfl⟩
  refine AX.seq ?_
  cases N with
  | zero =>
    refine AX.sregA [0, 1, 5, 26] (hq := ?_)
    refine AX.condF (h := ?_)
    refine AX.exit ?_
    try simp only [thenS_normal, thenS_ret, thenS_exit, blockS_normal, blockS_ret, blockS_exit, backS_ret, backS_exit, if_true]
    refine AX.sregA [4] (hq := ?_)
    refine AX.ret (And.intro (Or.inl rfl) ?_)
    have := digits_inj (eq_of_getD hl fun j h => hj j (Nat.zero_le _) h)
    subst this
    rw [cmp_eq]
    exact Done.one rfl (by simp only [frz]; rfl) rfl rfl
  | succ k =>
    have e1 : ((k + 1 : Nat) : Int) - 1 = (k : Int) := by omega
    rw [e1]
    refine AX.sregA [0, 1, 5, 26] (hq := ?_)
    refine AX.condT (h := ?_)
    refine AX.skip ?_
    try simp only [thenS_normal, thenS_ret, thenS_exit, blockS_normal, blockS_ret, blockS_exit, backS_ret, backS_exit, if_true]
    refine AX.seq ?_
    refine AX.block ?_
    refine AX.block ?_
    by_cases h3 : (digits m).getD k 0 < (digits n).getD k 0
    · refine AX.sdregA [0, 1, 5, 29] (hq := ?_)
      refine AX.condT (h := ?_)
      refine AX.sregA [4] (hq := ?_)
      refine AX.ret (And.intro (Or.inl rfl) ?_)
      have := val_lt_at (Dg_digits m) (Dg_digits n) hl (i := k) (by omega) (fun j h1 h2 => hj j (by omega) h2) h3
      rw [val_digits, val_digits] at this
      rw [cmp_lt this]
      exact Done.one rfl (by simp only [frz]; rfl) rfl rfl
    · refine AX.sdregA [0, 1, 5, 29] (hq := ?_)
      refine AX.condF (h := ?_)
      by_cases h4 : (digits n).getD k 0 < (digits m).getD k 0
      · refine AX.sdregA [0, 1, 5, 39] (hq := ?_)
        refine AX.condT (h := ?_)
        refine AX.sregA [4] (hq := ?_)
        refine AX.ret (And.intro (Or.inl rfl) ?_)
        have := val_lt_at (Dg_digits n) (Dg_digits m) hl.symm (i := k) (by omega) (fun j h1 h2 => (hj j (by omega) (by omega)).symm) h4
        rw [val_digits, val_digits] at this
        rw [cmp_gt this]
        exact Done.one rfl (by simp only [frz]; rfl) rfl rfl
      · refine AX.sdregA [0, 1, 5, 39] (hq := ?_)
        refine AX.condF (h := ?_)
        refine AX.skip ?_
        try simp only [thenS_normal, thenS_ret, thenS_exit, blockS_normal, blockS_ret, blockS_exit, backS_ret, backS_exit, if_true]
        refine AX.regA [0, 1, 5] (hq := ?_)
        try simp only [thenS_normal, thenS_ret, thenS_exit, blockS_normal, blockS_ret, blockS_exit, backS_ret, backS_exit, if_true]
        refine ⟨_, _, id, ?_,
          leA
          , ⟨k, by omega, rfl, ?_, rfl⟩⟩
        · omega
        · intro j h1 h2
          by_cases e : j = k
          · subst e; omega
          · exact hj j (by omega) h2

end Go.Proofs.Ytepkjfnffbdcoaa
