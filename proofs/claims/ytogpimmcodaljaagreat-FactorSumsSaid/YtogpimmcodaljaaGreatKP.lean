/- The law FactorMuls. -/
import Derived.Test.YtogpimmcodaljaaGreatKN
set_option linter.unusedVariables false
set_option maxRecDepth 20000
set_option linter.unusedSimpArgs false
namespace Go.Proofs.YtogpimmcodaljaaGreat
open Go Go.Proofs.YtogpimmcodaljaaGreat.Lift
attribute [local irreducible] Lift.PCall Lift.HCall
def Fx (z : V) : Prop := ∃ (vs ws : List Int) (xs : List RT) (e : Int), z = .tup [fV vs ws xs, .i .i64 e] ∧ vs.length < 2 ^ 40 ∧ ws.length < 2 ^ 40 ∧ xs.length < 2 ^ 40 ∧ okY xs ∧ 0 ≤ e ∧ e < 100
theorem Fx.err (e : Int) (h : 0 ≤ e ∧ e < 100) : Fx (.tup [fV [] [] [], .i .i64 e]) := ⟨[], [], [], e, rfl, by decide, by decide, by decide, fun x hx => (List.not_mem_nil hx).elim, h.1, h.2⟩
theorem Fx.fv {t : Nat → Nat} {q : Nat → Rat} (ht : szT t ≤ 4096) (hq : ∀ k, k < szT t → rL (q k) ≤ 2 ^ 30) : Fx (.tup [FV t q, .i .i64 0]) :=
 ⟨ci (vsT t), ci (asT t), xsT t q, 0, rfl, by rw [ci_length]; have := vsT_len t; omega, by rw [ci_length, asT_len]; have := vsT_len t; omega, by rw [xsT_length]; omega, xsT_okY hq, by decide, by decide⟩
theorem Fx.same {z : V} (h : Fx z) : ∃ (A B C : List V) (e : Int), z = .tup [.agg [.sl A, .sl B, .sl C], .i .i64 e] ∧ PCall Tryz.prog 16 [.agg [.sl A, .sl B, .sl C], .i .i64 e, .agg [.sl A, .sl B, .sl C], .i .i64 e] (.b true) [] := by
 obtain ⟨vs, ws, xs, e, rfl, h1, h2, h3, h4, h5⟩ := h
 have := lsame26_ok vs ws xs vs ws xs h1 h2 h3 h1 h2 h3 h4 h4 e e h5 h5
 rw [sameF_self, decide_eq_true rfl] at this
 exact ⟨_, _, _, e, rfl, this⟩
end Go.Proofs.YtogpimmcodaljaaGreat
/- The law FactorCells. -/
set_option linter.unusedVariables false
set_option linter.unusedSimpArgs false
namespace Go.Proofs.YtogpimmcodaljaaGreat
open Go Go.Proofs.YtogpimmcodaljaaGreat.Lift
attribute [local irreducible] Lift.PCall Lift.HCall
end Go.Proofs.YtogpimmcodaljaaGreat
/- Factors (plain): products in any order, sums in any order, a factor moved out of a sum. -/
set_option linter.unusedVariables false
set_option linter.unusedSimpArgs false
namespace Go.Proofs.YtogpimmcodaljaaGreat
open Go Go.Proofs.YtogpimmcodaljaaGreat.Lift
attribute [local irreducible] Lift.PCall Lift.HCall
end Go.Proofs.YtogpimmcodaljaaGreat
/- The law FactorOrders: the walks. -/
set_option linter.unusedVariables false
set_option linter.unusedSimpArgs false
namespace Go.Proofs.YtogpimmcodaljaaGreat
open Go Go.Proofs.YtogpimmcodaljaaGreat.Lift
attribute [local irreducible] Lift.PCall Lift.HCall
end Go.Proofs.YtogpimmcodaljaaGreat
/- The law FactorOrders. -/
set_option linter.unusedVariables false
set_option linter.unusedSimpArgs false
namespace Go.Proofs.YtogpimmcodaljaaGreat
open Go Go.Proofs.YtogpimmcodaljaaGreat.Lift
attribute [local irreducible] Lift.PCall Lift.HCall
structure Bx (L : Nat) (vs ws : List Int) (xs : List RT) : Prop where
 v : vs.length < 2 ^ 40
 w : ws.length < 2 ^ 40
 l : xs.length < 2 ^ 40
 y : okY xs
 f : isF vs ws xs = false ∨ ∃ t q, okT t ∧ (∀ k, k < szT t → rL (q k) ≤ L) ∧ vs = ci (vsT t) ∧ ws = ci (asT t) ∧ xs = xsT t q
theorem isF_nil : isF [] [] [] = false := isF_not fun h => by
 have := h.2.2.2
 exact absurd this (by decide)
theorem Bx.nil (L : Nat) : Bx L [] [] [] := ⟨by decide, by decide, by decide, fun x hx => (List.not_mem_nil hx).elim, .inl isF_nil⟩
theorem Bx.fv {t : Nat → Nat} {q : Nat → Rat} {L : Nat} (ht : okT t) (hL : L ≤ 2 ^ 30) (hq : ∀ k, k < szT t → rL (q k) ≤ L) : Bx L (ci (vsT t)) (ci (asT t)) (xsT t q) :=
 ⟨by rw [ci_length]; have := vsT_len t; omega, by rw [ci_length, asT_len]; have := vsT_len t; omega, by rw [xsT_length]; have := ht.2; omega, xsT_okY fun k hk => Nat.le_trans (hq k hk) hL, .inr ⟨t, q, ht, hq, rfl, rfl, rfl⟩⟩
end Go.Proofs.YtogpimmcodaljaaGreat
