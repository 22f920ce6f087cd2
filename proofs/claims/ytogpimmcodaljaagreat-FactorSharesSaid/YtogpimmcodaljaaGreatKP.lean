/- The law FactorMuls. -/
import Derived.Test.YtogpimmcodaljaaGreatKN
set_option linter.unusedVariables false
set_option maxRecDepth 20000
set_option linter.unusedSimpArgs false
namespace Go.Proofs.YtogpimmcodaljaaGreat
open Go Go.Proofs.YtogpimmcodaljaaGreat.Lift
attribute [local irreducible] Lift.PCall Lift.HCall
def Fx (z : V) : Prop := ∃ (vs ws : List Int) (xs : List RT) (e : Int), z = .tup [fV vs ws xs, .i .i64 e] ∧ vs.length < 2 ^ 40 ∧ ws.length < 2 ^ 40 ∧ xs.length < 2 ^ 40 ∧ okY xs ∧ 0 ≤ e ∧ e < 100
theorem Fx.err (e : Int) (h : 0 ≤ e ∧ e < 100) : Fx (.tup [fV [] [] [], .i .i64 e]) := ⟨[], [], [], e, rfl, by decide, by decide, by decide, fun x hx => (List.not_mem_nil hx).elim, h.1, h.2⟩
theorem Fx.fv {t : Nat → Nat} {q : Nat → Rat} (ht : szT t ≤ 4096) (hq : ∀ k, k < szT t → rL (q k) ≤ 2 ^ 30) : Fx (.tup [FV t q, .i .i64 0]) :=
 ⟨ci (vsT t), ci (asT t), xsT t q, 0, rfl, by rw [ci_length]; have := vsT_len t; omega, by rw [ci_length, asT_len]; have := vsT_len t; omega, by rw [xsT_length]; omega, xsT_okY hq, by decide, by decide⟩
theorem Fx.bo {t s : Nat → Nat} {r : Nat → Rat} (h : ¬ misT t s → ∀ n, n < szT (joT t s) → rL (r n) ≤ 2 ^ 30) : Fx (boV t s r) := by
 unfold boV
 split
 ·exact .err 30 (by decide)
 ·rename_i hm
  split
  ·rename_i hs
   exact .fv hs (h hm)
  ·exact .err 2 (by decide)
theorem Fx.same {z : V} (h : Fx z) : ∃ (A B C : List V) (e : Int), z = .tup [.agg [.sl A, .sl B, .sl C], .i .i64 e] ∧ PCall Tryz.prog 16 [.agg [.sl A, .sl B, .sl C], .i .i64 e, .agg [.sl A, .sl B, .sl C], .i .i64 e] (.b true) [] := by
 obtain ⟨vs, ws, xs, e, rfl, h1, h2, h3, h4, h5⟩ := h
 have := lsame26_ok vs ws xs vs ws xs h1 h2 h3 h1 h2 h3 h4 h4 e e h5 h5
 rw [sameF_self, decide_eq_true rfl] at this
 exact ⟨_, _, _, e, rfl, this⟩
end Go.Proofs.YtogpimmcodaljaaGreat
/- The law FactorCells. -/
set_option linter.unusedVariables false
set_option linter.unusedSimpArgs false
namespace Go.Proofs.YtogpimmcodaljaaGreat
open Go Go.Proofs.YtogpimmcodaljaaGreat.Lift
attribute [local irreducible] Lift.PCall Lift.HCall
end Go.Proofs.YtogpimmcodaljaaGreat
/- Factors (plain): products in any order, sums in any order, a factor moved out of a sum. -/
set_option linter.unusedVariables false
set_option linter.unusedSimpArgs false
namespace Go.Proofs.YtogpimmcodaljaaGreat
open Go Go.Proofs.YtogpimmcodaljaaGreat.Lift
attribute [local irreducible] Lift.PCall Lift.HCall
def smN (f : Nat → Rat) : Nat → Rat
 | 0 => 0
 | n + 1 => smN f n + f n
theorem woX_sm (arm : Int) (f : Nat → Rat) : ∀ n, woX 0 arm f n = smN f n
 | 0 => rfl
 | k + 1 => by
  show (if k = 0 ∨ 0 = 2 ∧ (k : Int) = arm then f k else if 0 = 0 then woX 0 arm f k + f k else _) = smN f k + f k
  rw [woX_sm arm f k]
  by_cases h0 : k = 0
  ·subst h0
   rw [if_pos (.inl rfl)]
   exact (Rat.zero_add _).symm
  ·rw [if_neg (by omega), if_pos rfl]
theorem smN_congr {f g : Nat → Rat} : ∀ n, (∀ k, k < n → f k = g k) → smN f n = smN g n
 | 0, _ => rfl
 | n + 1, h => by
  show smN f n + f n = smN g n + g n
  rw [smN_congr n fun k hk => h k (by omega), h n (by omega)]
theorem smN_zero : ∀ n, smN (fun _ => 0) n = 0
 | 0 => rfl
 | n + 1 => by
  show smN (fun _ => 0) n + 0 = 0
  rw [smN_zero n]
  exact Rat.add_zero _
theorem smN_add (f g : Nat → Rat) : ∀ n, smN (fun k => f k + g k) n = smN f n + smN g n
 | 0 => (Rat.zero_add _).symm
 | n + 1 => by
  show smN (fun k => f k + g k) n + (f n + g n) = smN f n + f n + (smN g n + g n)
  rw [smN_add f g n]
  grind
theorem smN_swap (f : Nat → Nat → Rat) (m : Nat) : ∀ n, smN (fun j => smN (fun k => f j k) m) n = smN (fun k => smN (fun j => f j k) n) m
 | 0 => (smN_zero m).symm
 | n + 1 => by
  show smN (fun j => smN (fun k => f j k) m) n + smN (fun k => f n k) m = smN (fun k => smN (fun j => f j k) n + f n k) m
  rw [smN_swap f m n, smN_add]
theorem smN_mul (f : Nat → Rat) (c : Rat) : ∀ n, smN (fun k => f k * c) n = smN f n * c
 | 0 => (Rat.zero_mul _).symm
 | n + 1 => by
  show smN (fun k => f k * c) n + f n * c = (smN f n + f n) * c
  rw [smN_mul f c n]
  grind
theorem updT_comm (t : Nat → Nat) {v w : Nat} (h : v ≠ w) (x y : Nat) : updT (updT t v x) w y = updT (updT t w y) v x := funext fun u => by
 by_cases e1 : u = w
 ·rw [e1, updT_same, updT_ne _ _ (Ne.symm h), updT_same]
 ·rw [updT_ne _ _ e1]
  by_cases e2 : u = v
  ·rw [e2, updT_same, updT_same]
  ·rw [updT_ne _ _ e2, updT_ne _ _ e2, updT_ne _ _ e1]
theorem mis_of {t s : Nat → Nat} (h : ∀ u, u < 64 → t u ≠ 0 → s u ≠ 0 → t u = s u) : ¬ misT t s := fun ⟨j, hj, h1, h2⟩ => h2 (h _ (vsT_get hj).1 h1 (vsT_get hj).2)
theorem woQ_sm {t : Nat → Nat} {q : Nat → Rat} {v n : Nat} {arm : Int} : woQ t q v 0 arm n = smN (fun k => q (enT t (updT (deT (updT t v 0) n) v k))) (t v) := woX_sm _ _ _
end Go.Proofs.YtogpimmcodaljaaGreat
/- The law FactorOrders: the walks. -/
set_option linter.unusedVariables false
set_option linter.unusedSimpArgs false
namespace Go.Proofs.YtogpimmcodaljaaGreat
open Go Go.Proofs.YtogpimmcodaljaaGreat.Lift
attribute [local irreducible] Lift.PCall Lift.HCall
end Go.Proofs.YtogpimmcodaljaaGreat
/- The law FactorOrders. -/
set_option linter.unusedVariables false
set_option linter.unusedSimpArgs false
namespace Go.Proofs.YtogpimmcodaljaaGreat
open Go Go.Proofs.YtogpimmcodaljaaGreat.Lift
attribute [local irreducible] Lift.PCall Lift.HCall
structure Bx (L : Nat) (vs ws : List Int) (xs : List RT) : Prop where
 v : vs.length < 2 ^ 40
 w : ws.length < 2 ^ 40
 l : xs.length < 2 ^ 40
 y : okY xs
 f : isF vs ws xs = false ∨ ∃ t q, okT t ∧ (∀ k, k < szT t → rL (q k) ≤ L) ∧ vs = ci (vsT t) ∧ ws = ci (asT t) ∧ xs = xsT t q
theorem isF_nil : isF [] [] [] = false := isF_not fun h => by
 have := h.2.2.2
 exact absurd this (by decide)
theorem Bx.nil (L : Nat) : Bx L [] [] [] := ⟨by decide, by decide, by decide, fun x hx => (List.not_mem_nil hx).elim, .inl isF_nil⟩
theorem Bx.fv {t : Nat → Nat} {q : Nat → Rat} {L : Nat} (ht : okT t) (hL : L ≤ 2 ^ 30) (hq : ∀ k, k < szT t → rL (q k) ≤ L) : Bx L (ci (vsT t)) (ci (asT t)) (xsT t q) :=
 ⟨by rw [ci_length]; have := vsT_len t; omega, by rw [ci_length, asT_len]; have := vsT_len t; omega, by rw [xsT_length]; have := ht.2; omega, xsT_okY fun k hk => Nat.le_trans (hq k hk) hL, .inr ⟨t, q, ht, hq, rfl, rfl, rfl⟩⟩
theorem Sm.bx {vs ws : List Int} {xs : List RT} (h : Sm vs ws xs) : Bx 3 vs ws xs := by
 have h1 := h.v
 have h2 := h.w
 have h3 := h.l
 refine ⟨by omega, by omega, by omega, h.okY, ?_⟩
 rcases h.f with h | ⟨t, q, a, b, c, d⟩
 ·exact .inl h
 ·exact .inr ⟨t, q, a, c, d⟩
theorem same_FV {t : Nat → Nat} {q : Nat → Rat} (ht : szT t ≤ 4096) (hq : ∀ k, k < szT t → rL (q k) ≤ 2 ^ 30) : PCall Tryz.prog 23 [FV t q, FV t q] (.b true) [] := by
 have h1 := vsT_len t
 have := fsame_ok (ci (vsT t)) (ci (asT t)) (xsT t q) (ci (vsT t)) (ci (asT t)) (xsT t q) (by rw [ci_length]; omega) (by rw [ci_length, asT_len]; omega) (by rw [xsT_length]; omega) (by rw [ci_length]; omega) (by rw [ci_length, asT_len]; omega) (by rw [xsT_length]; omega) (xsT_okY hq) (xsT_okY hq)
 rwa [sameF_self] at this
end Go.Proofs.YtogpimmcodaljaaGreat
