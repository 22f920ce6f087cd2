/- Factors: the law FactorRights. -/
import Derived.Test.YtogpimmcodaljaaKC
set_option linter.unusedVariables false
set_option maxRecDepth 20000
set_option linter.unusedSimpArgs false
namespace Go.Proofs.Ytogpimmcodaljaa
open Go Go.Proofs.Ytogpimmcodaljaa.Lift
attribute [local irreducible] Lift.PCall Lift.HCall
theorem fsame_z : PCall Try.prog 15 [zR, zR] (.b true) [] := by
 have h : IsQ zR (rq false (val []) (val [])) 1 := IsQ.raw (s := false) (a := []) (b := []) (fun d h => nomatch h) (fun d h => nomatch h) (by decide) (by decide)
 have := psame_ok h h (by decide) (by decide)
 rw [decide_eq_true rfl] at this
 exact this
theorem Sm.at {vs ws : List Int} {xs : List RT} (h : Sm vs ws xs) (a : List Int) (ha : a.length < 2 ^ 62) (hab : ∀ j, j < a.length → -9223372036854775808 ≤ a.getD j 0 ∧ a.getD j 0 ≤ 9223372036854775807) :
  ∃ (s : Bool) (p q : List Nat) (e : Int), (0 ≤ e ∧ e < 100) ∧ PCall Try.prog 9 [fV vs ws xs, .sl (zl a)] (.tup [.agg [.b s, dg p, dg q], .i .i64 e]) [] ∧ PCall Try.prog 10 [fV vs ws xs, .sl (zl a)] (.tup [.agg [.b s, dg p, dg q], .i .i64 e]) [] ∧ PCall Try.prog 15 [.agg [.b s, dg p, dg q], .agg [.b s, dg p, dg q]] (.b true) [] := by
 have l1 := h.v
 have l2 := h.w
 have l3 := h.l
 rcases h.f with hf | ⟨t, q, ht, hs, hq, rfl, rfl, rfl⟩
 ·exact ⟨false, [], [], 1, by omega, fAtN_ok vs ws xs (by omega) (by omega) (by omega) h.okY.x hf a, fAt26N_ok vs ws xs (by omega) (by omega) (by omega) h.okY.x hf a, fsame_z⟩
 ·have c1 := fAt_ok t q ht (fun k hk => by have := hq k hk; omega) a ha hab
  have c2 := fAt26_ok t q ht (fun k hk => by have := hq k hk; omega) a ha hab
  by_cases hin : inA t a
  ·have e : atV t q a = .tup [rV (q (enT t (anL a))), .i .i64 0] := if_pos hin
   rw [e] at c1 c2
   have hL := hq _ (enT_lt (anL_in hin))
   have c3 := psame_ok (IsQ.of hL) (IsQ.of hL) (by decide) (by decide)
   rw [decide_eq_true rfl] at c3
   exact ⟨_, _, _, 0, by omega, c1, c2, c3⟩
  ·have e : atV t q a = .tup [zR, .i .i64 1] := if_neg hin
   rw [e] at c1 c2
   exact ⟨false, [], [], 1, by omega, c1, c2, fsame_z⟩
end Go.Proofs.Ytogpimmcodaljaa
