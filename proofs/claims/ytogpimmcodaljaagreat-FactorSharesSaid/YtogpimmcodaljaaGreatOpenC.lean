/- Matrices and chains as arguments. -/
import Derived.Test.YtogpimmcodaljaaGreatGU
import Derived.Test.YtogpimmcodaljaaGreatGS
import Derived.ChangeSame
set_option linter.unusedVariables false
set_option maxRecDepth 20000
set_option linter.unusedSimpArgs false
namespace Go.Proofs.YtogpimmcodaljaaGreat
open Go Go.RowKit Go.Proofs.YtogpimmcodaljaaGreat.Lift
def okRT (xs : List RT) : Prop := ∀ x ∈ xs, Dg x.2.1 ∧ Dg x.2.2 ∧ x.2.1.length < 2 ^ 62 ∧ x.2.2.length < 2 ^ 62
theorem els_R : ∀ (els : List V), (∀ el ∈ els, ∃ (s : Bool) (a b : List Nat), el = .agg [.b s, dg a, dg b] ∧ Dg a ∧ Dg b ∧ a.length < 2 ^ 62 ∧ b.length < 2 ^ 62) → ∃ xs : List RT, els = xs.map fR ∧ okRT xs
 | [], _ => ⟨[], rfl, fun x h => by cases h⟩
 | v :: els, h => by
  obtain ⟨s, a, b, rfl, h1, h2, h3, h4⟩ := h v (List.mem_cons_self ..)
  obtain ⟨xs, rfl, hx⟩ := els_R els fun el hel => h el (List.mem_cons_of_mem _ hel)
  refine ⟨(s, a, b) :: xs, rfl, fun x hm => ?_⟩
  rcases List.mem_cons.1 hm with rfl | hm
  ·exact ⟨h1, h2, h3, h4⟩
  ·exact hx x hm
def QLst (vs : List V) : Prop := ∃ xs : List RT, vs = [.sl (xs.map fR)] ∧ okRT xs ∧ xs.length < 2 ^ 62
theorem opens_lst : Opens Tryz.prog 23 QLst := by
 refine opens_ratios.mono ?_
 rintro vs ⟨els, rfl, hl, h⟩
 obtain ⟨xs, rfl, hx⟩ := els_R els h
 exact ⟨xs, rfl, hx, by simpa using hl⟩
def bd (n : Int) : Prop := -9223372036854775808 ≤ n ∧ n ≤ 9223372036854775807
theorem opens_int64 : Opens Tryz.prog 3 (fun vs => ∃ n, vs = [.i .i64 n] ∧ bd n) := opens_int Tryz.underlying3 (by kernel_rfl)
end Go.Proofs.YtogpimmcodaljaaGreat
