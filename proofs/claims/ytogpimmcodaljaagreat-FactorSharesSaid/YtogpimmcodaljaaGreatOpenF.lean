/- Lists of whole numbers and factors as arguments. -/
import Derived.Test.YtogpimmcodaljaaGreatOpenC
import Derived.Test.YtogpimmcodaljaaGreatFaB
set_option linter.unusedVariables false
set_option maxRecDepth 20000
set_option linter.unusedSimpArgs false
namespace Go.Proofs.YtogpimmcodaljaaGreat
open Go Go.RowKit Go.Proofs.YtogpimmcodaljaaGreat.Lift
theorem els_I : ∀ (els : List V), (∀ el ∈ els, ∃ n : Int, el = .i .i64 n ∧ bd n) → ∃ l : List Int, els = zl l ∧ ∀ n ∈ l, bd n
 | [], _ => ⟨[], rfl, fun x h => by cases h⟩
 | v :: els, h => by
  obtain ⟨n, rfl, h1⟩ := h v (List.mem_cons_self ..)
  obtain ⟨l, rfl, hx⟩ := els_I els fun el hel => h el (List.mem_cons_of_mem _ hel)
  refine ⟨n :: l, rfl, fun x hm => ?_⟩
  rcases List.mem_cons.1 hm with rfl | hm
  ·exact h1
  ·exact hx x hm
def QInts (vs : List V) : Prop := ∃ l : List Int, vs = [.sl (zl l)] ∧ (∀ j, j < l.length → -9223372036854775808 ≤ l.getD j 0 ∧ l.getD j 0 ≤ 9223372036854775807) ∧ l.length < 2 ^ 62
theorem opens_ints : Opens Tryz.prog 22 QInts := by
 refine (opens_slice (fun l => l.getD 0 .junk) Tryz.underlying22 (by kernel_rfl) (of_decide_eq_true (by kernel_rfl)) (of_decide_eq_true (by kernel_rfl)) opens_int64 (fun vs h _ => by
  obtain ⟨n, rfl, _⟩ := h
  rfl)).mono ?_
 rintro vs ⟨els, rfl, hl, h⟩
 obtain ⟨l, rfl, hx⟩ := els_I els fun el hel => by
  obtain ⟨ws, ⟨n, rfl, h1⟩, _, rfl⟩ := h el hel
  exact ⟨n, rfl, h1⟩
 refine ⟨l, rfl, fun j hj => hx _ ?_, by rw [zl_length] at hl; exact hl⟩
 rw [List.getD_eq_getElem?_getD, List.getElem?_eq_getElem hj]
 exact List.getElem_mem hj
def QFac (vs : List V) : Prop := ∃ (l m : List Int) (xs : List RT), vs = [.sl (zl l), .sl (zl m), .sl (xs.map fR)] ∧ (∀ j, j < l.length → -9223372036854775808 ≤ l.getD j 0 ∧ l.getD j 0 ≤ 9223372036854775807) ∧ (∀ j, j < m.length → -9223372036854775808 ≤ m.getD j 0 ∧ m.getD j 0 ≤ 9223372036854775807) ∧ okRT xs ∧ l.length < 2 ^ 62 ∧ m.length < 2 ^ 62 ∧ xs.length < 2 ^ 62
theorem opens_factor : Opens Tryz.prog 25 QFac := by
 refine (opens_struct3 Tryz.underlying25 (by kernel_rfl) (by kernel_rfl) (by kernel_rfl) (by kernel_rfl) opens_ints opens_ints opens_lst).mono ?_
 rintro vs ⟨v0, v1, v2, rfl, ⟨l, rfl, h1, h2⟩, ⟨m, rfl, h3, h4⟩, ⟨xs, rfl, h5, h6⟩⟩
 exact ⟨l, m, xs, rfl, h1, h3, h5, h2, h4, h6⟩
end Go.Proofs.YtogpimmcodaljaaGreat
