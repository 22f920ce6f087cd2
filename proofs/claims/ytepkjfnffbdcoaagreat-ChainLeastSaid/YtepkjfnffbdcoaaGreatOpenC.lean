/- Matrices and chains as arguments. -/
import Derived.Test.YtepkjfnffbdcoaaGreatGU
import Derived.Test.YtepkjfnffbdcoaaGreatGS
import Derived.ChangeSame
set_option linter.unusedVariables false
set_option maxRecDepth 20000
set_option linter.unusedSimpArgs false
namespace Go.Proofs.YtepkjfnffbdcoaaGreat
open Go Go.RowKit Go.Proofs.YtepkjfnffbdcoaaGreat.Lift
theorem opens_struct2 {P : Program} {t : TypeId} {f0 f1 : Field} {Q0 Q1 : List V → Prop} (ht : P.underlying t = some (.struct #[f0, f1])) (o0 : f0.offset = 0) (o1 : f1.offset = P.cellsOf f0.type) (hc : P.cellsOf t = P.cellsOf f0.type + P.cellsOf f1.type)
  (h0 : Opens P f0.type Q0) (h1 : Opens P f1.type Q1) : Opens P t (fun vs => ∃ v0 v1, vs = v0 ++ v1 ∧ Q0 v0 ∧ Q1 v1) := by
 intro H enc W n cs d p hd hw
 obtain ⟨y0, y1, m, hx, hlen, g0, g1⟩ := Go.ChangeShapes.trod_struct2 ht hd
 simp only [Prod.mk.injEq] at hx
 obtain ⟨rfl, rfl⟩ := hx
 simp only [DataW.weights, ht, DataW.weightsEach, List.map_cons, List.map_nil, List.all_append, Bool.and_eq_true, List.append_nil] at hw
 obtain ⟨w0, w1⟩ := hw
 obtain ⟨l0, v0, e0, q0, r0⟩ := h0 H enc W m _ y0.1 y0.2 g0 w0
 obtain ⟨l1, v1, e1, q1, r1⟩ := h1 H enc W m _ y1.1 y1.2 g1 w1
 refine ⟨hlen, v0 ++ v1, ?_, ⟨v0, v1, rfl, q0, q1⟩, ?_⟩
 ·simp only [List.length_append]
  omega
 ·intro k hk
  rw [hlen, hc] at hk
  have key : ∀ (o s i : Nat), i < s → ((cs.drop o).take s).getD i undef = cs.getD (o + i) undef := by
   intro o s i hi
   simp [List.getD_eq_getElem?_getD, List.getElem?_take, hi]
  by_cases k0 : k < P.cellsOf f0.type
  ·have := r0 k (by omega)
   rw [key _ _ _ k0, o0, Nat.zero_add] at this
   rw [gApp1 (by omega)]
   exact this
  ·have := r1 (k - P.cellsOf f0.type) (by omega)
   rw [key _ _ _ (by omega), o1, show P.cellsOf f0.type + (k - P.cellsOf f0.type) = k by omega] at this
   rw [gApp2 (by omega), show v0.length = P.cellsOf f0.type by omega]
   exact this
def okRT (xs : List RT) : Prop := ∀ x ∈ xs, Dg x.2.1 ∧ Dg x.2.2 ∧ x.2.1.length < 2 ^ 62 ∧ x.2.2.length < 2 ^ 62
theorem els_R : ∀ (els : List V), (∀ el ∈ els, ∃ (s : Bool) (a b : List Nat), el = .agg [.b s, dg a, dg b] ∧ Dg a ∧ Dg b ∧ a.length < 2 ^ 62 ∧ b.length < 2 ^ 62) → ∃ xs : List RT, els = xs.map fR ∧ okRT xs
 | [], _ => ⟨[], rfl, fun x h => by cases h⟩
 | v :: els, h => by
  obtain ⟨s, a, b, rfl, h1, h2, h3, h4⟩ := h v (List.mem_cons_self ..)
  obtain ⟨xs, rfl, hx⟩ := els_R els fun el hel => h el (List.mem_cons_of_mem _ hel)
  refine ⟨(s, a, b) :: xs, rfl, fun x hm => ?_⟩
  rcases List.mem_cons.1 hm with rfl | hm
  ·exact ⟨h1, h2, h3, h4⟩
  ·exact hx x hm
def QLst (vs : List V) : Prop := ∃ xs : List RT, vs = [.sl (xs.map fR)] ∧ okRT xs ∧ xs.length < 2 ^ 62
theorem opens_lst : Opens Tryz.prog 22 QLst := by
 refine opens_ratios.mono ?_
 rintro vs ⟨els, rfl, hl, h⟩
 obtain ⟨xs, rfl, hx⟩ := els_R els h
 exact ⟨xs, rfl, hx, by simpa using hl⟩
def bd (n : Int) : Prop := -9223372036854775808 ≤ n ∧ n ≤ 9223372036854775807
theorem opens_int64 : Opens Tryz.prog 3 (fun vs => ∃ n, vs = [.i .i64 n] ∧ bd n) := opens_int Tryz.underlying3 (by kernel_rfl)
def QMat (vs : List V) : Prop := ∃ (R C : Int) (xs : List RT), vs = [.i .i64 R, .i .i64 C, .sl (xs.map fR)] ∧ bd R ∧ bd C ∧ okRT xs ∧ xs.length < 2 ^ 62
theorem opens_matrix : Opens Tryz.prog 24 QMat := by
 refine (opens_struct3 Tryz.underlying24 (by kernel_rfl) (by kernel_rfl) (by kernel_rfl) (by kernel_rfl) opens_int64 opens_int64 opens_lst).mono ?_
 rintro vs ⟨v0, v1, v2, rfl, ⟨R, rfl, h1⟩, ⟨C, rfl, h2⟩, ⟨xs, rfl, h3, h4⟩⟩
 exact ⟨R, C, xs, rfl, h1, h2, h3, h4⟩
def QCh (vs : List V) : Prop := ∃ (R1 C1 R2 C2 : Int) (xs ys : List RT), vs = [.i .i64 R1, .i .i64 C1, .sl (xs.map fR), .i .i64 R2, .i .i64 C2, .sl (ys.map fR)] ∧ bd R1 ∧ bd C1 ∧ bd R2 ∧ bd C2 ∧ okRT xs ∧ okRT ys ∧ xs.length < 2 ^ 62 ∧ ys.length < 2 ^ 62
theorem opens_chain : Opens Tryz.prog 26 QCh := by
 refine (opens_struct2 Tryz.underlying26 (by kernel_rfl) (by kernel_rfl) (by kernel_rfl) opens_matrix opens_matrix).mono ?_
 rintro vs ⟨v0, v1, rfl, ⟨R1, C1, xs, rfl, h1, h2, h3, h4⟩, ⟨R2, C2, ys, rfl, h5, h6, h7, h8⟩⟩
 exact ⟨R1, C1, R2, C2, xs, ys, rfl, h1, h2, h5, h6, h3, h7, h4, h8⟩
end Go.Proofs.YtepkjfnffbdcoaaGreat
