/- Of, Neg, Add, Mul, Div, Least and Sum do not change their arguments, and their results share no memory with them (fractions of at most 12 digits). -/
import Derived.Test.YtmhjcmochemndaaRows
import Derived.WalkKit
import Derived.ProofKit
import Derived.OpenShut
import Derived.ShutString
import Derived.ChangeOld
import Derived.Below
import Derived.Test.YtmhjcmochemndaaLawRO
import Derived.Test.YtmhjcmochemndaaGU
namespace Go.Proofs.Ytmhjcmochemndaa.ratioOwn
open Go Go.Proofs.Ytmhjcmochemndaa.Lift
open Go.ChangeShapes Go.WideShapes Go.ChangeAt Go.RowKit
open Go.ChangeMaps (open_string shut_string)
set_option linter.unusedVariables false

theorem own : ownKnob Try.prog.godebug = none := by kernel_rfl
theorem laidOut : laidOutB Try.prog = true := by kernel_rfl

set_option maxRecDepth 100000 in
theorem lifted (os : Os) (started : os.Started) (H : Type) (enc : TypeId × Value → H) :
    ReturnsInHanded {} Try.checked os 12 .any (Rows.ratioOwnSpec.pre6 enc Try.prog Try.f12 Rows.ratioOwnRow.domain false) (Rows.ratioOwnSpec.post enc Try.prog Try.f12 false true false false) := by
  refine returnsInHanded_of_change_sized (C := Try.checked) own started (by kernel_rfl) Try.func12
    (ChangeSpec.witness6 (enc := enc) (C := Try.checked) false ⟨#[], #[.agg #[.bool false, .slice none 0 0, .slice none 0 0], .agg #[.bool false, .slice none 0 0, .slice none 0 0]], []⟩ 8 (by kernel_rfl) (by kernel_rfl) (by kernel_rfl) (by kernel_rfl)) ?_
  intro W base args ds gs before hval0 hW hcnd hsz0 _
  have hval : ∀ (j : Nat) t v, Try.f12.params[j]? = some t → args[j]? = some v → Value.okWide Try.prog W .any base t v := hval0
  have hW' := hW
  obtain ⟨p, q, hA0, hV, rfl, hfz, hnd⟩ := hW
  have hA : DataW.TrodAll enc Try.prog W 0 (fun _ => true) true Try.f12.params.toList args.toList ds p := hA0
  rw [Try.params12] at hA hval
  have hsz : (DataW.weightsEach Try.prog ((#[25, 25] : Array TypeId).toList ++ Rows.ratioOwnSpec.plain.varTypes Try.prog) (ds ++ gs)).all (· ≤ reachBytes) = true := by rw [← Try.params12]; exact hsz0
  obtain ⟨v0, vs0, d0, ds0, p0, q0, hargs, rfl, rfl, h0, t0⟩ := trodAll_cons hA
  obtain ⟨v1, vs1, d1, ds1, p1, q1, rfl, rfl, rfl, h1, t1⟩ := trodAll_cons t0
  obtain ⟨rfl, rfl, rfl⟩ := trodAll_nil t1
  obtain rfl : args = #[v0, v1] := by cases args; simp_all
  obtain ⟨rfl, rfl⟩ := trodVars_none hV
  have k0 := h0
  have lt0 : ∀ x ∈ p0, x.block < W.heap.size := by obtain ⟨m, hm⟩ := k0; exact DataW.trod_lt m _ _ _ hm
  obtain ⟨vs0_, ⟨s0, a0, b0, rfl, ga0, gb0, la0, lb0⟩, r0⟩ := arg_struct Try.underlying25 opens_ratio (hval 0 25 v0 rfl rfl) k0 (sized_at hsz (j := 0) (t := 25) rfl rfl)
  have k1 := h1
  have lt1 : ∀ x ∈ p1, x.block < W.heap.size := by obtain ⟨m, hm⟩ := k1; exact DataW.trod_lt m _ _ _ hm
  obtain ⟨vs1_, ⟨s1, a1, b1, rfl, ga1, gb1, la1, lb1⟩, r1⟩ := arg_struct Try.underlying25 opens_ratio (hval 1 25 v1 rfl rfl) k1 (sized_at hsz (j := 1) (t := 25) rfl rfl)
  clear hA0 hval0 hsz0 hsz
  refine (gate (f := 12) (w := W) (xs := #[v0, v1]) (ratioOwn_ok s0 a0 b0 ga0 gb0 la0 lb0 s1 a1 b1 ga1 gb1 la1 lb1) rfl ?_).mono fun e W' ⟨he, bel⟩ => ?_
  · intro k hk
    match k, hk with
    | 0, _ => exact r0
    | 1, _ => exact r1
  subst he
  exact ⟨_, rfl, _, _, _, [], _, [], hW', trodAll_mk1 (shut_bool Try.underlying4 _), (trodAll_cons_mk (Below.trod laidOut (by kernel_rfl) (of_decide_eq_true (by kernel_rfl)) k0 bel lt0) (trodAll_cons_mk (Below.trod laidOut (by kernel_rfl) (of_decide_eq_true (by kernel_rfl)) k1 bel lt1) (trodAll_mk0))), rfl, bel.frame _, fun h => by cases h⟩

theorem over : Rows.ratioOwnRow.holds Try.pinned (OpenSpec.ofChange Rows.ratioOwnSpec) :=
  OpenClaim.holds_of_wide 12 Try.f12 rfl rfl rfl rfl rfl rfl rfl ⟨rfl, rfl, rfl, rfl, rfl⟩ rfl rfl rfl rfl rfl (by kernel_rfl) Try.func12 (by kernel_rfl)
    (of_decide_eq_true (by kernel_rfl)) (by unfold Func.isWrapper; first | (rw [if_pos (by decide +kernel)]; kernel_rfl) | (rw [if_neg (by decide +kernel)]; exact ⟨rfl, rfl⟩))
    (fun os started H enc _ => lifted os started H enc)

theorem proved : Rows.RatioOwnSaid := over
end Go.Proofs.Ytmhjcmochemndaa.ratioOwn
