/- Add, Sub, Mul, Div, Gcd and Power do not change their arguments, and their results share no memory with them (operands of at most 60 digits). -/
import Derived.Test.YtlhobedecoeohaaRows
import Derived.WalkKit
import Derived.ProofKit
import Derived.OpenShut
import Derived.ShutString
import Derived.ChangeOld
import Derived.Below
import Derived.Test.YtlhobedecoeohaaLawOwn
import Derived.Test.YtlhobedecoeohaaGU
namespace Go.Proofs.Ytlhobedecoeohaa.natOwn
open Go Go.Proofs.Ytlhobedecoeohaa.Lift
open Go.ChangeShapes Go.WideShapes Go.ChangeAt Go.RowKit
open Go.ChangeMaps (open_string shut_string)
set_option linter.unusedVariables false

theorem own : ownKnob Try.prog.godebug = none := by kernel_rfl
theorem laidOut : laidOutB Try.prog = true := by kernel_rfl

set_option maxRecDepth 100000 in
theorem lifted (os : Os) (started : os.Started) (H : Type) (enc : TypeId × Value → H) :
    ReturnsInHanded {} Try.checked os 14 .any (Rows.natOwnSpec.pre6 enc Try.prog Try.f14 Rows.natOwnRow.domain false) (Rows.natOwnSpec.post enc Try.prog Try.f14 false true false false) := by
  refine returnsInHanded_of_change_sized (C := Try.checked) own started (by kernel_rfl) Try.func14
    (ChangeSpec.witness6 (enc := enc) (C := Try.checked) false ⟨#[], #[.slice none 0 0, .slice none 0 0], []⟩ 8 (by kernel_rfl) (by kernel_rfl) (by kernel_rfl) (by kernel_rfl)) ?_
  intro W base args ds gs before hval0 hW hcnd hsz0 _
  have hval : ∀ (j : Nat) t v, Try.f14.params[j]? = some t → args[j]? = some v → Value.okWide Try.prog W .any base t v := hval0
  have hW' := hW
  obtain ⟨p, q, hA0, hV, rfl, hfz, hnd⟩ := hW
  have hA : DataW.TrodAll enc Try.prog W 0 (fun _ => true) true Try.f14.params.toList args.toList ds p := hA0
  rw [Try.params14] at hA hval
  have hsz : (DataW.weightsEach Try.prog ((#[23, 23] : Array TypeId).toList ++ Rows.natOwnSpec.plain.varTypes Try.prog) (ds ++ gs)).all (· ≤ reachBytes) = true := by rw [← Try.params14]; exact hsz0
  obtain ⟨v0, vs0, d0, ds0, p0, q0, hargs, rfl, rfl, h0, t0⟩ := trodAll_cons hA
  obtain ⟨v1, vs1, d1, ds1, p1, q1, rfl, rfl, rfl, h1, t1⟩ := trodAll_cons t0
  obtain ⟨rfl, rfl, rfl⟩ := trodAll_nil t1
  obtain rfl : args = #[v0, v1] := by cases args; simp_all
  obtain ⟨rfl, rfl⟩ := trodVars_none hV
  obtain ⟨a0, len0, cap0, rfl⟩ := okWide_slice Try.underlying23 (hval 0 23 v0 rfl rfl)
  have k0 := h0
  have lt0 : ∀ x ∈ p0, x.block < W.heap.size := by obtain ⟨m, hm⟩ := k0; exact DataW.trod_lt m _ _ _ hm
  obtain ⟨l0, g0, b0, r0⟩ : ∃ l : List Nat, Dg l ∧ l.length < 2 ^ 62 ∧ Rep (fun _ => False) W (fun _ => none) (fun _ => False) (.slice a0 len0 cap0) (dg l) := by
    obtain ⟨fuel, hf⟩ := h0
    rcases open_ints Try.underlying23 Try.underlying50 (by kernel_rfl) hf with ⟨hcs, _⟩ | ⟨x, l, c, zs, hcs, _, hl, hm, hz, hx, hcell, hwz⟩
    · simp [Value.cells] at hcs
      obtain ⟨rfl, rfl, rfl⟩ := hcs
      exact rep_row (.inl ⟨rfl, rfl, rfl, rfl⟩) (zs := [])
    · simp [Value.cells] at hcs
      obtain ⟨rfl, rfl, rfl⟩ := hcs
      have hz2 : zs.length = cap0 := by simpa using hz
      have hd : d0 = _ := congrArg Prod.fst hx
      have hs := sized_slice hsz (j := 0) (t := 23) rfl (congrArg some hd) Try.underlying23
      rw [show Try.prog.bytesOf 50 = 4 by kernel_rfl] at hs
      have hr := reachBytes_lt
      exact rep_row (.inr ⟨_, rfl, hl, by simp [lits] at hs; omega, hz2, hcell, hwz⟩)
  obtain ⟨a1, len1, cap1, rfl⟩ := okWide_slice Try.underlying23 (hval 1 23 v1 rfl rfl)
  have k1 := h1
  have lt1 : ∀ x ∈ p1, x.block < W.heap.size := by obtain ⟨m, hm⟩ := k1; exact DataW.trod_lt m _ _ _ hm
  obtain ⟨l1, g1, b1, r1⟩ : ∃ l : List Nat, Dg l ∧ l.length < 2 ^ 62 ∧ Rep (fun _ => False) W (fun _ => none) (fun _ => False) (.slice a1 len1 cap1) (dg l) := by
    obtain ⟨fuel, hf⟩ := h1
    rcases open_ints Try.underlying23 Try.underlying50 (by kernel_rfl) hf with ⟨hcs, _⟩ | ⟨x, l, c, zs, hcs, _, hl, hm, hz, hx, hcell, hwz⟩
    · simp [Value.cells] at hcs
      obtain ⟨rfl, rfl, rfl⟩ := hcs
      exact rep_row (.inl ⟨rfl, rfl, rfl, rfl⟩) (zs := [])
    · simp [Value.cells] at hcs
      obtain ⟨rfl, rfl, rfl⟩ := hcs
      have hz2 : zs.length = cap1 := by simpa using hz
      have hd : d1 = _ := congrArg Prod.fst hx
      have hs := sized_slice hsz (j := 1) (t := 23) rfl (congrArg some hd) Try.underlying23
      rw [show Try.prog.bytesOf 50 = 4 by kernel_rfl] at hs
      have hr := reachBytes_lt
      exact rep_row (.inr ⟨_, rfl, hl, by simp [lits] at hs; omega, hz2, hcell, hwz⟩)
  clear hA0 hval0 hsz0 hsz
  refine (gate (f := 14) (w := W) (xs := #[.slice a0 len0 cap0, .slice a1 len1 cap1]) (natOwn_ok l0 l1 g0 g1 b0 b1) rfl ?_).mono fun e W' ⟨he, bel⟩ => ?_
  · intro k hk
    match k, hk with
    | 0, _ => exact r0
    | 1, _ => exact r1
  subst he
  exact ⟨_, rfl, _, _, _, [], _, [], hW', trodAll_mk1 (shut_bool Try.underlying4 _), (trodAll_cons_mk (Below.trod laidOut (by kernel_rfl) (of_decide_eq_true (by kernel_rfl)) k0 bel lt0) (trodAll_cons_mk (Below.trod laidOut (by kernel_rfl) (of_decide_eq_true (by kernel_rfl)) k1 bel lt1) (trodAll_mk0))), rfl, bel.frame _, fun h => by cases h⟩

theorem over : Rows.natOwnRow.holds Try.pinned (OpenSpec.ofChange Rows.natOwnSpec) :=
  OpenClaim.holds_of_wide 14 Try.f14 rfl rfl rfl rfl rfl rfl rfl ⟨rfl, rfl, rfl, rfl, rfl⟩ rfl rfl rfl rfl rfl (by kernel_rfl) Try.func14 (by kernel_rfl)
    (of_decide_eq_true (by kernel_rfl)) (by unfold Func.isWrapper; first | (rw [if_pos (by decide +kernel)]; kernel_rfl) | (rw [if_neg (by decide +kernel)]; exact ⟨rfl, rfl⟩))
    (fun os started H enc _ => lifted os started H enc)

theorem proved : Rows.NatOwnSaid := over
end Go.Proofs.Ytlhobedecoeohaa.natOwn
