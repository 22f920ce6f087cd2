/- Each is the least solution that is at least 0: each solution made out of it by values at the closed classes is nowhere smaller, for every chain (cut to at most 8 states and 5 exits) and every list of values. -/
import Derived.Test.YtepkjfnffbdcoaaGreatRows
import Derived.WalkKit
import Derived.ProofKit
import Derived.OpenShut
import Derived.ShutString
import Derived.ChangeOld
import Derived.Below
import Derived.Test.YtepkjfnffbdcoaaGreatJD
import Derived.Test.YtepkjfnffbdcoaaGreatGU
import Derived.Test.YtepkjfnffbdcoaaGreatOpenC
namespace Go.Proofs.YtepkjfnffbdcoaaGreat.chainLeast
open Go Go.Proofs.YtepkjfnffbdcoaaGreat.Lift
open Go.ChangeShapes Go.WideShapes Go.ChangeAt Go.RowKit
open Go.ChangeMaps (open_string shut_string)
set_option linter.unusedVariables false

theorem own : ownKnob Tryz.prog.godebug = none := by kernel_rfl
theorem laidOut : laidOutB Tryz.prog = true := by kernel_rfl

set_option maxRecDepth 100000 in
theorem lifted (os : Os) (started : os.Started) (H : Type) (enc : TypeId × Value → H) :
    ReturnsInHanded {} Tryz.checked os 5 .any (Rows.chainLeastSpec.pre6 enc Tryz.prog Tryz.f5 Rows.chainLeastRow.domain false) (Rows.chainLeastSpec.post enc Tryz.prog Tryz.f5 false true false false) := by
  refine returnsInHanded_of_change_sized (C := Tryz.checked) own started (by kernel_rfl) Tryz.func5
    (ChangeSpec.witness6 (enc := enc) (C := Tryz.checked) false ⟨#[], #[.agg #[.int .i64 0, .int .i64 0, .slice none 0 0, .int .i64 0, .int .i64 0, .slice none 0 0], .slice none 0 0], []⟩ 8 (by kernel_rfl) (by kernel_rfl) (by kernel_rfl) (by kernel_rfl)) ?_
  intro W base args ds gs before hval0 hW hcnd hsz0 _
  have hval : ∀ (j : Nat) t v, Tryz.f5.params[j]? = some t → args[j]? = some v → Value.okWide Tryz.prog W .any base t v := hval0
  have hW' := hW
  obtain ⟨p, q, hA0, hV, rfl, hfz, hnd⟩ := hW
  have hA : DataW.TrodAll enc Tryz.prog W 0 (fun _ => true) true Tryz.f5.params.toList args.toList ds p := hA0
  rw [Tryz.params5] at hA hval
  have hsz : (DataW.weightsEach Tryz.prog ((#[26, 22] : Array TypeId).toList ++ Rows.chainLeastSpec.plain.varTypes Tryz.prog) (ds ++ gs)).all (· ≤ reachBytes) = true := by rw [← Tryz.params5]; exact hsz0
  obtain ⟨v0, vs0, d0, ds0, p0, q0, hargs, rfl, rfl, h0, t0⟩ := trodAll_cons hA
  obtain ⟨v1, vs1, d1, ds1, p1, q1, rfl, rfl, rfl, h1, t1⟩ := trodAll_cons t0
  obtain ⟨rfl, rfl, rfl⟩ := trodAll_nil t1
  obtain rfl : args = #[v0, v1] := by cases args; simp_all
  obtain ⟨rfl, rfl⟩ := trodVars_none hV
  have k0 := h0
  have lt0 : ∀ x ∈ p0, x.block < W.heap.size := by obtain ⟨m, hm⟩ := k0; exact DataW.trod_lt m _ _ _ hm
  obtain ⟨vs0_, ⟨R0, C0, P0, K0, xs0, ys0, rfl, ga0, gb0, gc0, gd0, hx0, hy0, lx0, ly0⟩, r0⟩ := arg_struct Tryz.underlying26 opens_chain (hval 0 26 v0 rfl rfl) k0 (sized_at hsz (j := 0) (t := 26) rfl rfl)
  have k1 := h1
  have lt1 : ∀ x ∈ p1, x.block < W.heap.size := by obtain ⟨m, hm⟩ := k1; exact DataW.trod_lt m _ _ _ hm
  obtain ⟨x1_, ⟨ss1, hx1, hs1, ls1⟩, r1⟩ := arg_slice Tryz.underlying22 opens_lst (hval 1 22 v1 rfl rfl) k1 (sized_at hsz (j := 1) (t := 22) rfl rfl)
  obtain rfl : x1_ = .sl (ss1.map fR) := by simpa using hx1
  clear hA0 hval0 hsz0 hsz
  refine (gate (f := 5) (w := W) (xs := #[v0, v1]) (chainLeast_ok R0 C0 P0 K0 xs0 ys0 ss1 ga0 gb0 gc0 gd0 hx0 hy0 hs1 lx0 ly0 ls1) rfl ?_).mono fun e W' ⟨he, bel⟩ => ?_
  · intro k hk
    match k, hk with
    | 0, _ => exact r0
    | 1, _ => exact r1
  subst he
  exact ⟨_, rfl, _, _, _, [], _, [], hW', trodAll_mk1 (shut_bool Tryz.underlying4 _), (trodAll_cons_mk (Below.trod laidOut (by kernel_rfl) (of_decide_eq_true (by kernel_rfl)) k0 bel lt0) (trodAll_cons_mk (Below.trod laidOut (by kernel_rfl) (of_decide_eq_true (by kernel_rfl)) k1 bel lt1) (trodAll_mk0))), rfl, bel.frame _, fun h => by cases h⟩

theorem over : Rows.chainLeastRow.holds Tryz.pinned (OpenSpec.ofChange Rows.chainLeastSpec) :=
  OpenClaim.holds_of_wide 5 Tryz.f5 rfl rfl rfl rfl rfl rfl rfl ⟨rfl, rfl, rfl, rfl, rfl⟩ rfl rfl rfl rfl rfl (by kernel_rfl) Tryz.func5 (by kernel_rfl)
    (of_decide_eq_true (by kernel_rfl)) (by unfold Func.isWrapper; first | (rw [if_pos (by decide +kernel)]; kernel_rfl) | (rw [if_neg (by decide +kernel)]; exact ⟨rfl, rfl⟩))
    (fun os started H enc _ => lifted os started H enc)

theorem proved : Rows.ChainLeastSaid := over
end Go.Proofs.YtepkjfnffbdcoaaGreat.chainLeast
