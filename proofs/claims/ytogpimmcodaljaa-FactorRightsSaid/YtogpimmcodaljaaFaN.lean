/- Factors: the statements' own alive. -/
import Derived.Test.YtogpimmcodaljaaFaM
set_option linter.unusedVariables false
set_option maxRecDepth 20000
set_option linter.unusedSimpArgs false
namespace Go.Proofs.Ytogpimmcodaljaa
open Go Go.Proofs.Ytogpimmcodaljaa.Lift
attribute [local irreducible] Lift.PCall Lift.HCall
set_option maxHeartbeats 4000000 in
theorem alive_walk (s : Bool) (a b : List Nat) (c1 : PCall Try.prog 44 [] (.agg [.b s, dg a, dg b]) []) (c2 : PCall Try.prog 11 [.agg [.b s, dg a, dg b]] (.tup [.agg [.sl [], .sl [], .sl [.agg [.b s, dg a, dg b]]], .i .i64 0]) [])
  (c3 : PCall Try.prog 45 [.agg [.sl [], .sl [], .sl [.agg [.b s, dg a, dg b]]]] (.tup [.agg [.b s, dg a, dg b], .i .i64 0]) []) (c4 : PCall Try.prog 15 [.agg [.b s, dg a, dg b], .agg [.b s, dg a, dg b]] (.b true) []) : PCall Try.prog 19 [] (.b true) [] := by
 refine PCall.of_ax Try.call19 Try.func19 rfl (by simp [Try.ntmps19]) fun O w0 => ?_
 simp only [Try.ntmps19, Try.results19, argFr]
 refine AX.sR (rgAV []) ?_
 refine AX.sR (rgCV [1, 2] (aI c1 (aI c2 oT))) ?_
 refine AX.sR (rgCV [2, 3, 4] (aI c3 oT)) ?_
 refine AX.sD (rgDCV [0] (aI c1 (aI c4 oT))) ?_
 refine AX.ret ⟨.inl rfl, ?_⟩
 exact Done.one rfl rfl rfl rfl
theorem FV_one : FV (fun _ => 0) (fun _ => 1) = fV [] [] [rtQ 1] := by
 have h : vsT (fun _ => 0) = [] := by simp [vsT]
 have h2 : szT (fun _ => 0) = 1 := by unfold szT; rw [h]; rfl
 unfold FV xsT asT
 rw [h2, h]
 rfl
theorem lalive26_ok : PCall Try.prog 19 [] (.b true) [] := by
 have hr : isR3 (rtQ 1) = true := isR3_rtQ 1
 have h1 : rL (1 : Rat) ≤ 1 := by decide +kernel
 have d := xsT_okY (t := fun _ => 0) (q := fun _ => 1) (fun k hk => by have := h1; omega) (rtQ 1)
 have hsz : szT (fun _ => 0) = 1 := by
  have h : vsT (fun _ => 0) = [] := by simp [vsT]
  unfold szT; rw [h]; rfl
 have d := d (by unfold xsT; rw [hsz]; exact List.mem_singleton.2 rfl)
 have c2 := fconst_ok (rtQ 1) d.1 d.2.1 d.2.2.1 d.2.2.2
 have e1 : coL (rtQ 1) = [rtQ 1] := if_pos hr
 have e2 : coE (rtQ 1) = 0 := if_pos hr
 rw [e1, e2] at c2
 have ht : okT (fun _ => 0) := ⟨fun v => Nat.zero_le _, by rw [hsz]; decide⟩
 have c3 := ftotal_ok (fun _ => 0) (fun _ => 1) ht 1 (by decide) (by decide) (fun k hk => h1)
 rw [FV_one, hsz] at c3
 have e3 : sumTo (ql 1 fun _ => (1 : Rat)) 1 = 1 := by
  show (0 : Rat) + 1 = 1
  decide +kernel
 rw [e3] at c3
 have c4 : PCall Try.prog 15 [rV 1, rV 1] (.b (decide ((1 : Rat) = 1))) [] := psame_ok (IsQ.of h1) (IsQ.of h1) (by decide) (by decide)
 rw [decide_eq_true rfl] at c4
 exact alive_walk (decide ((1 : Rat).num < 0)) (digits (1 : Rat).num.natAbs) (digits (1 : Rat).den) pone_ok c2 c3 c4
end Go.Proofs.Ytogpimmcodaljaa
