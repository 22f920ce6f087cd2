/- Factors: At of what is not right, Total, the statements' own alive. -/
import Derived.Test.YtogpimmcodaljaaGreatKB
set_option linter.unusedVariables false
set_option maxRecDepth 20000
set_option linter.unusedSimpArgs false
namespace Go.Proofs.YtogpimmcodaljaaGreat
open Go Go.Proofs.YtogpimmcodaljaaGreat.Lift
attribute [local irreducible] Lift.PCall Lift.HCall
theorem isQs_ql {n L : Nat} {q : Nat → Rat} (h : ∀ i, i < n → rL (q i) ≤ L) : IsQs ((ql n q).map rV) (ql n q) L := by
 refine ⟨List.length_map .., fun i hi => ?_⟩
 rw [List.length_map, ql_length] at hi
 have e : ((ql n q).map rV).getD i .junk = rV (q i) := by
  rw [List.getD_eq_getElem?_getD, List.getElem?_map]
  simp [ql, hi]
 rw [e, ql_get q hi]
 exact IsQ.of (h i hi)
set_option maxHeartbeats 4000000 in
theorem ftotal_ok (t : Nat → Nat) (q : Nat → Rat) (ht : okT t) (L : Nat) (hL1 : 1 ≤ L) (hL : L ≤ 2 ^ 20) (hq : ∀ k, k < szT t → rL (q k) ≤ L) : PCall Tryz.prog 12 [FV t q] (.tup [rV (sumTo (ql (szT t) q) (szT t)), .i .i64 0]) [] := by
 have hm := vsT_len t
 have cr := fright_ok (ci (vsT t)) (ci (asT t)) (xsT t q) (by rw [ci_length]; omega) (by rw [ci_length, asT_len]; omega) (by rw [xsT_length]; have := ht.2; omega) (xsT_okY fun k hk => by have := hq k hk; omega).x
 rw [isF_T ht q] at cr
 have e : ((ql (szT t) q).map rV).length = szT t := by rw [List.length_map, ql_length]
 have cs := qsum_ok (isQs_ql hq) (by
  rw [e]
  have h1 := ht.2
  have h2 : szT t * (L + 1) ≤ 4096 * (L + 1) := Nat.mul_le_mul_right _ h1
  omega) hL1
 rw [e] at cs
 unfold FV fV at *
 rw [xsT_map] at *
 generalize sumTo (ql (szT t) q) (szT t) = r at *
 have cs : PCall Tryz.prog 25 [.sl ((ql (szT t) q).map rV)] (.agg [.b (decide (r.num < 0)), dg (digits r.num.natAbs), dg (digits r.den)]) [] := cs
 generalize zl (ci (vsT t)) = V1 at *
 generalize zl (ci (asT t)) = V2 at *
 generalize (ql (szT t) q).map rV = V3 at *
 refine PCall.of_ax Tryz.call12 Tryz.func12 rfl (by simp [Tryz.ntmps12]) fun O w0 => ?_
 simp only [Tryz.ntmps12, Tryz.results12, argFr]
 refine AX.sR (rgAV [1, 2]) ?_
 refine AX.seq ?_
 refine AX.sR (rgCV [1, 2, 6] (aI cr oT)) ?_
 refine AX.condF ?_
 refine AX.keepA [1, 2] ?_
 refine AX.skip ?_
 refine nmZ ?_
 refine AX.sR (rgCV [2, 3] (aI cs oT)) ?_
 refine AX.ret ⟨.inl rfl, ?_⟩
 exact Done.cellE rfl rfl rfl
end Go.Proofs.YtogpimmcodaljaaGreat
/- Factors: the statements' own alive. -/
set_option linter.unusedVariables false
set_option linter.unusedSimpArgs false
namespace Go.Proofs.YtogpimmcodaljaaGreat
open Go Go.Proofs.YtogpimmcodaljaaGreat.Lift
attribute [local irreducible] Lift.PCall Lift.HCall
set_option maxHeartbeats 4000000 in
theorem alive_walk (s : Bool) (a b : List Nat) (c1 : PCall Tryz.prog 21 [] (.agg [.b s, dg a, dg b]) []) (c2 : PCall Tryz.prog 41 [.agg [.b s, dg a, dg b]] (.tup [.agg [.sl [], .sl [], .sl [.agg [.b s, dg a, dg b]]], .i .i64 0]) [])
  (c3 : PCall Tryz.prog 12 [.agg [.sl [], .sl [], .sl [.agg [.b s, dg a, dg b]]]] (.tup [.agg [.b s, dg a, dg b], .i .i64 0]) []) (c4 : PCall Tryz.prog 17 [.agg [.b s, dg a, dg b], .agg [.b s, dg a, dg b]] (.b true) []) : PCall Tryz.prog 18 [] (.b true) [] := by
 refine PCall.of_ax Tryz.call18 Tryz.func18 rfl (by simp [Tryz.ntmps18]) fun O w0 => ?_
 simp only [Tryz.ntmps18, Tryz.results18, argFr]
 refine AX.sR (rgAV []) ?_
 refine AX.sR (rgCV [1, 2] (aI c1 (aI c2 oT))) ?_
 refine AX.sR (rgCV [2, 3, 4] (aI c3 oT)) ?_
 refine AX.sD (rgDCV [0] (aI c1 (aI c4 oT))) ?_
 refine AX.ret ⟨.inl rfl, ?_⟩
 exact Done.one rfl rfl rfl rfl
theorem FV_one : FV (fun _ => 0) (fun _ => 1) = fV [] [] [rtQ 1] := by
 have h : vsT (fun _ => 0) = [] := by simp [vsT]
 have h2 : szT (fun _ => 0) = 1 := by unfold szT; rw [h]; rfl
 unfold FV xsT asT
 rw [h2, h]
 rfl
theorem lalive26_ok : PCall Tryz.prog 18 [] (.b true) [] := by
 have hr : isR3 (rtQ 1) = true := isR3_rtQ 1
 have h1 : rL (1 : Rat) ≤ 1 := by decide +kernel
 have d := xsT_okY (t := fun _ => 0) (q := fun _ => 1) (fun k hk => by have := h1; omega) (rtQ 1)
 have hsz : szT (fun _ => 0) = 1 := by
  have h : vsT (fun _ => 0) = [] := by simp [vsT]
  unfold szT; rw [h]; rfl
 have d := d (by unfold xsT; rw [hsz]; exact List.mem_singleton.2 rfl)
 have c2 := fconst_ok (rtQ 1) d.1 d.2.1 d.2.2.1 d.2.2.2
 have e1 : coL (rtQ 1) = [rtQ 1] := if_pos hr
 have e2 : coE (rtQ 1) = 0 := if_pos hr
 rw [e1, e2] at c2
 have ht : okT (fun _ => 0) := ⟨fun v => Nat.zero_le _, by rw [hsz]; decide⟩
 have c3 := ftotal_ok (fun _ => 0) (fun _ => 1) ht 1 (by decide) (by decide) (fun k hk => h1)
 rw [FV_one, hsz] at c3
 have e3 : sumTo (ql 1 fun _ => (1 : Rat)) 1 = 1 := by
  show (0 : Rat) + 1 = 1
  decide +kernel
 rw [e3] at c3
 have c4 : PCall Tryz.prog 17 [rV 1, rV 1] (.b (decide ((1 : Rat) = 1))) [] := psame_ok (IsQ.of h1) (IsQ.of h1) (by decide) (by decide)
 rw [decide_eq_true rfl] at c4
 exact alive_walk (decide ((1 : Rat).num < 0)) (digits (1 : Rat).num.natAbs) (digits (1 : Rat).den) pone_ok c2 c3 c4
end Go.Proofs.YtogpimmcodaljaaGreat
