/- The law CoinBehind: coins behind those that a run takes change nothing, and none of them is idle. -/
import Derived.Test.YteidabibgjokkaaGreatDoorMJ
set_option linter.unusedVariables false
set_option maxRecDepth 20000
set_option linter.unusedSimpArgs false
namespace Go.Proofs.YteidabibgjokkaaGreatDoor
open Go Go.Proofs.YteidabibgjokkaaGreatDoor.Lift
attribute [local irreducible] Lift.PCall Lift.HCall
theorem runC_prop {T : T2} {v : Int} {n : Nat} : ∀ (cs : List Bool) (p i : Nat), runC T cs p i = some (v, n) → i < n ∧ n ≤ i + cs.length ∧ (∀ more, runC T (cs.take (n - i) ++ more) p i = some (v, n)) ∧ runC T (cs.take (n - i - 1)) p i = none
  | [], p, i, h => by cases h
  | c :: cs, p, i, h => by
    rw [runC] at h
    by_cases hc : stepC (T.getD p z2) c < 0
    · rw [if_pos hc] at h
      simp only [Option.some.injEq, Prod.mk.injEq] at h
      obtain ⟨rfl, rfl⟩ := h
      refine ⟨by omega, by simp, fun more => ?_, ?_⟩
      · rw [show i + 1 - i = 0 + 1 by omega, List.take_succ_cons, List.take_zero, List.singleton_append, runC, if_pos hc]
      · rw [show i + 1 - i - 1 = 0 by omega]
        rfl
    · rw [if_neg hc] at h
      obtain ⟨h1, h2, h3, h4⟩ := runC_prop cs _ _ h
      refine ⟨by omega, by simp only [List.length_cons]; omega, fun more => ?_, ?_⟩
      · rw [show n - i = (n - (i + 1)) + 1 by omega, List.take_succ_cons, List.cons_append, runC, if_neg hc, h3 more]
      · rw [show n - i - 1 = (n - (i + 1) - 1) + 1 by omega, List.take_succ_cons, runC, if_neg hc, h4]
theorem flatCells_cbl : ∀ l : List Bool, flatCells (cbl l) = cbl l
  | [] => rfl
  | a :: l => by
    show V.b a :: flatCells (cbl l) = V.b a :: cbl l
    rw [flatCells_cbl l]
theorem ren_cbl (f : Nat → Nat) : ∀ l : List Bool, V.renL f (cbl l) = cbl l
  | [] => rfl
  | a :: l => by
    show V.renL f (V.b a :: cbl l) = V.b a :: cbl l
    simp only [V.renL, V.ren, ren_cbl f l]
theorem cbl_take (n : Nat) (l : List Bool) : (cbl l).take n = cbl (l.take n) := by simp [cbl]
theorem cbl_app (a b : List Bool) : cbl a ++ cbl b = cbl (a ++ b) := by simp [cbl]
theorem cbl_head (l : List Bool) : ((cbl l).getD 0 .junk).cells.length = 1 ∨ cbl l = [] := by
  cases l with
  | nil => exact .inr rfl
  | cons a l => exact .inl rfl
theorem effSlB {x y : Operand} {l : List Bool} {n : Nat} (h : n ≤ l.length) : eff Tryz.prog (.slice 66 x none (some y) none) [.sl (cbl l), .i .i64 (n : Int)] = some (.val (.sl (cbl (l.take n)))) := by
  have e : sliceV Tryz.prog 66 (.sl (cbl l)) none (some (.i .i64 (n : Int))) = some (.sl (cbl (l.take n))) := by
    simp only [sliceV, Tryz.underlying66, co_lay_bool, bound]
    cases l with
    | nil =>
      obtain rfl : n = 0 := by simpa using h
      rfl
    | cons a l =>
      rw [if_pos ⟨by omega, by omega, by rw [cbl_length]; omega, rfl⟩, Int.toNat_natCast, cbl_take]
      rfl
  show (match sliceV Tryz.prog 66 (.sl (cbl l)) none (some (.i .i64 (n : Int))) with
    | some v => some (Eff.val v)
    | none => none) = _
  rw [e]
set_option maxHeartbeats 8000000 in
theorem coinBehind_ok (T : T2) (hb : bT T) (hl : T.length < 2 ^ 62) (cs : List Bool) (hcs : cs.length < 2 ^ 62) (ms : List Bool) (hms : ms.length < 2 ^ 62) : PCall Tryz.prog 7 [smp T, .sl (cbl cs), .sl (cbl ms)] (.b true) [] := by
  have hml := nx_length T
  have hbl := cbl_length cs
  have hbm := cbl_length ms
  have cal := calive_ok
  refine PCall.of_ax Tryz.call7 Tryz.func7 rfl (by simp [Tryz.ntmps7]) fun O w => ?_
  simp only [Tryz.ntmps7, Tryz.results7, argFr]
  by_cases h1 : 100 < T.length
  · unfold smp
    generalize nx T = A at *
    generalize cbl cs = B at *
    generalize cbl ms = D at *
    refine AX.sR (rgAV [1, 2, 3]) ?_
    refine AX.seq ?_
    refine AX.sR (rgWV [1, 2, 3, 29] (aI @hml oT) oT) ?_
    refine AX.condT (h := ?_)
    refine AX.sR (rgAV [6]) ?_
    refine AX.ret (And.intro (Or.inl rfl) ?_)
    exact Done.one rfl rfl rfl rfl
  by_cases h2 : 200 < cs.length
  · unfold smp
    generalize nx T = A at *
    generalize cbl cs = B at *
    generalize cbl ms = D at *
    refine AX.sR (rgAV [1, 2, 3]) ?_
    refine AX.seq ?_
    refine AX.sR (rgWV [1, 2, 3, 29] (aI @hml (aI @hbl oT)) oT) ?_
    refine AX.condT (h := ?_)
    refine AX.sR (rgAV [6]) ?_
    refine AX.ret (And.intro (Or.inl rfl) ?_)
    exact Done.one rfl rfl rfl rfl
  by_cases h3 : 200 < ms.length
  · unfold smp
    generalize nx T = A at *
    generalize cbl cs = B at *
    generalize cbl ms = D at *
    refine AX.sR (rgAV [1, 2, 3]) ?_
    refine AX.seq ?_
    refine AX.sR (rgWV [1, 2, 3, 29] (aI @hml (aI @hbl (aI @hbm oT))) oT) ?_
    refine AX.condT (h := ?_)
    refine AX.sR (rgAV [6]) ?_
    refine AX.ret (And.intro (Or.inl rfl) ?_)
    exact Done.one rfl rfl rfl rfl
  have r1 := crun_ok T cs hl hb (by omega)
  cases hS : isS T
  · rw [runV, hS, if_neg Bool.false_ne_true] at r1
    unfold smp at *
    generalize nx T = A at *
    generalize cbl cs = B at *
    generalize cbl ms = D at *
    refine AX.sR (rgAV [1, 2, 3]) ?_
    refine AX.seq ?_
    refine AX.sR (rgWV [1, 2, 3, 29] (aI @hml (aI @hbl (aI @hbm oT))) oT) ?_
    refine AX.condF (h := ?_)
    refine AX.keepA [1, 2, 3] (h := ?_)
    refine AX.skip ?_
    try simp only [zn1,zn2,zn3,zn4,zn5,zn6,zn7,zn8,if_true]
    refine AX.sR (rgCV [1, 2, 3, 7, 8, 9] (aI r1 oT)) ?_
    refine AX.seq ?_
    refine AX.sR (rgAV [1, 2, 3, 7, 8, 38]) ?_
    refine AX.condT (h := ?_)
    refine AX.sR (rgCV [6] (aI cal oT)) ?_
    refine AX.ret (And.intro (Or.inl rfl) ?_)
    exact Done.one rfl rfl rfl rfl
  cases hR : runC T cs 0 0 with
  | none =>
    rw [runV, hS, if_pos rfl, hR] at r1
    unfold oRun at r1
    unfold smp at *
    generalize nx T = A at *
    generalize cbl cs = B at *
    generalize cbl ms = D at *
    refine AX.sR (rgAV [1, 2, 3]) ?_
    refine AX.seq ?_
    refine AX.sR (rgWV [1, 2, 3, 29] (aI @hml (aI @hbl (aI @hbm oT))) oT) ?_
    refine AX.condF (h := ?_)
    refine AX.keepA [1, 2, 3] (h := ?_)
    refine AX.skip ?_
    try simp only [zn1,zn2,zn3,zn4,zn5,zn6,zn7,zn8,if_true]
    refine AX.sR (rgCV [1, 2, 3, 7, 8, 9] (aI r1 oT)) ?_
    refine AX.seq ?_
    refine AX.sR (rgAV [1, 2, 3, 7, 8, 38]) ?_
    refine AX.condT (h := ?_)
    refine AX.sR (rgCV [6] (aI cal oT)) ?_
    refine AX.ret (And.intro (Or.inl rfl) ?_)
    exact Done.one rfl rfl rfl rfl
  | some x =>
    obtain ⟨v, n⟩ := x
    rw [runV, hS, if_pos rfl, hR] at r1
    obtain ⟨p1, p2, p3, p4⟩ := runC_prop cs 0 0 hR
    rw [Nat.sub_zero] at p3 p4
    have hlen : (cs.take n ++ ms).length = n + ms.length := by rw [List.length_append, List.length_take]; omega
    have g1 := crun_g T (cs.take n ++ ms) hl hb (by omega)
    rw [runV, hS, if_pos rfl, p3 ms, hlen] at g1
    have r3 := crun_ok T (cs.take (n - 1)) hl hb (by rw [List.length_take]; omega)
    rw [runV, hS, if_pos rfl, p4] at r3
    unfold oRun at r1 g1 r3
    have t1 : (cbl cs).take n = cbl (cs.take n) := cbl_take ..
    have t2 : (cbl cs).take (n - 1) = cbl (cs.take (n - 1)) := cbl_take ..
    have t3 : cbl (cs.take n) ++ cbl ms = cbl (cs.take n ++ ms) := cbl_app ..
    have f1 : flatCells (cbl (cs.take n)) = cbl (cs.take n) := flatCells_cbl _
    have f2 : flatCells (cbl ms) = cbl ms := flatCells_cbl _
    have l1 : (cbl (cs.take n)).length = n := by rw [cbl_length, List.length_take]; omega
    have hren : V.renL id (cbl (cs.take n ++ ms)) = cbl (cs.take n ++ ms) := renL_id _
    have hlt := fun k => lt_cbl k (cs.take n ++ ms)
    obtain ⟨k, hk⟩ : ∃ k : Nat, n = k + 1 := ⟨n - 1, by omega⟩
    have a1 : ((k + 1 : Nat) : Int) - 1 = (k : Int) := by omega
    subst hk
    rw [Nat.add_sub_cancel] at r3 t2
    have s1 := fun x y => effSlB (x := x) (y := y) (l := cs) (n := k + 1) (by omega)
    have s2 := fun x y => effSlB (x := x) (y := y) (l := cs) (n := k) (by omega)
    have d1 := cbl_head (cs.take (k + 1))
    have d2 := cbl_head ms
    have q1 := cbl_flat (cs.take (k + 1))
    have q2 := cbl_flat ms
    unfold smp at *
    refine AX.sR (rgAV [1, 2, 3]) ?_
    refine AX.seq ?_
    refine AX.sR (rgWV [1, 2, 3, 29] (aI @hml (aI @hbl (aI @hbm oT))) oT) ?_
    refine AX.condF (h := ?_)
    refine AX.keepA [1, 2, 3] (h := ?_)
    refine AX.skip ?_
    try simp only [zn1,zn2,zn3,zn4,zn5,zn6,zn7,zn8,if_true]
    refine AX.sR (rgCV [1, 2, 3, 7, 8, 9] (aI r1 oT)) ?_
    refine AX.seq ?_
    refine AX.sR (rgAV [1, 2, 3, 7, 8, 38]) ?_
    refine AX.condF (h := ?_)
    refine AX.keepA [1, 2, 3, 7, 8] (h := ?_)
    refine AX.skip ?_
    try simp only [zn1,zn2,zn3,zn4,zn5,zn6,zn7,zn8,if_true]
    refine AX.seq ?_
    refine AX.sR (rgWV [1, 2, 3, 7, 8, 47] (aI @hbl oT) oT) ?_
    refine AX.condF (h := ?_)
    refine AX.keepA [1, 2, 3, 7, 8] (h := ?_)
    refine AX.skip ?_
    try simp only [zn1,zn2,zn3,zn4,zn5,zn6,zn7,zn8,if_true]
    apply AX.sdreg [1, 3, 7, 8, 10, 11, 12] (by kernel_rfl) (by simp only [pq]; rfl)
    · repeat (first
     | (apply RunD.op rfl; · rfl
        · (simp only [opsOf, valsOf, valOf, lkp, ofConst, ofCell, Array.toList, Option.toList, List.map_cons, List.map_nil, List.cons_append, List.nil_append, List.append_nil, Nat.reduceEqDiff, Nat.reducePow, Nat.reduceLT, Nat.reduceLeDiff, reduceIte, if_true, if_false, IntKind.min, IntKind.max, IntKind.bits, IntKind.signed, Int.reduceLE, Int.reduceNeg, Int.reducePow, Int.reduceSub, and_self, Bool.false_eq_true, Nat.reduceSub]; rfl)
        · first | exact s1 _ _ | (simp (disch := omega) only [go_sem, i64_of, u32_of, u64_of, Nat.reduceLT, Nat.reduceLeDiff, Nat.reduceEqDiff, Nat.reduceAdd, Nat.reduceSub, Nat.reduceMul, Nat.reducePow, Nat.reduceBEq, Int.reduceLE, Int.reduceLT, Int.reduceToNat, Int.reduceEq, Int.reduceNeg, ↓reduceIte, reduceCtorEq, hbl, t3, f1, f2, l1, hbm, d1, d2, q1, q2]; rfl)
        · (simp (disch := omega) only [go_sem, i64_of, u32_of, u64_of, Nat.reduceLT, Nat.reduceLeDiff, Nat.reduceEqDiff, Nat.reduceAdd, Nat.reduceSub, Nat.reduceMul, Nat.reducePow, Nat.reduceBEq, Int.reduceLE, Int.reduceLT, Int.reduceToNat, Int.reduceEq, Int.reduceNeg, ↓reduceIte, reduceCtorEq, hbl, t3, f1, f2, l1, hbm, d1, d2, q1, q2]; rfl)
        · (simp only [pb, Nat.reduceLT, Nat.reduceAdd, reduceIte]; rfl)
        · rfl)
     | (apply RunD.gcall [3] rfl; · rfl
        · (simp only [opsOf, valsOf, valOf, lkp, ofConst, ofCell, Array.toList, Option.toList, List.map_cons, List.map_nil, List.cons_append, List.nil_append, List.append_nil, Nat.reduceEqDiff, Nat.reducePow, Nat.reduceLT, Nat.reduceLeDiff, reduceIte, if_true, if_false, IntKind.min, IntKind.max, IntKind.bits, IntKind.signed, Int.reduceLE, Int.reduceNeg, Int.reducePow, Int.reduceSub, and_self, Bool.false_eq_true, Nat.reduceSub]; rfl)
        · exact g1
        · first | rfl | (simp only [Row.ren, V.ren, V.renL, renS, ren_q, renL_u, ren_z, ren_bl, ren_il, ren_nx, ren_wl, ren_cbl, renL_id]; rfl)
        · first | rfl | (simp only [V.lt, V.ltL, ltS, lt_q, ltL_u, lt_z, lt_bl, lt_il, lt_nx, lt_wl, lt_cbl]; rfl)
        · decide
        · repeat' (first | exact trivial | rfl | (simp only [Row.ren, V.ren, V.renL, renS, ren_q, renL_u, ren_z, ren_bl, ren_il, ren_nx, ren_wl, ren_cbl, renL_id]; done) | (simp only [Row.ren, V.ren, V.renL, renS, ren_q, renL_u, ren_z, ren_bl, ren_il, ren_nx, ren_wl, ren_cbl, renL_id]; rfl) | (simp only [V.lt, V.ltL, ltS, lt_q, ltL_u, lt_z, lt_bl, lt_il, lt_nx, lt_wl, lt_cbl]; done) | apply And.intro)
        · first | rfl | (simp only [Row.ren, V.ren, V.renL, renS, ren_q, renL_u, ren_z, ren_bl, ren_il, ren_nx, ren_wl, ren_cbl, renL_id]; rfl)
        · (simp only [setRows, setL, Row.ren, V.ren, V.renL, renS, ren_q, renL_u, ren_z, ren_bl, ren_il, ren_nx, ren_wl, ren_cbl, renL_id, pb, Nat.reduceLT, Nat.reduceAdd, Nat.reduceEqDiff, reduceIte]; rfl)
        · rfl)
     | (apply RunD.skip; · rfl
        · (simp only [pb, Nat.reduceLT, Nat.reduceAdd, reduceIte]; rfl)
        · rfl))
      exact RunD.nil
    · repeat (first | exact Keep.nil | (apply Keep.take; · rfl) | (apply Keep.drop; · rfl))
    · kernel_rfl
    refine AX.sD (rgDEV [7, 8, 10, 11, 12, 15] (aI @hbl (aI @a1 oT)) (aI r3 oT) (aI s2 oT)) ?_
    refine AX.sR (rgCV [6] (aI cal oT)) ?_
    refine AX.ret (And.intro (Or.inl rfl) ?_)
    exact Done.one rfl rfl rfl rfl
end Go.Proofs.YteidabibgjokkaaGreatDoor
