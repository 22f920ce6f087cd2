/- Matrices: sized, copied, cell, filled, Zero, Same. -/
import Derived.Test.YtepkjfnffbdcoaaMatA
import Derived.Test.YtepkjfnffbdcoaaLiftN
set_option linter.unusedVariables false
set_option maxRecDepth 20000
set_option linter.unusedSimpArgs false
namespace Go.Proofs.Ytepkjfnffbdcoaa
open Go Go.Proofs.Ytepkjfnffbdcoaa.Lift
attribute [local irreducible] Lift.PCall Lift.HCall

mutual
theorem hf_name (f : Nat → Nat) (n : Nat) : ∀ v : V, V.hf v = true → v.ren f = v ∧ v.lt n = true
  | .agg cs, h => by
    obtain ⟨h1, h2⟩ := hf_names f n cs (by simpa only [V.hf] using h)
    exact ⟨by simp only [V.ren, h1], by simp only [V.lt, h2]⟩
  | .tup cs, h => by
    obtain ⟨h1, h2⟩ := hf_names f n cs (by simpa only [V.hf] using h)
    exact ⟨by simp only [V.ren, h1], by simp only [V.lt, h2]⟩
  | .fn g cs, h => by
    obtain ⟨h1, h2⟩ := hf_names f n cs (by simpa only [V.hf] using h)
    exact ⟨by simp only [V.ren, h1], by simp only [V.lt, h2]⟩
  | .ptr _ _, h => by simp [V.hf] at h
  | .own _ _ _ _, h => by simp [V.hf] at h
  | .junk, _ => ⟨by simp only [V.ren], by simp only [V.lt]⟩
  | .b _, _ => ⟨by simp only [V.ren], by simp only [V.lt]⟩
  | .i _ _, _ => ⟨by simp only [V.ren], by simp only [V.lt]⟩
  | .s _, _ => ⟨by simp only [V.ren], by simp only [V.lt]⟩
  | .nl, _ => ⟨by simp only [V.ren], by simp only [V.lt]⟩
  | .sl _, _ => ⟨by simp only [V.ren], by simp only [V.lt]⟩
  | .rp _, _ => ⟨by simp only [V.ren], by simp only [V.lt]⟩
theorem hf_names (f : Nat → Nat) (n : Nat) : ∀ l : List V, V.hfL l = true → V.renL f l = l ∧ V.ltL n l = true
  | [], _ => ⟨by simp only [V.renL], by simp only [V.ltL]⟩
  | v :: l, h => by
    simp only [V.hfL, Bool.and_eq_true] at h
    obtain ⟨h1, h2⟩ := hf_name f n v h.1
    obtain ⟨h3, h4⟩ := hf_names f n l h.2
    exact ⟨by simp only [V.renL, h1, h3], by simp only [V.ltL, h2, h4, Bool.and_self]⟩
end
theorem msized_ok (r c : Nat) (hr : r ≤ 60) (hc : c ≤ 60) : PCall Try.prog 86 [.i .i64 r, .i .i64 c] (.i .i64 0) [] := by
  refine PCall.of_ax Try.call86 Try.func86 rfl (by simp [Try.ntmps86]) fun O w => ?_
  simp only [Try.ntmps86, Try.results86, argFr]
  refine AX.sregAV [0, 1] (hq := ?_)
  refine AX.seq ?_
  refine AX.block ?_
  refine AX.sregAV [0, 1, 5] (hq := ?_)
  refine AX.condF (h := ?_)
  refine AX.sregAV [12] (hq := ?_)
  refine AX.condF (h := ?_)
  refine AX.keepA [] (h := ?_)
  refine AX.skip ?_
  try simp only [thenS_normal, thenS_ret, thenS_exit, blockS_normal, blockS_ret, blockS_exit, backS_ret, backS_exit, if_true]
  refine AX.sregAV [4] (hq := ?_)
  refine AX.ret (And.intro (Or.inl rfl) ?_)
  exact Done.one rfl rfl rfl rfl

theorem Lift.Done.cellOO {st : St} {a : Tmp} {h h1 h2 lx ly : Nat} {T T1 T2 : TypeId} {s : Bool} {x y : List Nat} (g : lkp st.fr a = some (.ptr h 0)) (g0 : lkp st.hp h = some ⟨T, [.b s, .own h1 0 lx 1, .own h2 0 ly 1]⟩) (g1 : lkp st.hp h1 = some ⟨T1, x.map u⟩) (g2 : lkp st.hp h2 = some ⟨T2, y.map u⟩) (hne : h2 ≠ h1) (hx : lx = x.length) (hy : ly = y.length) :
    Done Try.prog #[.cell a 25] (rR s x y) [] st := by
  subst hx hy
  have e2 : lkp (dlt st.hp h1) h2 = some ⟨T2, y.map u⟩ := by rw [lkp_dlt, upd_ne _ _ hne]; exact g2
  have t1 : ∀ l : List Nat, List.take l.length (List.drop 0 (l.map u)) = l.map u := fun l => by rw [List.drop_zero]; exact List.take_of_length_le (by simp)
  refine Done.of (vs := [.agg [.b s, .own h1 0 x.length 1, .own h2 0 y.length 1]]) (hp := dlt (dlt st.hp h1) h2) ?_ ?_ rfl ?_ ?_
  · simp only [resVs, resV, g, g0, lay_ratio]; rfl
  · simp only [packV, frz, frzL, g1, e2, t1, flat_u, hfL_u, List.not_mem_nil, if_false, List.length_map, Nat.zero_add, Nat.mul_one, Nat.le_refl, and_self, if_true, chunks_one, Nat.lt_succ_self, Nat.zero_lt_one, true_and]
  · simp only [rR, V.lt, V.ltL, ltL_u]; rfl
  · simp only [rR, V.ren, V.renL, renL_u]

set_option maxHeartbeats 2000000 in
theorem copied_ok (s : Bool) (a b : List Nat) (hla : a.length < 2 ^ 38) (hlb : b.length < 2 ^ 38) : PCall Try.prog 90 [rR s a b] (rR s a b) [] := by
  refine PCall.of_ax Try.call90 Try.func90 rfl (by simp [Try.ntmps90]) fun O w => ?_
  simp only [Try.ntmps90, Try.results90, argFr]
  refine AX.sregAV [1, 2] (hq := ?_)
  refine AX.sdregAV [2] (hq := ?_)
  refine AX.ret (And.intro (Or.inl rfl) ?_)
  exact Done.cellOO rfl rfl rfl rfl (by decide) rfl rfl

set_option maxHeartbeats 2000000 in
theorem ccell_ok (r c i k : Nat) (xs : List Rat) (hc : c ≤ 60) (hi : i < 2 ^ 20) (hk : k < 2 ^ 20) (hj : i * c + k < xs.length) : PCall Try.prog 33 [mV r c (xs.map rV), .i .i64 i, .i .i64 k] (rV (xs.getD (i * c + k) 0)) [] := by
  refine PCall.of_ax Try.call33 Try.func33 rfl (by simp [Try.ntmps33]) fun O w => ?_
  simp only [Try.ntmps33, Try.results33, argFr]
  have hic : i * c ≤ 2 ^ 20 * 60 := Nat.mul_le_mul (by omega) hc
  have hic' : (i : Int) * (c : Int) = ((i * c : Nat) : Int) := (Int.natCast_mul i c).symm
  have hix := fun x y => effIxQ (x := x) (y := y) hj
  generalize i * c = z at *
  have e : (z : Int) + (k : Int) = ((z + k : Nat) : Int) := (Int.natCast_add z k).symm
  generalize z + k = j at *
  generalize xs.getD j 0 = q at *
  refine AX.sregAV [1, 2, 3, 6] (hq := ?_)
  apply AX.sreg [6] (by simp only [pq]; rfl)
  · repeat (first
   | (apply RunO.op rfl; · rfl
      · (simp only [opsOf, valsOf, valOf, lkp, ofConst, ofCell, Array.toList, Option.toList, List.map_cons, List.map_nil, List.cons_append, List.nil_append, List.append_nil, Nat.reduceEqDiff, Nat.reducePow, Nat.reduceLT, Nat.reduceLeDiff, reduceIte, if_true, if_false, IntKind.min, IntKind.max, IntKind.bits, IntKind.signed, Int.reduceLE, Int.reduceNeg, Int.reducePow, Int.reduceSub, and_self, Bool.false_eq_true, Nat.reduceSub]; rfl)
      · first | exact hix _ _ | (simp (disch := omega) only [go_sem, i64_of, u32_of, u64_of, Nat.reduceLT, Nat.reduceLeDiff, Nat.reduceEqDiff, Nat.reduceAdd, Nat.reduceSub, Nat.reduceMul, Nat.reducePow, Nat.reduceBEq, Int.reduceLE, Int.reduceLT, Int.reduceToNat, Int.reduceEq, Int.reduceNeg, reduceIte, reduceCtorEq, hic', e]; rfl)
      · (simp (disch := omega) only [go_sem, i64_of, u32_of, u64_of, Nat.reduceLT, Nat.reduceLeDiff, Nat.reduceEqDiff, Nat.reduceAdd, Nat.reduceSub, Nat.reduceMul, Nat.reducePow, Nat.reduceBEq, Int.reduceLE, Int.reduceLT, Int.reduceToNat, Int.reduceEq, Int.reduceNeg, reduceIte, reduceCtorEq, hic', e]; rfl)
      · (simp only [pb, Nat.reduceLT, Nat.reduceAdd, reduceIte]; rfl))
   | (apply RunO.skip; · rfl
      · (simp only [pb, Nat.reduceLT, Nat.reduceAdd, reduceIte]; rfl)))
    exact RunO.nil
  · repeat (first | exact Keep.nil | (apply Keep.take; · rfl) | (apply Keep.drop; · rfl))
  refine AX.ret (And.intro (Or.inl rfl) ?_)
  exact Done.cell rfl rfl

theorem Lift.AX.fzM {P : Program} {C : Ctx} {st : St} {Q : Exit → St → Prop} (n h : Nat) (fr' : List (Nat × V)) {T T' : TypeId} {xs : List Rat} {x y : V} {c : Code} (h0 : FzFr n (qrow xs) st.fr fr') (hr : lkp st.hp n = some ⟨T, qrow xs⟩) (hq : lkp st.hp h = some ⟨T', [x, y, .own n 0 xs.length 3]⟩) (hne : h ≠ n)
    (hc : AX P C c ⟨fr', [(h, ⟨T', [x, y, .sl (xs.map rV)]⟩)], st.nx⟩ Q) : AX P C c st Q := by
  refine AX.fz n (hp' := [(h, ⟨T', [x, y, .sl (xs.map rV)]⟩)]) hr (hf_q xs) h0 (.cons hne hq rfl rfl ?_ .nil) hc
  intro k hk
  have : k = 0 ∨ k = 1 ∨ k = 2 := by simp at hk; omega
  rcases this with rfl | rfl | rfl
  · exact .same
  · exact .same
  · exact .own (okFrz_q xs) (by rw [take_q, chunks_q])

/-- The result of filled: given away, or a row of the caller's. -/
theorem zerosV_1 (z : List V) : zerosV 1 z = z := by simp [zerosV]
def resF (b : Bool) (r c : Nat) (f : Nat → Nat → Rat) : V := if b = true then .agg [.i .i64 r, .i .i64 c, .own 0 0 (r * c) 3] else qM r c f
def rowsF (b : Bool) (r c : Nat) (f : Nat → Nat → Rat) : List Row := if b = true then [⟨25, qrow (mcells c f (r * c))⟩] else []
theorem Lift.Done.matRow {st : St} {t : Tmp} {h h2 : Nat} {T T' T2 : TypeId} {z : List V} {K : Nat} {xs : List Rat} {k1 k2 : IntKind} {n1 n2 : Int} (hL : lay Try.prog T' = some ⟨3, true, 40, z⟩) (h1 : lkp st.fr t = some (.ptr h 0)) (g1 : lkp st.hp h = some ⟨T, [.i k1 n1, .i k2 n2, .own h2 0 K 3]⟩) (g2 : lkp st.hp h2 = some ⟨T2, qrow xs⟩) :
    Done Try.prog #[.cell t T'] (.agg [.i k1 n1, .i k2 n2, .own 0 0 K 3]) [⟨T2, qrow xs⟩] st := by
  refine ⟨[.agg [.i k1 n1, .i k2 n2, .own h2 0 K 3]], ?_, [h2], fun _ => h2, .agg [.i k1 n1, .i k2 n2, .own h2 0 K 3], st.hp, ?_, ?_, ?_, ?_, ?_⟩
  · simp only [resVs, resV, h1, g1, hL]; rfl
  · simp only [packV, frz, frzL, List.mem_singleton, if_true]
  · simp only [V.ren, V.renL]
  · simp only [V.lt, V.ltL]; rfl
  · intro h q hq
    match h, hq with
    | 0, hq =>
      cases hq
      refine ⟨?_, lt_q _ _⟩
      rw [g2]
      simp only [Row.ren, ren_q]
  · intro a b ha hb _
    simp at ha hb
    omega

set_option maxHeartbeats 4000000 in
/-- filled makes the matrix that its function tells. -/
theorem filledB (own? : Bool) (r c : Nat) (hr : r ≤ 200) (hc : c ≤ 200) (g : FuncId) (caps : List V) (f : Nat → Nat → Rat) (hh : V.hfL caps = true) (hf : ∀ i k, i < r → k < c → PCall Try.prog g (.i .i64 i :: .i .i64 k :: cnlL caps) (rV (f i k)) []) :
    PCall Try.prog 87 [.i .i64 r, .i .i64 c, .fn g caps] (resF own? r c f) (rowsF own? r c f) := by
  refine PCall.of_ax Try.call87 Try.func87 rfl (by simp [Try.ntmps87]) fun O w => ?_
  simp only [Try.ntmps87, Try.results87, argFr]
  have hren : ∀ f, V.renL f caps = caps := fun f => (hf_names f 0 caps hh).1
  have hlt : ∀ n, V.ltL n caps = true := fun n => (hf_names id n caps hh).2
  refine AX.sregAV [0, 1, 2, 6] (hq := ?_)
  refine AX.sregAV [0, 1, 2, 6, 7] (hq := ?_)
  refine AX.own0c 1 2 25 3 rfl rfl (by show 2 < 3; decide) ?_
  refine AX.seq ?_
  refine AX.sregAV [1, 2, 6, 7, 13, 14] (hq := ?_)
  refine AX.weaken id (st' := ⟨[(14, .i .i64 0), (13, .i .i64 r), (7, .ptr 1 0), (6, .ptr 0 0), (2, .fn g caps), (1, .i .i64 c)], [(0, ⟨35, [.i .i64 0, .i .i64 0, .nl]⟩), (1, ⟨35, [.i .i64 r, .i .i64 c, .own 2 0 0 3]⟩), (2, ⟨25, qrow []⟩)], 3⟩)
    ⟨by simp only [ren_q, renL_u, lt_q, ltL_u, LeFr, LeHp, lkp, V.ren, V.renL, Row.ren, V.lt, V.ltL, renL_u, ltL_u, List.length_append, List.length_cons, List.length_nil, List.length_set, id_eq, Option.some.injEq, V.i.injEq, V.b.injEq, V.own.injEq, Row.mk.injEq, decide_true, decide_eq_true_eq, true_and, and_true, Bool.and_true, Bool.true_and, if_true, if_false, and_self, Nat.reduceLT, Nat.reduceLeDiff, Nat.reduceEqDiff, Nat.reduceAdd, Nat.reduceSub, Nat.reduceMul, Nat.reducePow, Nat.reduceBEq, Int.reduceLE, Int.reduceLT, Int.reduceToNat, Int.reduceEq, Int.reduceNeg, reduceIte, reduceCtorEq] <;> (first | done | trivial | (and_intros <;> first | trivial | omega | (simp only [hren, hlt]))), by simp only [ren_q, renL_u, lt_q, ltL_u, LeFr, LeHp, lkp, V.ren, V.renL, Row.ren, V.lt, V.ltL, renL_u, ltL_u, List.length_append, List.length_cons, List.length_nil, List.length_set, id_eq, Option.some.injEq, V.i.injEq, V.b.injEq, V.own.injEq, Row.mk.injEq, decide_true, decide_eq_true_eq, true_and, and_true, Bool.and_true, Bool.true_and, if_true, if_false, and_self, Nat.reduceLT, Nat.reduceLeDiff, Nat.reduceEqDiff, Nat.reduceAdd, Nat.reduceSub, Nat.reduceMul, Nat.reducePow, Nat.reduceBEq, Int.reduceLE, Int.reduceLT, Int.reduceToNat, Int.reduceEq, Int.reduceNeg, reduceIte, reduceCtorEq] <;> (first | done | trivial | (and_intros <;> first | trivial | omega | (simp only [hren, hlt]))), by simp [Apart], by first | exact Nat.zero_le _ | simp, by intro n hn; first | rfl | exact absurd hn (Nat.not_lt_zero _) | (have h0 : n = 0 := Nat.lt_one_iff.1 hn; subst h0; rfl)⟩
    ?_
  refine AX.block ?_
  refine AX.loop (fun n st => ∃ (i m : Nat) (xs : List Rat), i ≤ r ∧ n = r - i ∧ m = i * c + 0 ∧ xs = mcells c f m ∧ st = ⟨[(14, .i .i64 i), (13, .i .i64 r), (7, .ptr 1 0), (6, .ptr 0 0), (2, .fn g caps), (1, .i .i64 c)], [(0, ⟨35, [.i .i64 0, .i .i64 0, .nl]⟩), (1, ⟨35, [.i .i64 r, .i .i64 c, .own 2 0 m 3]⟩), (2, ⟨25, qrow xs⟩)], 3⟩) r ⟨0, 0, [], Nat.zero_le _, rfl, by omega, rfl, rfl⟩ ?_
  rintro n st ⟨i, m, xs, hi, rfl, hm, hxs, rfl⟩
  by_cases h1 : i < r
  · refine AX.sregAV [1, 2, 6, 7, 13, 14, 15] (hq := ?_)
    refine AX.seq ?_
    refine AX.condT (h := ?_)
    refine AX.keepA [1, 2, 6, 7, 13, 14] (h := ?_)
    refine AX.skip ?_
    try simp only [thenS_normal, thenS_ret, thenS_exit, blockS_normal, blockS_ret, blockS_exit, backS_ret, backS_exit, if_true]
    refine AX.seq ?_
    refine AX.block ?_
    refine AX.sregAV [1, 2, 6, 7, 8, 13, 14] (hq := ?_)
    refine AX.sregAV [1, 2, 6, 7, 8, 13, 14, 17, 18] (hq := ?_)
    refine AX.block ?_
    refine AX.loop (fun n st => ∃ (k m : Nat) (xs : List Rat), k ≤ c ∧ n = c - k ∧ m = i * c + k ∧ xs = mcells c f m ∧ st = ⟨[(18, .i .i64 k), (17, .i .i64 c), (8, .i .i64 i), (14, .i .i64 i), (13, .i .i64 r), (7, .ptr 1 0), (6, .ptr 0 0), (2, .fn g caps), (1, .i .i64 c)], [(0, ⟨35, [.i .i64 0, .i .i64 0, .nl]⟩), (1, ⟨35, [.i .i64 r, .i .i64 c, .own 2 0 m 3]⟩), (2, ⟨25, qrow xs⟩)], 3⟩) c ⟨0, m, xs, Nat.zero_le _, rfl, hm, hxs, rfl⟩ ?_
    clear hxs hm xs m
    rintro n st ⟨k, m, xs, hk, rfl, hm, hxs, rfl⟩
    by_cases h2 : k < c
    · have hmb : m ≤ 200 * 200 + 200 := by
        have : i * c ≤ 200 * 200 := Nat.mul_le_mul (by omega) hc
        omega
      have hcall := hf i k h1 h2
      have hlen : (qrow xs).length = m * 3 := by rw [qrow_length, hxs, mcells_length]
      have hrow : qrow xs ++ [.b (decide ((f i k).num < 0)), dg (digits (f i k).num.natAbs), dg (digits (f i k).den)] = qrow (mcells c f (i * c + (k + 1))) := by
        rw [mcells_succ f h2, qrow_app, hxs, hm]
        rfl
      have hm1 : m + 1 = i * c + (k + 1) := by omega
      clear hf hxs
      generalize f i k = q at hcall hrow ⊢
      obtain ⟨ys, hys⟩ : ∃ ys, mcells c f (i * c + (k + 1)) = ys := ⟨_, rfl⟩
      rw [hys] at hrow
      refine AX.sregAV [1, 2, 6, 7, 8, 13, 14, 17, 18, 19] (hq := ?_)
      refine AX.seq ?_
      refine AX.condT (h := ?_)
      refine AX.keepA [1, 2, 6, 7, 8, 13, 14, 17, 18] (h := ?_)
      refine AX.skip ?_
      try simp only [thenS_normal, thenS_ret, thenS_exit, blockS_normal, blockS_ret, blockS_exit, backS_ret, backS_exit, if_true]
      refine AX.seq ?_
      refine AX.block ?_
      refine AX.sregAV [1, 2, 6, 7, 8, 9, 13, 14, 17, 18] (hq := ?_)
      apply AX.dreg [1, 2, 6, 7, 8, 13, 14, 17, 18] (by kernel_rfl) (by simp only [pq]; rfl)
      · repeat (first
       | (apply RunD.op rfl; · rfl
          · (simp only [opsOf, valsOf, valOf, lkp, ofConst, ofCell, Array.toList, Option.toList, List.map_cons, List.map_nil, List.cons_append, List.nil_append, List.append_nil, Nat.reduceEqDiff, Nat.reducePow, Nat.reduceLT, Nat.reduceLeDiff, reduceIte, if_true, if_false, IntKind.min, IntKind.max, IntKind.bits, IntKind.signed, Int.reduceLE, Int.reduceNeg, Int.reducePow, Int.reduceSub, and_self, Bool.false_eq_true, Nat.reduceSub]; rfl)
          iterate 2 (· (simp (disch := omega) only [go_sem, i64_of, u32_of, u64_of, Nat.reduceLT, Nat.reduceLeDiff, Nat.reduceEqDiff, Nat.reduceAdd, Nat.reduceSub, Nat.reduceMul, Nat.reducePow, Nat.reduceBEq, Int.reduceLE, Int.reduceLT, Int.reduceToNat, Int.reduceEq, Int.reduceNeg, reduceIte, reduceCtorEq, hlen, zerosV_1, List.take_succ_cons, List.take_zero, List.set_cons_zero, List.set_cons_succ]; rfl))
          · (simp only [pb, Nat.reduceLT, Nat.reduceAdd, reduceIte]; rfl)
          · rfl)
       | (apply RunD.call rfl; · rfl
          · (simp only [opsOf, valsOf, valOf, lkp, ofConst, ofCell, Array.toList, Option.toList, List.map_cons, List.map_nil, List.cons_append, List.nil_append, List.append_nil, Nat.reduceEqDiff, Nat.reducePow, Nat.reduceLT, Nat.reduceLeDiff, reduceIte, if_true, if_false, IntKind.min, IntKind.max, IntKind.bits, IntKind.signed, Int.reduceLE, Int.reduceNeg, Int.reducePow, Int.reduceSub, and_self, Bool.false_eq_true, Nat.reduceSub]; rfl)
          · first | rfl | (simp only [List.cons_append, List.nil_append, V.hfL, V.hf, Bool.true_and]; assumption)
          · (first | (simp only [cnlL, cnl, List.append_nil, List.cons_append, List.nil_append]; first | exact hcall) | (first | exact hcall))
          · rfl
          · (simp only [pb, Nat.reduceLT, Nat.reduceAdd, reduceIte]; rfl)
          · rfl)
       | (apply RunD.skip; · rfl
          · (simp only [pb, Nat.reduceLT, Nat.reduceAdd, reduceIte]; rfl)
          · rfl))
        exact RunD.nil
      · repeat (first | exact Keep.nil | (apply Keep.take; · rfl) | (apply Keep.drop; · rfl))
      · kernel_rfl
      try simp only [thenS_normal, thenS_ret, thenS_exit, blockS_normal, blockS_ret, blockS_exit, backS_ret, backS_exit, if_true]
      rw [hrow]
      refine AX.regWV [1, 2, 6, 7, 8, 13, 14, 17, 18] (And.intro @lit_add True.intro) True.intro (hq := ?_)
      try simp only [thenS_normal, thenS_ret, thenS_exit, blockS_normal, blockS_ret, blockS_exit, backS_ret, backS_exit, if_true]
      refine ⟨_, _, fun n => if n = 2 then 4 else n, ?_,
        ⟨by simp only [ren_q, renL_u, lt_q, ltL_u, LeFr, LeHp, lkp, V.ren, V.renL, Row.ren, V.lt, V.ltL, renL_u, ltL_u, List.length_append, List.length_cons, List.length_nil, List.length_set, id_eq, Option.some.injEq, V.i.injEq, V.b.injEq, V.own.injEq, Row.mk.injEq, decide_true, decide_eq_true_eq, true_and, and_true, Bool.and_true, Bool.true_and, if_true, if_false, and_self, Nat.reduceLT, Nat.reduceLeDiff, Nat.reduceEqDiff, Nat.reduceAdd, Nat.reduceSub, Nat.reduceMul, Nat.reducePow, Nat.reduceBEq, Int.reduceLE, Int.reduceLT, Int.reduceToNat, Int.reduceEq, Int.reduceNeg, reduceIte, reduceCtorEq] <;> (first | done | trivial | (and_intros <;> first | trivial | omega | (simp only [hren, hlt]))), by simp only [ren_q, renL_u, lt_q, ltL_u, LeFr, LeHp, lkp, V.ren, V.renL, Row.ren, V.lt, V.ltL, renL_u, ltL_u, List.length_append, List.length_cons, List.length_nil, List.length_set, id_eq, Option.some.injEq, V.i.injEq, V.b.injEq, V.own.injEq, Row.mk.injEq, decide_true, decide_eq_true_eq, true_and, and_true, Bool.and_true, Bool.true_and, if_true, if_false, and_self, Nat.reduceLT, Nat.reduceLeDiff, Nat.reduceEqDiff, Nat.reduceAdd, Nat.reduceSub, Nat.reduceMul, Nat.reducePow, Nat.reduceBEq, Int.reduceLE, Int.reduceLT, Int.reduceToNat, Int.reduceEq, Int.reduceNeg, reduceIte, reduceCtorEq] <;> (first | done | trivial | (and_intros <;> first | trivial | omega | (simp only [hren, hlt]))), by simp [Apart], by first | exact Nat.zero_le _ | simp, by intro n hn; first | rfl | exact absurd hn (Nat.not_lt_zero _) | (have h0 : n = 0 := Nat.lt_one_iff.1 hn; subst h0; rfl)⟩
        , ⟨k + 1, m + 1, ys, by omega, rfl, hm1, by rw [hm1, hys], rfl⟩⟩
      omega
    · refine AX.sregAV [1, 2, 6, 7, 8, 13, 14, 17, 18, 19] (hq := ?_)
      refine AX.seq ?_
      refine AX.condF (h := ?_)
      refine AX.exit ?_
      try simp only [thenS_normal, thenS_ret, thenS_exit, blockS_normal, blockS_ret, blockS_exit, backS_ret, backS_exit, if_true]
      refine AX.regWV [1, 2, 6, 7, 13, 14] (And.intro @lit_add True.intro) True.intro (hq := ?_)
      try simp only [thenS_normal, thenS_ret, thenS_exit, blockS_normal, blockS_ret, blockS_exit, backS_ret, backS_exit, if_true]
      refine ⟨_, _, id, ?_,
        ⟨by simp only [ren_q, renL_u, lt_q, ltL_u, LeFr, LeHp, lkp, V.ren, V.renL, Row.ren, V.lt, V.ltL, renL_u, ltL_u, List.length_append, List.length_cons, List.length_nil, List.length_set, id_eq, Option.some.injEq, V.i.injEq, V.b.injEq, V.own.injEq, Row.mk.injEq, decide_true, decide_eq_true_eq, true_and, and_true, Bool.and_true, Bool.true_and, if_true, if_false, and_self, Nat.reduceLT, Nat.reduceLeDiff, Nat.reduceEqDiff, Nat.reduceAdd, Nat.reduceSub, Nat.reduceMul, Nat.reducePow, Nat.reduceBEq, Int.reduceLE, Int.reduceLT, Int.reduceToNat, Int.reduceEq, Int.reduceNeg, reduceIte, reduceCtorEq] <;> (first | done | trivial | (and_intros <;> first | trivial | omega | (simp only [hren, hlt]))), by simp only [ren_q, renL_u, lt_q, ltL_u, LeFr, LeHp, lkp, V.ren, V.renL, Row.ren, V.lt, V.ltL, renL_u, ltL_u, List.length_append, List.length_cons, List.length_nil, List.length_set, id_eq, Option.some.injEq, V.i.injEq, V.b.injEq, V.own.injEq, Row.mk.injEq, decide_true, decide_eq_true_eq, true_and, and_true, Bool.and_true, Bool.true_and, if_true, if_false, and_self, Nat.reduceLT, Nat.reduceLeDiff, Nat.reduceEqDiff, Nat.reduceAdd, Nat.reduceSub, Nat.reduceMul, Nat.reducePow, Nat.reduceBEq, Int.reduceLE, Int.reduceLT, Int.reduceToNat, Int.reduceEq, Int.reduceNeg, reduceIte, reduceCtorEq] <;> (first | done | trivial | (and_intros <;> first | trivial | omega | (simp only [hren, hlt]))), by simp [Apart], by first | exact Nat.zero_le _ | simp, by intro n hn; first | rfl | exact absurd hn (Nat.not_lt_zero _) | (have h0 : n = 0 := Nat.lt_one_iff.1 hn; subst h0; rfl)⟩
        , ⟨i + 1, m, xs, by omega, rfl, by have e : k = c := by omega
                                           subst e
                                           rw [hm, Nat.succ_mul]; omega, hxs, rfl⟩⟩
      omega
  · refine AX.sregAV [1, 2, 6, 7, 13, 14, 15] (hq := ?_)
    refine AX.seq ?_
    refine AX.condF (h := ?_)
    refine AX.exit ?_
    try simp only [thenS_normal, thenS_ret, thenS_exit, blockS_normal, blockS_ret, blockS_exit, backS_ret, backS_exit, if_true]
    have hml : m = xs.length := by rw [hxs, mcells_length]
    have e : i = r := by omega
    subst e
    have hxs' : xs = mcells c f (i * c) := by rw [hxs, hm, Nat.add_zero]
    subst hml
    apply AX.sreg [6] (by simp only [pq]; rfl)
    · repeat (first
     | (apply RunO.op rfl; · rfl
        · (simp only [opsOf, valsOf, valOf, lkp, ofConst, ofCell, Array.toList, Option.toList, List.map_cons, List.map_nil, List.cons_append, List.nil_append, List.append_nil, Nat.reduceEqDiff, Nat.reducePow, Nat.reduceLT, Nat.reduceLeDiff, reduceIte, if_true, if_false, IntKind.min, IntKind.max, IntKind.bits, IntKind.signed, Int.reduceLE, Int.reduceNeg, Int.reducePow, Int.reduceSub, and_self, Bool.false_eq_true, Nat.reduceSub]; rfl)
        iterate 2 (· (simp (disch := omega) only [go_sem, i64_of, u32_of, u64_of, Nat.reduceLT, Nat.reduceLeDiff, Nat.reduceEqDiff, Nat.reduceAdd, Nat.reduceSub, Nat.reduceMul, Nat.reducePow, Nat.reduceBEq, Int.reduceLE, Int.reduceLT, Int.reduceToNat, Int.reduceEq, Int.reduceNeg, reduceIte, reduceCtorEq, List.set_cons_zero, List.set_cons_succ]; rfl))
        · (simp only [pb, Nat.reduceLT, Nat.reduceAdd, reduceIte]; rfl))
     | (apply RunO.skip; · rfl
        · (simp only [pb, Nat.reduceLT, Nat.reduceAdd, reduceIte]; rfl)))
      exact RunO.nil
    · repeat (first | exact Keep.nil | (apply Keep.take; · rfl) | (apply Keep.drop; · rfl))
    cases own?
    · refine AX.fzM 2 0 [(6, .ptr 0 0)] (.cons rfl .same .nil) rfl rfl (by decide) ?_
      rw [hxs']
      refine AX.ret (And.intro (Or.inl rfl) ?_)
      show Done _ _ (qM i c f) [] _
      exact Done.of (by simp (disch := omega) only [resVs, resV, go_sem, i64_of, u32_of, u64_of, Nat.reduceLT, Nat.reduceLeDiff, Nat.reduceEqDiff, Nat.reduceAdd, Nat.reduceSub, Nat.reduceMul, Nat.reducePow, Nat.reduceBEq, Int.reduceLE, Int.reduceLT, Int.reduceToNat, Int.reduceEq, Int.reduceNeg, reduceIte, reduceCtorEq]; rfl) (by simp only [packV, frz, frzL]; rfl) rfl (by simp only [V.lt, V.ltL, ltL_u, lt_q, ltL_u]; first | done | rfl) (by simp only [V.ren, V.renL, renL_u, ren_q, renL_u]; first | done | rfl)
    · refine AX.ret (And.intro (Or.inl rfl) ?_)
      have e2 : xs.length = i * c := by omega
      show Done _ _ (.agg [.i .i64 i, .i .i64 c, .own 0 0 (i * c) 3]) [⟨25, qrow (mcells c f (i * c))⟩] _
      rw [← hxs', ← e2]
      exact Done.matRow lay_mat rfl rfl rfl
theorem filled_ok (r c : Nat) (hr : r ≤ 200) (hc : c ≤ 200) (g : FuncId) (caps : List V) (f : Nat → Nat → Rat) (hh : V.hfL caps = true) (hf : ∀ i k, i < r → k < c → PCall Try.prog g (.i .i64 i :: .i .i64 k :: cnlL caps) (rV (f i k)) []) :
    PCall Try.prog 87 [.i .i64 r, .i .i64 c, .fn g caps] (qM r c f) [] := filledB false r c hr hc g caps f hh hf
theorem filled_own (r c : Nat) (hr : r ≤ 200) (hc : c ≤ 200) (g : FuncId) (caps : List V) (f : Nat → Nat → Rat) (hh : V.hfL caps = true) (hf : ∀ i k, i < r → k < c → PCall Try.prog g (.i .i64 i :: .i .i64 k :: cnlL caps) (rV (f i k)) []) :
    PCall Try.prog 87 [.i .i64 r, .i .i64 c, .fn g caps] (.agg [.i .i64 r, .i .i64 c, .own 0 0 (r * c) 3]) [⟨25, qrow (mcells c f (r * c))⟩] := filledB true r c hr hc g caps f hh hf

end Go.Proofs.Ytepkjfnffbdcoaa
