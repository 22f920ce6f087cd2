/- The law FactorMuls. -/
import Derived.Test.YtogpimmcodaljaaKO
set_option linter.unusedVariables false
set_option maxRecDepth 20000
set_option linter.unusedSimpArgs false
namespace Go.Proofs.Ytogpimmcodaljaa
open Go Go.Proofs.Ytogpimmcodaljaa.Lift
attribute [local irreducible] Lift.PCall Lift.HCall
def Fx (z : V) : Prop := ∃ (vs ws : List Int) (xs : List RT) (e : Int), z = .tup [fV vs ws xs, .i .i64 e] ∧ vs.length < 2 ^ 40 ∧ ws.length < 2 ^ 40 ∧ xs.length < 2 ^ 40 ∧ okY xs ∧ 0 ≤ e ∧ e < 100
theorem Fx.err (e : Int) (h : 0 ≤ e ∧ e < 100) : Fx (.tup [fV [] [] [], .i .i64 e]) := ⟨[], [], [], e, rfl, by decide, by decide, by decide, fun x hx => (List.not_mem_nil hx).elim, h.1, h.2⟩
theorem Fx.fv {t : Nat → Nat} {q : Nat → Rat} (ht : szT t ≤ 4096) (hq : ∀ k, k < szT t → rL (q k) ≤ 2 ^ 30) : Fx (.tup [FV t q, .i .i64 0]) :=
 ⟨ci (vsT t), ci (asT t), xsT t q, 0, rfl, by rw [ci_length]; have := vsT_len t; omega, by rw [ci_length, asT_len]; have := vsT_len t; omega, by rw [xsT_length]; omega, xsT_okY hq, by decide, by decide⟩
theorem boQ_len {op : Rat → Rat → Rat} {t s : Nat → Nat} {q p : Nat → Rat} {L M : Nat} (hop : ∀ a b, rL a ≤ L → rL b ≤ L → rL (op a b) ≤ M) (hq : ∀ k, k < szT t → rL (q k) ≤ L) (hp : ∀ k, k < szT s → rL (p k) ≤ L) (hm : ¬ misT t s) (n : Nat) : rL (boQ op t s q p n) ≤ M :=
 hop _ _ (hq _ (enT_lt (joT_in1 (deT_in _ n)))) (hp _ (enT_lt (joT_in2 hm (deT_in _ n))))
theorem Fx.bo {t s : Nat → Nat} {r : Nat → Rat} (h : ¬ misT t s → ∀ n, n < szT (joT t s) → rL (r n) ≤ 2 ^ 30) : Fx (boV t s r) := by
 unfold boV
 split
 ·exact .err 30 (by decide)
 ·rename_i hm
  split
  ·rename_i hs
   exact .fv hs (h hm)
  ·exact .err 2 (by decide)
theorem Fx.same {z : V} (h : Fx z) : ∃ (A B C : List V) (e : Int), z = .tup [.agg [.sl A, .sl B, .sl C], .i .i64 e] ∧ PCall Try.prog 18 [.agg [.sl A, .sl B, .sl C], .i .i64 e, .agg [.sl A, .sl B, .sl C], .i .i64 e] (.b true) [] := by
 obtain ⟨vs, ws, xs, e, rfl, h1, h2, h3, h4, h5⟩ := h
 have := lsame26_ok vs ws xs vs ws xs h1 h2 h3 h1 h2 h3 h4 h4 e e h5 h5
 rw [sameF_self, decide_eq_true rfl] at this
 exact ⟨_, _, _, e, rfl, this⟩
set_option maxHeartbeats 8000000 in
theorem rMul_any (x y z : V) (V1 A1 X1 V2 A2 X2 A B C : List V) (e : Int) (hx : x = .agg [.sl V1, .sl A1, .sl X1]) (hy : y = .agg [.sl V2, .sl A2, .sl X2]) (hz : z = .tup [.agg [.sl A, .sl B, .sl C], .i .i64 e]) (c1 : PCall Try.prog 54 [x, y, .b false] z []) : PCall Try.prog 23 [x, y] z [] := by
 subst hx hy hz
 refine PCall.of_ax Try.call23 Try.func23 rfl (by simp [Try.ntmps23]) fun O w0 => ?_
 simp only [Try.ntmps23, Try.results23, argFr]
 refine AX.sR (rgAV [2, 3, 4]) ?_
 refine AX.sR (rgCV [4, 5] (aI c1 oT)) ?_
 refine AX.ret ⟨.inl rfl, ?_⟩
 exact dnQ5
theorem rMul_ok (t s : Nat → Nat) (q p : Nat → Rat) (ht : okT t) (hs : okT s) (L : Nat) (hL1 : 1 ≤ L) (hL : L ≤ 2 ^ 30) (hq : ∀ k, k < szT t → rL (q k) ≤ L) (hp : ∀ k, k < szT s → rL (p k) ≤ L) : PCall Try.prog 23 [FV t q, FV s p] (boV t s (boQ opMul t s q p)) [] := by
 obtain ⟨A, B, C, e, hb⟩ := boV_ex t s (boQ opMul t s q p)
 exact rMul_any _ _ _ _ _ _ _ _ _ A B C e rfl rfl hb (rjoinedMul_ok t s q p ht hs L hL1 hL hq hp)
set_option maxHeartbeats 8000000 in
theorem rjoinedMul_not1 (vs ws : List Int) (xs : List RT) (V2 A2 X2 : List V) (hv : vs.length < 2 ^ 40) (ha : ws.length < 2 ^ 40) (hl : xs.length < 2 ^ 40) (hx : okX xs) (h : isF vs ws xs = false) : PCall Try.prog 54 [fV vs ws xs, .agg [.sl V2, .sl A2, .sl X2], .b false] (.tup [fV [] [] [], .i .i64 1]) [] := by
 have cr := fright26_ok vs ws xs hv ha hl hx
 rw [h] at cr
 unfold fV at *
 generalize zl vs = V1 at *
 generalize zl ws = A1 at *
 generalize xs.map fR = X1 at *
 refine PCall.of_ax Try.call54 Try.func54 rfl (by simp [Try.ntmps54]) fun O w0 => ?_
 simp only [Try.ntmps54, Try.results54, argFr]
 refine AX.sR (rgAV [2, 3, 4, 6]) ?_
 refine AX.seq ?_
 refine AX.sR (rgCV [2, 3, 4, 6, 22] (aI cr oT)) ?_
 refine AX.condT ?_
 refine AX.sR (rgAV [6, 7]) ?_
 refine AX.ret ⟨.inl rfl, ?_⟩
 exact Lift.Done.facE fa_lay_fac26 rfl rfl rfl
set_option maxHeartbeats 8000000 in
theorem rjoinedMul_not2 (us zs : List Int) (ys : List RT) (hu : us.length < 2 ^ 40) (hz : zs.length < 2 ^ 40) (hy : ys.length < 2 ^ 40) (hyx : okX ys) (hh : isF us zs ys = true) (vs ws : List Int) (xs : List RT) (hv : vs.length < 2 ^ 40) (ha : ws.length < 2 ^ 40) (hl : xs.length < 2 ^ 40) (hx : okX xs) (h : isF vs ws xs = false) : PCall Try.prog 54 [fV us zs ys, fV vs ws xs, .b false] (.tup [fV [] [] [], .i .i64 1]) [] := by
 have cr1 := fright26_ok us zs ys hu hz hy hyx
 rw [hh] at cr1
 have cr := fright26_ok vs ws xs hv ha hl hx
 rw [h] at cr
 unfold fV at *
 generalize zl vs = V1 at *
 generalize zl ws = A1 at *
 generalize xs.map fR = X1 at *
 generalize zl us = V2 at *
 generalize zl zs = A2 at *
 generalize ys.map fR = X2 at *
 refine PCall.of_ax Try.call54 Try.func54 rfl (by simp [Try.ntmps54]) fun O w0 => ?_
 simp only [Try.ntmps54, Try.results54, argFr]
 refine AX.sR (rgAV [2, 3, 4, 6]) ?_
 refine AX.seq ?_
 refine AX.sR (rgCV [2, 3, 4, 6, 22] (aI cr1 (aI cr oT))) ?_
 refine AX.condT ?_
 refine AX.sR (rgAV [6, 7]) ?_
 refine AX.ret ⟨.inl rfl, ?_⟩
 exact Lift.Done.facE fa_lay_fac26 rfl rfl rfl
theorem rMul_not1 (vs ws : List Int) (xs : List RT) (vs' ws' : List Int) (xs' : List RT) (hv : vs.length < 2 ^ 40) (ha : ws.length < 2 ^ 40) (hl : xs.length < 2 ^ 40) (hx : okX xs) (h : isF vs ws xs = false) : PCall Try.prog 23 [fV vs ws xs, fV vs' ws' xs'] (.tup [fV [] [] [], .i .i64 1]) [] :=
 rMul_any _ _ _ _ _ _ _ _ _ _ _ _ 1 rfl rfl rfl (rjoinedMul_not1 vs ws xs _ _ _ hv ha hl hx h)
theorem rMul_not2 (us zs : List Int) (ys : List RT) (hu : us.length < 2 ^ 40) (hz : zs.length < 2 ^ 40) (hy : ys.length < 2 ^ 40) (hyx : okX ys) (hh : isF us zs ys = true) (vs ws : List Int) (xs : List RT) (hv : vs.length < 2 ^ 40) (ha : ws.length < 2 ^ 40) (hl : xs.length < 2 ^ 40) (hx : okX xs) (h : isF vs ws xs = false) : PCall Try.prog 23 [fV us zs ys, fV vs ws xs] (.tup [fV [] [] [], .i .i64 1]) [] :=
 rMul_any _ _ _ _ _ _ _ _ _ _ _ _ 1 rfl rfl rfl (rjoinedMul_not2 us zs ys hu hz hy hyx hh vs ws xs hv ha hl hx h)
set_option maxHeartbeats 8000000 in
theorem rAdd_any (x y z : V) (V1 A1 X1 V2 A2 X2 A B C : List V) (e : Int) (hx : x = .agg [.sl V1, .sl A1, .sl X1]) (hy : y = .agg [.sl V2, .sl A2, .sl X2]) (hz : z = .tup [.agg [.sl A, .sl B, .sl C], .i .i64 e]) (c1 : PCall Try.prog 54 [x, y, .b true] z []) : PCall Try.prog 25 [x, y] z [] := by
 subst hx hy hz
 refine PCall.of_ax Try.call25 Try.func25 rfl (by simp [Try.ntmps25]) fun O w0 => ?_
 simp only [Try.ntmps25, Try.results25, argFr]
 refine AX.sR (rgAV [2, 3, 4]) ?_
 refine AX.sR (rgCV [4, 5] (aI c1 oT)) ?_
 refine AX.ret ⟨.inl rfl, ?_⟩
 exact dnQ5
theorem rAdd_ok (t s : Nat → Nat) (q p : Nat → Rat) (ht : okT t) (hs : okT s) (L : Nat) (hL1 : 1 ≤ L) (hL : L ≤ 2 ^ 30) (hq : ∀ k, k < szT t → rL (q k) ≤ L) (hp : ∀ k, k < szT s → rL (p k) ≤ L) : PCall Try.prog 25 [FV t q, FV s p] (boV t s (boQ opAdd t s q p)) [] := by
 obtain ⟨A, B, C, e, hb⟩ := boV_ex t s (boQ opAdd t s q p)
 exact rAdd_any _ _ _ _ _ _ _ _ _ A B C e rfl rfl hb (rjoinedAdd_ok t s q p ht hs L hL1 hL hq hp)
set_option maxHeartbeats 8000000 in
theorem rjoinedAdd_not1 (vs ws : List Int) (xs : List RT) (V2 A2 X2 : List V) (hv : vs.length < 2 ^ 40) (ha : ws.length < 2 ^ 40) (hl : xs.length < 2 ^ 40) (hx : okX xs) (h : isF vs ws xs = false) : PCall Try.prog 54 [fV vs ws xs, .agg [.sl V2, .sl A2, .sl X2], .b true] (.tup [fV [] [] [], .i .i64 1]) [] := by
 have cr := fright26_ok vs ws xs hv ha hl hx
 rw [h] at cr
 unfold fV at *
 generalize zl vs = V1 at *
 generalize zl ws = A1 at *
 generalize xs.map fR = X1 at *
 refine PCall.of_ax Try.call54 Try.func54 rfl (by simp [Try.ntmps54]) fun O w0 => ?_
 simp only [Try.ntmps54, Try.results54, argFr]
 refine AX.sR (rgAV [2, 3, 4, 6]) ?_
 refine AX.seq ?_
 refine AX.sR (rgCV [2, 3, 4, 6, 22] (aI cr oT)) ?_
 refine AX.condT ?_
 refine AX.sR (rgAV [6, 7]) ?_
 refine AX.ret ⟨.inl rfl, ?_⟩
 exact Lift.Done.facE fa_lay_fac26 rfl rfl rfl
set_option maxHeartbeats 8000000 in
theorem rjoinedAdd_not2 (us zs : List Int) (ys : List RT) (hu : us.length < 2 ^ 40) (hz : zs.length < 2 ^ 40) (hy : ys.length < 2 ^ 40) (hyx : okX ys) (hh : isF us zs ys = true) (vs ws : List Int) (xs : List RT) (hv : vs.length < 2 ^ 40) (ha : ws.length < 2 ^ 40) (hl : xs.length < 2 ^ 40) (hx : okX xs) (h : isF vs ws xs = false) : PCall Try.prog 54 [fV us zs ys, fV vs ws xs, .b true] (.tup [fV [] [] [], .i .i64 1]) [] := by
 have cr1 := fright26_ok us zs ys hu hz hy hyx
 rw [hh] at cr1
 have cr := fright26_ok vs ws xs hv ha hl hx
 rw [h] at cr
 unfold fV at *
 generalize zl vs = V1 at *
 generalize zl ws = A1 at *
 generalize xs.map fR = X1 at *
 generalize zl us = V2 at *
 generalize zl zs = A2 at *
 generalize ys.map fR = X2 at *
 refine PCall.of_ax Try.call54 Try.func54 rfl (by simp [Try.ntmps54]) fun O w0 => ?_
 simp only [Try.ntmps54, Try.results54, argFr]
 refine AX.sR (rgAV [2, 3, 4, 6]) ?_
 refine AX.seq ?_
 refine AX.sR (rgCV [2, 3, 4, 6, 22] (aI cr1 (aI cr oT))) ?_
 refine AX.condT ?_
 refine AX.sR (rgAV [6, 7]) ?_
 refine AX.ret ⟨.inl rfl, ?_⟩
 exact Lift.Done.facE fa_lay_fac26 rfl rfl rfl
theorem rAdd_not1 (vs ws : List Int) (xs : List RT) (vs' ws' : List Int) (xs' : List RT) (hv : vs.length < 2 ^ 40) (ha : ws.length < 2 ^ 40) (hl : xs.length < 2 ^ 40) (hx : okX xs) (h : isF vs ws xs = false) : PCall Try.prog 25 [fV vs ws xs, fV vs' ws' xs'] (.tup [fV [] [] [], .i .i64 1]) [] :=
 rAdd_any _ _ _ _ _ _ _ _ _ _ _ _ 1 rfl rfl rfl (rjoinedAdd_not1 vs ws xs _ _ _ hv ha hl hx h)
theorem rAdd_not2 (us zs : List Int) (ys : List RT) (hu : us.length < 2 ^ 40) (hz : zs.length < 2 ^ 40) (hy : ys.length < 2 ^ 40) (hyx : okX ys) (hh : isF us zs ys = true) (vs ws : List Int) (xs : List RT) (hv : vs.length < 2 ^ 40) (ha : ws.length < 2 ^ 40) (hl : xs.length < 2 ^ 40) (hx : okX xs) (h : isF vs ws xs = false) : PCall Try.prog 25 [fV us zs ys, fV vs ws xs] (.tup [fV [] [] [], .i .i64 1]) [] :=
 rAdd_any _ _ _ _ _ _ _ _ _ _ _ _ 1 rfl rfl rfl (rjoinedAdd_not2 us zs ys hu hz hy hyx hh vs ws xs hv ha hl hx h)
theorem len_opMul {a b : Rat} (h1 : rL a ≤ 3) (h2 : rL b ≤ 3) : rL (opMul a b) ≤ 2 ^ 30 := by
 have := rL_mul a b h1 h2 (by decide)
 unfold opMul
 omega
theorem len_opAdd {a b : Rat} (h1 : rL a ≤ 3) (h2 : rL b ≤ 3) : rL (opAdd a b) ≤ 2 ^ 30 := by
 have := rL_add a b h1 h2
 unfold opAdd
 omega
set_option maxHeartbeats 8000000 in
theorem factorMuls_core (U0 W0 X0 U1 W1 X1 V1 A1 Y1 V2 A2 Y2 : List V) (z1 z2 : V) (h1 : Fx z1) (h2 : Fx z2) (c1 : PCall Try.prog 8 [.agg [.sl U0, .sl W0, .sl X0]] (.agg [.sl V1, .sl A1, .sl Y1]) []) (c2 : PCall Try.prog 8 [.agg [.sl U1, .sl W1, .sl X1]] (.agg [.sl V2, .sl A2, .sl Y2]) [])
  (c3 : PCall Try.prog 22 [.agg [.sl V1, .sl A1, .sl Y1], .agg [.sl V2, .sl A2, .sl Y2]] z1 []) (c4 : PCall Try.prog 23 [.agg [.sl V1, .sl A1, .sl Y1], .agg [.sl V2, .sl A2, .sl Y2]] z1 [])
  (c5 : PCall Try.prog 24 [.agg [.sl V1, .sl A1, .sl Y1], .agg [.sl V2, .sl A2, .sl Y2]] z2 []) (c6 : PCall Try.prog 25 [.agg [.sl V1, .sl A1, .sl Y1], .agg [.sl V2, .sl A2, .sl Y2]] z2 []) :
  PCall Try.prog 5 [.agg [.sl U0, .sl W0, .sl X0], .agg [.sl U1, .sl W1, .sl X1]] (.b true) [] := by
 obtain ⟨Aa, Ba, Ca, ea, rfl, s1⟩ := h1.same
 obtain ⟨Ab, Bb, Cb, eb, rfl, s2⟩ := h2.same
 have cal := lalive26_ok
 refine PCall.of_ax Try.call5 Try.func5 rfl (by simp [Try.ntmps5]) fun O w9 => ?_
 simp only [Try.ntmps5, Try.results5, argFr]
 refine AX.sR (rgAV [2, 3]) ?_
 refine AX.sD (rgDCV [2, 3] (aI c1 (aI c2 oT))) ?_
 refine AX.sR (rgCV [2, 3, 5, 6] (aI c3 oT)) ?_
 refine AX.sR (rgCV [2, 3, 5, 6, 7, 8] (aI c4 oT)) ?_
 refine AX.sR (rgCV [2, 3, 5, 6, 7, 8, 9, 10] (aI c5 oT)) ?_
 refine AX.sR (rgCV [5, 6, 7, 8, 9, 10, 11, 12] (aI c6 oT)) ?_
 refine AX.sR (rgCV [4] (aI s1 (aI s2 (aI cal oT)))) ?_
 refine AX.ret ⟨.inl rfl, ?_⟩
 exact Done.one rfl rfl rfl rfl
set_option maxHeartbeats 4000000 in
theorem factorMuls_ok (u0 w0 : List Int) (x0 : List RT) (u1 w1 : List Int) (x1 : List RT) (hu0 : u0.length < 2 ^ 62) (hw0 : w0.length < 2 ^ 62) (hx0 : x0.length < 2 ^ 62) (hd0 : ∀ x ∈ x0, Dg x.2.1 ∧ Dg x.2.2 ∧ x.2.1.length < 2 ^ 62 ∧ x.2.2.length < 2 ^ 62)
  (hu1 : u1.length < 2 ^ 62) (hw1 : w1.length < 2 ^ 62) (hx1 : x1.length < 2 ^ 62) (hd1 : ∀ x ∈ x1, Dg x.2.1 ∧ Dg x.2.2 ∧ x.2.1.length < 2 ^ 62 ∧ x.2.2.length < 2 ^ 62) :
  PCall Try.prog 5 [fV u0 w0 x0, fV u1 w1 x1] (.b true) [] := by
 obtain ⟨vf, wf, xf, sf, c1⟩ := ffew_ok u0 w0 x0 hu0 hw0 hx0 hd0
 obtain ⟨vg, wg, xg, sg, c2⟩ := ffew_ok u1 w1 x1 hu1 hw1 hx1 hd1
 have q1 := sf.v
 have q2 := sf.w
 have q3 := sf.l
 have q4 := sg.v
 have q5 := sg.w
 have q6 := sg.l
 have e1 := Fx.err 1 (by decide)
 rcases sf.f with hbad | ⟨t, q, ht, hs, hq, rfl, rfl, rfl⟩
 ·exact factorMuls_core _ _ _ _ _ _ _ _ _ _ _ _ _ _ e1 e1 c1 c2 (fMul_not1 vf wf xf vg wg xg (by omega) (by omega) (by omega) sf.okY.x hbad) (rMul_not1 vf wf xf vg wg xg (by omega) (by omega) (by omega) sf.okY.x hbad)
   (fAdd_not1 vf wf xf vg wg xg (by omega) (by omega) (by omega) sf.okY.x hbad) (rAdd_not1 vf wf xf vg wg xg (by omega) (by omega) (by omega) sf.okY.x hbad)
 ·rcases sg.f with hbad | ⟨s, p, hs', hss, hp, rfl, rfl, rfl⟩
  ·have hf := isF_T ht q
   exact factorMuls_core _ _ _ _ _ _ _ _ _ _ _ _ _ _ e1 e1 c1 c2 (fMul_not2 _ _ _ (by omega) (by omega) (by omega) sf.okY.x hf vg wg xg (by omega) (by omega) (by omega) sg.okY.x hbad) (rMul_not2 _ _ _ (by omega) (by omega) (by omega) sf.okY.x hf vg wg xg (by omega) (by omega) (by omega) sg.okY.x hbad)
    (fAdd_not2 _ _ _ (by omega) (by omega) (by omega) sf.okY.x hf vg wg xg (by omega) (by omega) (by omega) sg.okY.x hbad) (rAdd_not2 _ _ _ (by omega) (by omega) (by omega) sf.okY.x hf vg wg xg (by omega) (by omega) (by omega) sg.okY.x hbad)
  ·exact factorMuls_core _ _ _ _ _ _ _ _ _ _ _ _ _ _ (Fx.bo fun hm n _ => boQ_len (fun a b => len_opMul) hq hp hm n) (Fx.bo fun hm n _ => boQ_len (fun a b => len_opAdd) hq hp hm n) c1 c2 (fMul_ok t s q p ht hs' 3 (by omega) hq hp) (rMul_ok t s q p ht hs' 3 (by omega) (by omega) hq hp) (fAdd_ok t s q p ht hs' 3 (by omega) hq hp) (rAdd_ok t s q p ht hs' 3 (by omega) (by omega) hq hp)
end Go.Proofs.Ytogpimmcodaljaa
/- The law FactorCells. -/
set_option linter.unusedVariables false
set_option linter.unusedSimpArgs false
namespace Go.Proofs.Ytogpimmcodaljaa
open Go Go.Proofs.Ytogpimmcodaljaa.Lift
attribute [local irreducible] Lift.PCall Lift.HCall
theorem take_bd2 {l : List Int} {m : Nat} (hb : ∀ j, j < l.length → -9223372036854775808 ≤ l.getD j 0 ∧ l.getD j 0 ≤ 9223372036854775807) : ∀ j, j < (l.take m).length → -9223372036854775808 ≤ (l.take m).getD j 0 ∧ (l.take m).getD j 0 ≤ 9223372036854775807 := fun j hj => by
 rw [List.length_take] at hj
 have e : (l.take m).getD j 0 = l.getD j 0 := by rw [List.getD_eq_getElem?_getD, List.getD_eq_getElem?_getD, List.getElem?_take, if_pos (by omega)]
 rw [e]
 exact hb j (by omega)
set_option maxHeartbeats 16000000 in
theorem factorCells_err (U0 W0 X0 U1 W1 X1 V1 A1 Y1 V2 A2 Y2 : List V) (l : List Int) (hl : l.length < 2 ^ 62) (s1 s2 : Bool) (x1 y1 x2 y2 : List Nat) (e h i : Int) (he : 0 ≤ e ∧ e < 100) (hh : 0 ≤ h ∧ h < 100) (hi : 0 ≤ i ∧ i < 100) (P1 P2 P3 Q1 Q2 Q3 : List V) (hno : ¬ (e = 0 ∧ h = 0 ∧ i = 0))
  (c1 : PCall Try.prog 8 [.agg [.sl U0, .sl W0, .sl X0]] (.agg [.sl V1, .sl A1, .sl Y1]) []) (c2 : PCall Try.prog 8 [.agg [.sl U1, .sl W1, .sl X1]] (.agg [.sl V2, .sl A2, .sl Y2]) [])
  (c3 : PCall Try.prog 9 [.agg [.sl V1, .sl A1, .sl Y1], .sl (zl (l.take 80))] (.tup [.agg [.b s1, dg x1, dg y1], .i .i64 e]) []) (c4 : PCall Try.prog 9 [.agg [.sl V2, .sl A2, .sl Y2], .sl (zl (l.take 80))] (.tup [.agg [.b s2, dg x2, dg y2], .i .i64 h]) [])
  (c5 : PCall Try.prog 22 [.agg [.sl V1, .sl A1, .sl Y1], .agg [.sl V2, .sl A2, .sl Y2]] (.tup [.agg [.sl P1, .sl P2, .sl P3], .i .i64 i]) []) (c6 : PCall Try.prog 24 [.agg [.sl V1, .sl A1, .sl Y1], .agg [.sl V2, .sl A2, .sl Y2]] (.tup [.agg [.sl Q1, .sl Q2, .sl Q3], .i .i64 i]) []) :
  PCall Try.prog 6 [.agg [.sl U0, .sl W0, .sl X0], .agg [.sl U1, .sl W1, .sl X1], .sl (zl l)] (.b true) [] := by
 have cal := lalive26_ok
 obtain ⟨n0, m0, l0, tt0, k0⟩ := fmin l 80
 have e0 := fHiZ l0
 rw [tt0] at e0
 have m0 : (if (80 : Int) < (l.length : Int) then (80 : Int) else (l.length : Int)) = (n0 : Int) := m0
 have hal : (zl l).length = l.length := zl_length l
 generalize zl (l.take 80) = A' at *
 generalize zl l = A0 at *
 refine PCall.of_ax Try.call6 Try.func6 rfl (by simp [Try.ntmps6]) fun O w9 => ?_
 simp only [Try.ntmps6, Try.results6, argFr]
 refine AX.sR (rgAV [2, 3, 4]) ?_
 refine AX.sD (rgDEV [2, 3, 4] (aI @hal (aI @m0 oT)) (aI c1 (aI c2 oT)) (aI e0 oT)) ?_
 refine AX.sR (rgCV [2, 3, 4, 7, 8] (aI c3 oT)) ?_
 refine AX.sR (rgCV [2, 3, 4, 7, 8, 9, 10] (aI c4 oT)) ?_
 refine AX.sR (rgCV [2, 3, 4, 7, 8, 9, 10, 11, 12] (aI c5 oT)) ?_
 refine AX.sR (rgCV [2, 7, 8, 9, 10, 11, 12, 13, 14] (aI c6 oT)) ?_
 refine AX.seq ?_
 clear c1 c2 c3 c4 c5 c6 e0
 by_cases k1 : e = 0
 ·subst k1
  by_cases k2 : h = 0
  ·subst k2
   have k3 : ¬ i = 0 := fun h => hno ⟨rfl, rfl, h⟩
   refine AX.sR (rgWV [2, 7, 9, 11, 12, 13, 14, 65] (aI @k3 oT) oT) ?_
   refine AX.condT ?_
   refine AX.sR (rgCV [6] (aI cal oT)) ?_
   refine AX.ret ⟨.inl rfl, ?_⟩
   exact Done.one rfl rfl rfl rfl
  ·refine AX.sR (rgWV [2, 7, 9, 11, 12, 13, 14, 65] (aI @k2 oT) oT) ?_
   refine AX.condT ?_
   refine AX.sR (rgCV [6] (aI cal oT)) ?_
   refine AX.ret ⟨.inl rfl, ?_⟩
   exact Done.one rfl rfl rfl rfl
 ·refine AX.sR (rgWV [2, 7, 9, 11, 12, 13, 14, 65] (aI @k1 oT) oT) ?_
  refine AX.condT ?_
  refine AX.sR (rgCV [6] (aI cal oT)) ?_
  refine AX.ret ⟨.inl rfl, ?_⟩
  exact Done.one rfl rfl rfl rfl
set_option maxHeartbeats 16000000 in
theorem factorCells_good (U0 W0 X0 U1 W1 X1 V1 A1 Y1 V2 A2 Y2 : List V) (l : List Int) (hl : l.length < 2 ^ 62) (x y m n : Rat) (P1 P2 P3 Q1 Q2 Q3 : List V) (hx : rL x ≤ 3) (hy : rL y ≤ 3) (hm : m = x * y) (hn : n = x + y)
  (c1 : PCall Try.prog 8 [.agg [.sl U0, .sl W0, .sl X0]] (.agg [.sl V1, .sl A1, .sl Y1]) []) (c2 : PCall Try.prog 8 [.agg [.sl U1, .sl W1, .sl X1]] (.agg [.sl V2, .sl A2, .sl Y2]) [])
  (c3 : PCall Try.prog 9 [.agg [.sl V1, .sl A1, .sl Y1], .sl (zl (l.take 80))] (.tup [rV x, .i .i64 0]) []) (c4 : PCall Try.prog 9 [.agg [.sl V2, .sl A2, .sl Y2], .sl (zl (l.take 80))] (.tup [rV y, .i .i64 0]) [])
  (c5 : PCall Try.prog 22 [.agg [.sl V1, .sl A1, .sl Y1], .agg [.sl V2, .sl A2, .sl Y2]] (.tup [.agg [.sl P1, .sl P2, .sl P3], .i .i64 0]) []) (c6 : PCall Try.prog 24 [.agg [.sl V1, .sl A1, .sl Y1], .agg [.sl V2, .sl A2, .sl Y2]] (.tup [.agg [.sl Q1, .sl Q2, .sl Q3], .i .i64 0]) [])
  (c7 : PCall Try.prog 9 [.agg [.sl P1, .sl P2, .sl P3], .sl (zl (l.take 80))] (.tup [rV m, .i .i64 0]) []) (c8 : PCall Try.prog 9 [.agg [.sl Q1, .sl Q2, .sl Q3], .sl (zl (l.take 80))] (.tup [rV n, .i .i64 0]) []) :
  PCall Try.prog 6 [.agg [.sl U0, .sl W0, .sl X0], .agg [.sl U1, .sl W1, .sl X1], .sl (zl l)] (.b true) [] := by
 have cal := lalive26_ok
 obtain ⟨n0, m0, l0, tt0, k0⟩ := fmin l 80
 have e0 := fHiZ l0
 rw [tt0] at e0
 have m0 : (if (80 : Int) < (l.length : Int) then (80 : Int) else (l.length : Int)) = (n0 : Int) := m0
 have hal : (zl l).length = l.length := zl_length l
 have lm := len_opMul hx hy
 have la := len_opAdd hx hy
 unfold opMul at lm
 unfold opAdd at la
 have cm := pmul_ok (IsQ.of hx) (IsQ.of hy) (by omega) (by omega)
 have ca := padd_ok (IsQ.of hx) (IsQ.of hy) (by omega) (by omega)
 rw [← hm] at cm lm
 rw [← hn] at ca la
 have s1 := psame_ok (IsQ.of lm) (IsQ.of lm) (by omega) (by omega)
 have s2 := psame_ok (IsQ.of la) (IsQ.of la) (by omega) (by omega)
 rw [decide_eq_true rfl] at s1 s2
 unfold rV rR at *
 clear hm hn lm la hx hy
 generalize zl (l.take 80) = A' at *
 generalize zl l = A0 at *
 generalize decide (m.num < 0) = m1 at *
 generalize digits m.num.natAbs = m2 at *
 generalize digits m.den = m3 at *
 generalize decide (n.num < 0) = n1 at *
 generalize digits n.num.natAbs = n2 at *
 generalize digits n.den = n3 at *
 generalize decide (x.num < 0) = x1 at *
 generalize digits x.num.natAbs = x2 at *
 generalize digits x.den = x3 at *
 generalize decide (y.num < 0) = y1 at *
 generalize digits y.num.natAbs = y2 at *
 generalize digits y.den = y3 at *
 refine PCall.of_ax Try.call6 Try.func6 rfl (by simp [Try.ntmps6]) fun O w9 => ?_
 simp only [Try.ntmps6, Try.results6, argFr]
 refine AX.sR (rgAV [2, 3, 4]) ?_
 refine AX.sD (rgDEV [2, 3, 4] (aI @hal (aI @m0 oT)) (aI c1 (aI c2 oT)) (aI e0 oT)) ?_
 refine AX.sR (rgCV [2, 3, 4, 7, 8] (aI c3 oT)) ?_
 refine AX.sR (rgCV [2, 3, 4, 7, 8, 9, 10] (aI c4 oT)) ?_
 refine AX.sR (rgCV [2, 3, 4, 7, 8, 9, 10, 11, 12] (aI c5 oT)) ?_
 refine AX.sR (rgCV [2, 7, 8, 9, 10, 11, 12, 13, 14] (aI c6 oT)) ?_
 refine AX.seq ?_
 clear c1 c2 c3 c4 c5 c6 e0
 refine AX.sR (rgAV [2, 7, 9, 11, 12, 13, 14, 65]) ?_
 refine AX.condF ?_
 refine AX.keepA [2, 7, 9, 11, 13] ?_
 refine AX.skip ?_
 refine nmZ ?_
 refine AX.sR (rgCV [2, 7, 9, 13, 15, 16] (aI c7 oT)) ?_
 refine AX.sR (rgCV [7, 9, 15, 16, 17, 18] (aI c8 oT)) ?_
 refine AX.sD (rgDCV [6] (aI cm (aI ca (aI s1 (aI s2 (aI cal oT)))))) ?_
 refine AX.ret ⟨.inl rfl, ?_⟩
 exact Done.one rfl rfl rfl rfl
theorem boQ_at {op : Rat → Rat → Rat} {t s : Nat → Nat} {q p : Nat → Rat} {a : List Int} (hm : ¬ misT t s) (h : inA (joT t s) a) : boQ op t s q p (enT (joT t s) (anL a)) = op (q (enT t (anL a))) (p (enT s (anL a))) := by
 unfold boQ
 have e1 : enT t (deT (joT t s) (enT (joT t s) (anL a))) = enT t (anL a) := enT_congr fun u hu h0 => de_enT (anL_in h) hu (by rw [show joT t s u = t u from if_pos h0]; exact h0)
 have e2 : enT s (deT (joT t s) (enT (joT t s) (anL a))) = enT s (anL a) := enT_congr fun u hu h0 => de_enT (anL_in h) hu (by rw [joT_2 hm hu h0]; exact h0)
 rw [e1, e2]
theorem joT_inA {t s : Nat → Nat} {a : List Int} (h1 : inA t a) (h2 : inA s a) : inA (joT t s) a := inA_iff.2 fun u hu h0 => by
 by_cases h : t u = 0
 ·have e : joT t s u = s u := if_neg fun h' => h' h
  rw [e] at h0 ⊢
  exact inA_iff.1 h2 u hu h0
 ·have e : joT t s u = t u := if_pos h
  rw [e] at h0 ⊢
  exact inA_iff.1 h1 u hu h0
set_option maxHeartbeats 8000000 in
theorem factorCells_ok (u0 w0 : List Int) (x0 : List RT) (u1 w1 : List Int) (x1 : List RT) (l : List Int) (hu0 : u0.length < 2 ^ 62) (hw0 : w0.length < 2 ^ 62) (hx0 : x0.length < 2 ^ 62) (hd0 : ∀ x ∈ x0, Dg x.2.1 ∧ Dg x.2.2 ∧ x.2.1.length < 2 ^ 62 ∧ x.2.2.length < 2 ^ 62)
  (hu1 : u1.length < 2 ^ 62) (hw1 : w1.length < 2 ^ 62) (hx1 : x1.length < 2 ^ 62) (hd1 : ∀ x ∈ x1, Dg x.2.1 ∧ Dg x.2.2 ∧ x.2.1.length < 2 ^ 62 ∧ x.2.2.length < 2 ^ 62)
  (hl : l.length < 2 ^ 62) (hlb : ∀ j, j < l.length → -9223372036854775808 ≤ l.getD j 0 ∧ l.getD j 0 ≤ 9223372036854775807) :
  PCall Try.prog 6 [fV u0 w0 x0, fV u1 w1 x1, .sl (zl l)] (.b true) [] := by
 obtain ⟨vf, wf, xf, sf, c1⟩ := ffew_ok u0 w0 x0 hu0 hw0 hx0 hd0
 obtain ⟨vg, wg, xg, sg, c2⟩ := ffew_ok u1 w1 x1 hu1 hw1 hx1 hd1
 have q1 := sf.v
 have q2 := sf.w
 have q3 := sf.l
 have q4 := sg.v
 have q5 := sg.w
 have q6 := sg.l
 have ha : (l.take 80).length < 2 ^ 62 := by rw [List.length_take]; omega
 have hab := take_bd2 (m := 80) hlb
 obtain ⟨s1, x1', y1', e, he, c3, _, _⟩ := sf.at (l.take 80) ha hab
 obtain ⟨s2, x2', y2', h, hh, c4, _, _⟩ := sg.at (l.take 80) ha hab
 rcases sf.f with hbad | ⟨t, q, ht, hs, hq, rfl, rfl, rfl⟩
 ·exact factorCells_err _ _ _ _ _ _ _ _ _ _ _ _ l hl s1 s2 x1' y1' x2' y2' e h 1 he hh (by decide) _ _ _ _ _ _ (by omega) c1 c2 c3 c4 (fMul_not1 vf wf xf vg wg xg (by omega) (by omega) (by omega) sf.okY.x hbad) (fAdd_not1 vf wf xf vg wg xg (by omega) (by omega) (by omega) sf.okY.x hbad)
 ·rcases sg.f with hbad | ⟨s, p, hs', hss, hp, rfl, rfl, rfl⟩
  ·have hf := isF_T ht q
   exact factorCells_err _ _ _ _ _ _ _ _ _ _ _ _ l hl s1 s2 x1' y1' x2' y2' e h 1 he hh (by decide) _ _ _ _ _ _ (by omega) c1 c2 c3 c4 (fMul_not2 _ _ _ (by omega) (by omega) (by omega) sf.okY.x hf vg wg xg (by omega) (by omega) (by omega) sg.okY.x hbad) (fAdd_not2 _ _ _ (by omega) (by omega) (by omega) sf.okY.x hf vg wg xg (by omega) (by omega) (by omega) sg.okY.x hbad)
  ·have cm := fMul_ok t s q p ht hs' 3 (by omega) hq hp
   have ca := fAdd_ok t s q p ht hs' 3 (by omega) hq hp
   by_cases hm : misT t s
   ·have em : ∀ r, boV t s r = .tup [fV [] [] [], .i .i64 30] := fun r => if_pos hm
    rw [em] at cm ca
    exact factorCells_err _ _ _ _ _ _ _ _ _ _ _ _ l hl s1 s2 x1' y1' x2' y2' e h 30 he hh (by decide) _ _ _ _ _ _ (by omega) c1 c2 c3 c4 cm ca
   ·by_cases hz : szT (joT t s) ≤ 4096
    ·have em : ∀ r, boV t s r = .tup [FV (joT t s) r, .i .i64 0] := fun r => (if_neg hm).trans (if_pos hz)
     rw [em] at cm ca
     by_cases hin : inA t (l.take 80) ∧ inA s (l.take 80)
     ·obtain ⟨i1, i2⟩ := hin
      have hj := joT_inA i1 i2
      have hJ : okT (joT t s) := ⟨joT_le ht.1 hs'.1, hz⟩
      have a1 := fAt_ok t q ht (fun k hk => Nat.le_trans (hq k hk) (by omega)) (l.take 80) ha hab
      have a2 := fAt_ok s p hs' (fun k hk => Nat.le_trans (hp k hk) (by omega)) (l.take 80) ha hab
      have a3 := fAt_ok (joT t s) (boQ opMul t s q p) hJ (fun k _ => boQ_len (fun a b => len_opMul) hq hp hm k) (l.take 80) ha hab
      have a4 := fAt_ok (joT t s) (boQ opAdd t s q p) hJ (fun k _ => boQ_len (fun a b => len_opAdd) hq hp hm k) (l.take 80) ha hab
      rw [show atV t q (l.take 80) = .tup [rV (q (enT t (anL (l.take 80)))), .i .i64 0] from if_pos i1] at a1
      rw [show atV s p (l.take 80) = .tup [rV (p (enT s (anL (l.take 80)))), .i .i64 0] from if_pos i2] at a2
      rw [show atV (joT t s) (boQ opMul t s q p) (l.take 80) = .tup [rV _, .i .i64 0] from if_pos hj] at a3
      rw [show atV (joT t s) (boQ opAdd t s q p) (l.take 80) = .tup [rV _, .i .i64 0] from if_pos hj] at a4
      exact factorCells_good _ _ _ _ _ _ _ _ _ _ _ _ l hl _ _ _ _ _ _ _ _ _ _ (hq _ (enT_lt (anL_in i1))) (hp _ (enT_lt (anL_in i2))) (boQ_at hm hj) (boQ_at hm hj) c1 c2 a1 a2 cm ca a3 a4
     ·by_cases i1 : inA t (l.take 80)
      ·have i2 : ¬ inA s (l.take 80) := fun h => hin ⟨i1, h⟩
       have a2 := fAt_ok s p hs' (fun k hk => Nat.le_trans (hp k hk) (by omega)) (l.take 80) ha hab
       rw [show atV s p (l.take 80) = .tup [zR, .i .i64 1] from if_neg i2] at a2
       exact factorCells_err _ _ _ _ _ _ _ _ _ _ _ _ l hl s1 false x1' y1' [] [] e 1 0 he (by decide) (by decide) _ _ _ _ _ _ (by omega) c1 c2 c3 a2 cm ca
      ·have a1 := fAt_ok t q ht (fun k hk => Nat.le_trans (hq k hk) (by omega)) (l.take 80) ha hab
       rw [show atV t q (l.take 80) = .tup [zR, .i .i64 1] from if_neg i1] at a1
       exact factorCells_err _ _ _ _ _ _ _ _ _ _ _ _ l hl false s2 [] [] x2' y2' 1 h 0 (by decide) hh (by decide) _ _ _ _ _ _ (by omega) c1 c2 a1 c4 cm ca
    ·have em : ∀ r, boV t s r = .tup [fV [] [] [], .i .i64 2] := fun r => (if_neg hm).trans (if_neg hz)
     rw [em] at cm ca
     exact factorCells_err _ _ _ _ _ _ _ _ _ _ _ _ l hl s1 s2 x1' y1' x2' y2' e h 2 he hh (by decide) _ _ _ _ _ _ (by omega) c1 c2 c3 c4 cm ca
end Go.Proofs.Ytogpimmcodaljaa
