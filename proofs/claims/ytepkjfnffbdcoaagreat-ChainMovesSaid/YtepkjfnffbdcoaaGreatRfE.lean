/- After of chains, the program's and the reference's, where something is wrong, and the reference's where nothing is. -/
import Derived.Test.YtepkjfnffbdcoaaGreatRfD
set_option linter.unusedVariables false
set_option maxRecDepth 20000
set_option linter.unusedSimpArgs false
namespace Go.Proofs.YtepkjfnffbdcoaaGreat
open Go Go.Proofs.YtepkjfnffbdcoaaGreat.Lift
attribute [local irreducible] Lift.PCall Lift.HCall

/-- What After answers where something is wrong. -/
def noneA (e : Int) : V := .tup [.sl [], .sl [], .i .i64 e]

set_option maxHeartbeats 4000000 in
theorem cafter_not (R1 C1 R2 C2 : Int) (x y sl : List V) (z : Int) (hr : PCall Tryz.prog 41 [.agg [.i .i64 R1, .i .i64 C1, .sl x, .i .i64 R2, .i .i64 C2, .sl y]] (.b false) []) :
    PCall Tryz.prog 39 [.agg [.i .i64 R1, .i .i64 C1, .sl x, .i .i64 R2, .i .i64 C2, .sl y], .sl sl, .i .i64 z] (noneA 1) [] := by
  refine PCall.of_ax Tryz.call39 Tryz.func39 rfl (by simp [Tryz.ntmps39]) fun O w => ?_
  simp only [Tryz.ntmps39, Tryz.results39, argFr]
  unfold noneA
  refine AX.sregAV [1, 2, 3] (hq := ?_)
  refine AX.seq ?_
  refine AX.block ?_
  refine AX.sregCV [1, 2, 3, 15] (aI hr oT) (hq := ?_)
  refine AX.condT (h := ?_)
  refine AX.sregAV [6, 7, 8] (hq := ?_)
  refine AX.ret (And.intro (Or.inl rfl) ?_)
  exact dnQ4
set_option maxHeartbeats 4000000 in
theorem cafter_arg (n m : Nat) (A B : Mx) (sl : List V) (z : Int) (b : Bool) (hb : b = false ∨ z < 0) (hr : PCall Tryz.prog 41 [cV n m A B] (.b true) []) (hw : PCall Tryz.prog 64 [cV n m A B, .sl sl] (.b b) []) :
    PCall Tryz.prog 39 [cV n m A B, .sl sl, .i .i64 z] (noneA 1) [] := by
  refine PCall.of_ax Tryz.call39 Tryz.func39 rfl (by simp [Tryz.ntmps39]) fun O w => ?_
  simp only [Tryz.ntmps39, Tryz.results39, argFr]
  unfold noneA
  unfold cV at *
  generalize (mcells n A (n * n)).map rV = Ac at *
  generalize (mcells m B (n * m)).map rV = Bc at *
  cases b
  · refine AX.sregAV [1, 2, 3] (hq := ?_)
    refine AX.seq ?_
    refine AX.block ?_
    refine AX.sregCV [1, 2, 3, 15] (aI hr (aI hw oT)) (hq := ?_)
    refine AX.condT (h := ?_)
    refine AX.sregAV [6, 7, 8] (hq := ?_)
    refine AX.ret (And.intro (Or.inl rfl) ?_)
    exact dnQ4
  · have hz : z < 0 := by simpa using hb
    refine AX.sregAV [1, 2, 3] (hq := ?_)
    refine AX.seq ?_
    refine AX.block ?_
    refine AX.sregCV [1, 2, 3, 15] (aI hr (aI hw oT)) (hq := ?_)
    refine AX.condT (h := ?_)
    refine AX.sregAV [6, 7, 8] (hq := ?_)
    refine AX.ret (And.intro (Or.inl rfl) ?_)
    exact dnQ4
set_option maxHeartbeats 4000000 in
theorem cafter_limit (n m : Nat) (A B : Mx) (sl : List V) (z : Int) (hz : 200 < z) (hr : PCall Tryz.prog 41 [cV n m A B] (.b true) []) (hw : PCall Tryz.prog 64 [cV n m A B, .sl sl] (.b true) []) :
    PCall Tryz.prog 39 [cV n m A B, .sl sl, .i .i64 z] (noneA 2) [] := by
  refine PCall.of_ax Tryz.call39 Tryz.func39 rfl (by simp [Tryz.ntmps39]) fun O w => ?_
  simp only [Tryz.ntmps39, Tryz.results39, argFr]
  unfold noneA
  unfold cV at *
  generalize (mcells n A (n * n)).map rV = Ac at *
  generalize (mcells m B (n * m)).map rV = Bc at *
  refine AX.sregAV [1, 2, 3] (hq := ?_)
  refine AX.seq ?_
  refine AX.block ?_
  refine AX.sregCV [1, 2, 3, 15] (aI hr (aI hw oT)) (hq := ?_)
  refine AX.condF (h := ?_)
  refine AX.sregAV [1, 2, 3, 29] (hq := ?_)
  refine AX.condT (h := ?_)
  refine AX.sregAV [6, 7, 8] (hq := ?_)
  refine AX.ret (And.intro (Or.inl rfl) ?_)
  exact dnQ4

set_option maxHeartbeats 4000000 in
theorem rafter_not (R1 C1 R2 C2 : Int) (x y sl : List V) (z : Int) (hr : PCall Tryz.prog 42 [.agg [.i .i64 R1, .i .i64 C1, .sl x, .i .i64 R2, .i .i64 C2, .sl y]] (.b false) []) :
    PCall Tryz.prog 40 [.agg [.i .i64 R1, .i .i64 C1, .sl x, .i .i64 R2, .i .i64 C2, .sl y], .sl sl, .i .i64 z] (noneA 1) [] := by
  refine PCall.of_ax Tryz.call40 Tryz.func40 rfl (by simp [Tryz.ntmps40]) fun O w => ?_
  simp only [Tryz.ntmps40, Tryz.results40, argFr]
  unfold noneA
  refine AX.sregAV [1, 2, 3] (hq := ?_)
  refine AX.seq ?_
  refine AX.block ?_
  refine AX.sregCV [1, 2, 3, 12] (aI hr oT) (hq := ?_)
  refine AX.condT (h := ?_)
  refine AX.sregAV [6, 7, 8] (hq := ?_)
  refine AX.ret (And.intro (Or.inl rfl) ?_)
  exact dnQ4
set_option maxHeartbeats 4000000 in
theorem rafter_arg (n m : Nat) (A B : Mx) (sl : List V) (z : Int) (b : Bool) (hb : b = false ∨ z < 0) (hr : PCall Tryz.prog 42 [cV n m A B] (.b true) []) (hw : PCall Tryz.prog 44 [.sl sl, .i .i64 n] (.b b) []) :
    PCall Tryz.prog 40 [cV n m A B, .sl sl, .i .i64 z] (noneA 1) [] := by
  refine PCall.of_ax Tryz.call40 Tryz.func40 rfl (by simp [Tryz.ntmps40]) fun O w => ?_
  simp only [Tryz.ntmps40, Tryz.results40, argFr]
  unfold noneA
  unfold cV at *
  generalize (mcells n A (n * n)).map rV = Ac at *
  generalize (mcells m B (n * m)).map rV = Bc at *
  cases b
  · refine AX.sregAV [1, 2, 3] (hq := ?_)
    refine AX.seq ?_
    refine AX.block ?_
    refine AX.sregCV [1, 2, 3, 12] (aI hr (aI hw oT)) (hq := ?_)
    refine AX.condT (h := ?_)
    refine AX.sregAV [6, 7, 8] (hq := ?_)
    refine AX.ret (And.intro (Or.inl rfl) ?_)
    exact dnQ4
  · have hz : z < 0 := by simpa using hb
    refine AX.sregAV [1, 2, 3] (hq := ?_)
    refine AX.seq ?_
    refine AX.block ?_
    refine AX.sregCV [1, 2, 3, 12] (aI hr (aI hw oT)) (hq := ?_)
    refine AX.condT (h := ?_)
    refine AX.sregAV [6, 7, 8] (hq := ?_)
    refine AX.ret (And.intro (Or.inl rfl) ?_)
    exact dnQ4
set_option maxHeartbeats 4000000 in
theorem rafter_limit (n m : Nat) (A B : Mx) (sl : List V) (z : Int) (hz : 200 < z) (hr : PCall Tryz.prog 42 [cV n m A B] (.b true) []) (hw : PCall Tryz.prog 44 [.sl sl, .i .i64 n] (.b true) []) :
    PCall Tryz.prog 40 [cV n m A B, .sl sl, .i .i64 z] (noneA 2) [] := by
  refine PCall.of_ax Tryz.call40 Tryz.func40 rfl (by simp [Tryz.ntmps40]) fun O w => ?_
  simp only [Tryz.ntmps40, Tryz.results40, argFr]
  unfold noneA
  unfold cV at *
  generalize (mcells n A (n * n)).map rV = Ac at *
  generalize (mcells m B (n * m)).map rV = Bc at *
  refine AX.sregAV [1, 2, 3] (hq := ?_)
  refine AX.seq ?_
  refine AX.block ?_
  refine AX.sregCV [1, 2, 3, 12] (aI hr (aI hw oT)) (hq := ?_)
  refine AX.condF (h := ?_)
  refine AX.sregAV [1, 2, 3, 28] (hq := ?_)
  refine AX.condT (h := ?_)
  refine AX.sregAV [6, 7, 8] (hq := ?_)
  refine AX.ret (And.intro (Or.inl rfl) ?_)
  exact dnQ4

theorem rweights_q (n L : Nat) (hn : n ≤ 60) (v : Nat → Rat) (hv : ∀ i, i < n → 0 ≤ v i) (hl : ∀ i, i < n → rL (v i) ≤ L) (hL : L < 2 ^ 36) : PCall Tryz.prog 44 [.sl ((vl n v).map rV), .i .i64 n] (.b true) [] := by
  have := rweights_ok n hn ((vl n v).map toRT) (by rw [List.length_map, vl_length]; omega) (okX_toRT (vl_mem fun i hi => Nat.lt_of_le_of_lt (hl i hi) hL))
  rw [isW_vl hv, map_toRT] at this
  exact this

set_option maxHeartbeats 16000000 in
theorem rafter_ok (n m L LT t : Nat) (hn : n ≤ 60) (hm : m ≤ 60) (A B : Mx) (hC : isC n m A B = true) (hA : ∀ i k, i < n → k < n → rL (A i k) ≤ L) (hB : ∀ i k, i < n → k < m → rL (B i k) ≤ L) (hL1 : 1 ≤ L) (hL3 : 120 * (L + 1) + 1 < 2 ^ 33) (v : Nat → Rat) (hv : ∀ i, i < n → 0 ≤ v i) (ht : t ≤ 200)
    (hat : ∀ j, j ≤ t → ∀ i, i < n → rL (atC n A v j i) ≤ LT) (hout : ∀ j, j ≤ t → ∀ k, k < m → rL (outC n A B v j k) ≤ LT) (hLT : L ≤ LT) (hLT2 : 60 * (2 * LT + 1) + 1 < 2 ^ 34) :
    PCall Tryz.prog 40 [cV n m A B, .sl ((vl n v).map rV), .i .i64 t] (.tup [.sl ((vl n (atC n A v t)).map rV), .sl ((vl m (outC n A B v t)).map rV), .i .i64 0]) [] := by
  have cr := r20right_ok n m L hn hm A B hA hB hL1 hL3
  rw [hC] at cr
  have hvL : ∀ i, i < n → rL (v i) ≤ LT := fun i hi => hat 0 (Nat.zero_le _) i hi
  have cwt := rweights_q n LT hn v hv hvL (by omega)
  have cz := rzeros_ok m hm
  have ct1 := fun (j : Nat) (hj : j ≤ t) => rby_ok n m LT hn hm (atC n A v j) B (hat j hj) (fun i k hi hk => Nat.le_trans (hB i k hi hk) hLT) (by omega) hLT2
  have ct2 := fun (j : Nat) (hj : j ≤ t) => rby_ok n n LT hn hn (atC n A v j) A (hat j hj) (fun i k hi hk => Nat.le_trans (hA i k hi hk) hLT) (by omega) hLT2
  have cpl := fun (j : Nat) (hj : j ≤ t) => rplus_ok m (60 * (2 * LT + 1) + 1) hm (outC n A B v j) (thr n (atC n A v j) B) (fun k hk => Nat.le_trans (hout j hj k hk) (by omega)) (fun k hk => by
    have h1 := thr_len (B := B) (k := k) (by omega) (hat j hj) (fun i hi => Nat.le_trans (hB i k hi hk) hLT) n (Nat.le_refl _)
    have h2 : n * (2 * LT + 1) ≤ 60 * (2 * LT + 1) := Nat.mul_le_mul_right _ hn
    omega) (by omega) hLT2
  refine PCall.of_ax Tryz.call40 Tryz.func40 rfl (by simp [Tryz.ntmps40]) fun O w0 => ?_
  simp only [Tryz.ntmps40, Tryz.results40, argFr]
  have hvl : ((vl n v).map rV).length = n := by rw [List.length_map, vl_length]
  have hf1 : flatCells ((vl n v).map rV) = qrow (vl n v) := flatCells_q _
  have hf2 : (qrow (vl n v)).length = n * 3 := vl_len3 n v
  have hf3 := flat_q (vl n v)
  have hf4 : (((vl n v).map rV).getD 0 .junk).cells.length = 3 ∨ (vl n v).map rV = [] := by
    by_cases h : n = 0
    · subst h
      exact .inr rfl
    · left
      rw [getD_rV (by rw [vl_length]; omega)]
      rfl
  have hats : ∀ j, atC n A v (j + 1) = thr n (atC n A v j) A := fun _ => rfl
  have houts : ∀ j, outC n A B v (j + 1) = fun k => outC n A B v j k + thr n (atC n A v j) B k := fun _ => rfl
  unfold cV at *
  generalize (mcells n A (n * n)).map rV = Ac at *
  generalize (mcells m B (n * m)).map rV = Bc at *
  generalize hvs : (vl n v).map rV = vs at *
  generalize hzs : (vl m fun _ => 0).map rV = zs at *
  refine AX.sregAV [1, 2, 3] (hq := ?_)
  refine AX.seq ?_
  refine AX.block ?_
  refine AX.sregCV [1, 2, 3, 12] (aI cr (aI cwt oT)) (hq := ?_)
  refine AX.condF (h := ?_)
  refine AX.sregAV [1, 2, 3, 28] (hq := ?_)
  refine AX.condF (h := ?_)
  refine AX.keepA [1, 2, 3] (h := ?_)
  refine AX.skip ?_
  try simp only [zn1,zn2,zn3,zn4,zn5,zn6,zn7,zn8,if_true]
  refine AX.sdregWV [2, 3, 9, 10] (aI @hvl (aI @hf1 (aI @hf2 (aI @hf3 (aI @hf4 oT))))) (aI cz oT) (hq := ?_)
  refine AX.weaken id (st' := ⟨[(2, .i .i64 t), (3, .ptr 0 0), (9, .own 2 0 n 3), (10, .sl zs)], [(0, ⟨36, [.i .i64 n, .i .i64 n, .sl Ac, .i .i64 n, .i .i64 m, .sl Bc]⟩), (2, ⟨41, qrow (vl n v)⟩)], 3⟩)
    leQ4
    ?_
  rw [← hzs]
  refine AX.fz 2 (fr' := [(2, .i .i64 t), (3, .ptr 0 0), (9, .sl ((vl n (atC n A v 0)).map rV)), (10, .sl ((vl m (outC n A B v 0)).map rV))]) (hp' := [(0, ⟨36, [.i .i64 n, .i .i64 n, .sl Ac, .i .i64 n, .i .i64 m, .sl Bc]⟩)]) rfl (hf_q _) (.cons rfl .same (.cons rfl .same (.cons rfl (.own (by have := okFrz_q (vl n v); rw [vl_length] at this; exact this) (by have h1 := take_q (vl n v); have h2 := chunks_q (vl n v); rw [vl_length] at h1 h2; rw [h1, h2]; rfl)) (.cons rfl .same .nil)))) (.keep (by decide) rfl .nil) ?_
  refine AX.seq ?_
  refine AX.sregAV [2, 3, 9, 10, 11] (hq := ?_)
  refine AX.weaken id (st' := ⟨[(11, .i .i64 (0 : Nat)), (10, .sl ((vl m (outC n A B v 0)).map rV)), (9, .sl ((vl n (atC n A v 0)).map rV)), (3, .ptr 0 0), (2, .i .i64 t)], [(0, ⟨36, [.i .i64 n, .i .i64 n, .sl Ac, .i .i64 n, .i .i64 m, .sl Bc]⟩)], 3⟩)
    leQ4
    ?_
  refine AX.block ?_
  refine AX.loop (fun N st => ∃ (j : Nat) (xs ys : List Rat), j ≤ t ∧ N = t - j ∧ xs = vl n (atC n A v j) ∧ ys = vl m (outC n A B v j) ∧ st = ⟨[(11, .i .i64 j), (10, .sl (ys.map rV)), (9, .sl (xs.map rV)), (3, .ptr 0 0), (2, .i .i64 t)], [(0, ⟨36, [.i .i64 n, .i .i64 n, .sl Ac, .i .i64 n, .i .i64 m, .sl Bc]⟩)], 3⟩) t ⟨0, _, _, Nat.zero_le _, rfl, rfl, rfl, rfl⟩ ?_
  rintro N st ⟨j, xs, ys, hj, rfl, hxs, hys, rfl⟩
  by_cases h1 : j < t
  · have c1 := ct1 j hj
    have c2 := ct2 j hj
    have c3 := cpl j hj
    rw [← hxs] at c1 c2
    rw [← hys, ← houts j] at c3
    rw [← hats j] at c2
    obtain ⟨us, hus⟩ : ∃ us, vl n (atC n A v (j + 1)) = us := ⟨_, rfl⟩
    obtain ⟨ws, hws⟩ : ∃ ws, vl m (outC n A B v (j + 1)) = ws := ⟨_, rfl⟩
    rw [hus] at c2
    rw [hws] at c3
    generalize (vl m (thr n (atC n A v j) B)).map rV = Tc at *
    generalize hYc : ys.map rV = Yc at *
    generalize hXc : xs.map rV = Xc at *
    refine AX.seq ?_
    refine AX.sregAV [2, 3, 9, 10, 11, 40] (hq := ?_)
    refine AX.condT (h := ?_)
    refine AX.keepA [2, 3, 9, 10, 11] (h := ?_)
    refine AX.skip ?_
    try simp only [zn1,zn2,zn3,zn4,zn5,zn6,zn7,zn8,if_true]
    refine AX.seq ?_
    refine AX.block ?_
    refine AX.sregCV [2, 3, 9, 10, 11] (aI c1 (aI c3 oT)) (hq := ?_)
    refine AX.regCV [2, 3, 9, 10, 11] (aI c2 oT) (hq := ?_)
    try simp only [zn1,zn2,zn3,zn4,zn5,zn6,zn7,zn8,if_true]
    refine AX.regWV [2, 3, 9, 10, 11] (aI @lit_add oT) oT (hq := ?_)
    try simp only [zn1,zn2,zn3,zn4,zn5,zn6,zn7,zn8,if_true]
    refine ⟨_, _, id, ?_,
      leQ4
      , ⟨j + 1, us, ws, by omega, rfl, hus.symm, hws.symm, rfl⟩⟩
    omega
  · have e : j = t := by omega
    subst e
    rw [← hxs, ← hys]
    generalize ys.map rV = Yc at *
    generalize xs.map rV = Xc at *
    refine AX.seq ?_
    refine AX.sregAV [2, 3, 9, 10, 11, 40] (hq := ?_)
    refine AX.condF (h := ?_)
    refine AX.exit ?_
    try simp only [zn1,zn2,zn3,zn4,zn5,zn6,zn7,zn8,if_true]
    refine AX.sregAV [6, 7, 8] (hq := ?_)
    refine AX.ret (And.intro (Or.inl rfl) ?_)
    exact dnQ4

end Go.Proofs.YtepkjfnffbdcoaaGreat
