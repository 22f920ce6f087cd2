/- The reference's chains: zeros, plus, by, Weights. -/
import Derived.Test.YtepkjfnffbdcoaaGreatRfA
set_option linter.unusedVariables false
set_option maxRecDepth 20000
set_option linter.unusedSimpArgs false
namespace Go.Proofs.YtepkjfnffbdcoaaGreat
open Go Go.Proofs.YtepkjfnffbdcoaaGreat.Lift
attribute [local irreducible] Lift.PCall Lift.HCall

set_option maxHeartbeats 4000000 in
theorem rzeros_ok (n : Nat) (hn : n ≤ 60) : PCall Tryz.prog 88 [.i .i64 n] (.sl ((vl n fun _ => 0).map rV)) [] := by
  have cz : PCall Tryz.prog 47 [] (.agg [.b (decide ((0 : Rat).num < 0)), dg (digits (0 : Rat).num.natAbs), dg (digits (0 : Rat).den)]) [] := pzero_ok
  refine PCall.of_ax Tryz.call88 Tryz.func88 rfl (by simp [Tryz.ntmps88]) fun O w => ?_
  simp only [Tryz.ntmps88, Tryz.results88, argFr]
  refine AX.sregAV [0] (hq := ?_)
  refine AX.sregAV [0, 3] (hq := ?_)
  refine AX.own0 3 41 3 rfl ?_
  refine AX.seq ?_
  refine AX.sregAV [0, 3, 4] (hq := ?_)
  refine AX.weaken id (st' := ⟨[(4, .i .i64 (0 : Nat)), (3, .own 0 0 0 3), (0, .i .i64 n)], [(0, ⟨41, qrow []⟩)], 1⟩)
    leQ4
    ?_
  refine AX.block ?_
  refine AX.loop (fun N st => ∃ (j : Nat) (xs : List Rat), j ≤ n ∧ N = n - j ∧ xs = vl j (fun _ => 0) ∧ st = ⟨[(4, .i .i64 j), (3, .own 0 0 j 3), (0, .i .i64 n)], [(0, ⟨41, qrow xs⟩)], 1⟩) n ⟨0, [], Nat.zero_le _, rfl, rfl, rfl⟩ ?_
  rintro N st ⟨j, xs, hj, rfl, hxs, rfl⟩
  by_cases h1 : j < n
  · have hlen : (qrow xs).length = j * 3 := by rw [qrow_length, hxs, vl_length]
    have hrow : qrow xs ++ [.b (decide ((0 : Rat).num < 0)), dg (digits (0 : Rat).num.natAbs), dg (digits (0 : Rat).den)] = qrow (vl (j + 1) fun _ => 0) := by
      rw [vl_succ, qrow_app, hxs]
      rfl
    obtain ⟨ys, hys⟩ : ∃ ys, (vl (j + 1) fun _ => (0 : Rat)) = ys := ⟨_, rfl⟩
    rw [hys] at hrow
    refine AX.seq ?_
    refine AX.sregAV [0, 3, 4, 7] (hq := ?_)
    refine AX.condT (h := ?_)
    refine AX.keepA [0, 3, 4] (h := ?_)
    refine AX.skip ?_
    try simp only [zn1,zn2,zn3,zn4,zn5,zn6,zn7,zn8,if_true]
    refine AX.seq ?_
    refine AX.block ?_
    refine AX.regWV [0, 3, 4] (aI @hlen (aI @zerosV_1 (aI @tkS (aI @tk0 oT)))) (aI cz oT) (hq := ?_)
    try simp only [zn1,zn2,zn3,zn4,zn5,zn6,zn7,zn8,if_true]
    rw [hrow]
    refine AX.regWV [0, 3, 4] (aI @lit_add oT) oT (hq := ?_)
    try simp only [zn1,zn2,zn3,zn4,zn5,zn6,zn7,zn8,if_true]
    refine ⟨_, _, fun n => if n = 0 then 2 else n, ?_,
      leQ4
      , ⟨j + 1, ys, by omega, rfl, hys.symm, rfl⟩⟩
    omega
  · have e : j = n := by omega
    subst e
    refine AX.seq ?_
    refine AX.sregAV [0, 3, 4, 7] (hq := ?_)
    refine AX.condF (h := ?_)
    refine AX.exit ?_
    try simp only [zn1,zn2,zn3,zn4,zn5,zn6,zn7,zn8,if_true]
    refine AX.sregAV [2] (hq := ?_)
    refine AX.ret (And.intro (Or.inl rfl) ?_)
    rw [← hxs]
    exact Done.slQ rfl rfl (by rw [hxs, vl_length])

set_option maxHeartbeats 4000000 in
theorem rplus_ok (n L : Nat) (hn : n ≤ 60) (a b : Nat → Rat) (ha : ∀ i, i < n → rL (a i) ≤ L) (hb : ∀ i, i < n → rL (b i) ≤ L) (hL1 : 1 ≤ L) (hL : L < 2 ^ 34) : PCall Tryz.prog 89 [.sl ((vl n a).map rV), .sl ((vl n b).map rV)] (.sl ((vl n fun i => a i + b i).map rV)) [] := by
  have cadd : ∀ i, i < n → PCall Tryz.prog 33 [.agg [.b (decide ((a i).num < 0)), dg (digits (a i).num.natAbs), dg (digits (a i).den)], .agg [.b (decide ((b i).num < 0)), dg (digits (b i).num.natAbs), dg (digits (b i).den)]] (.agg [.b (decide ((a i + b i).num < 0)), dg (digits (a i + b i).num.natAbs), dg (digits (a i + b i).den)]) [] := fun i hi => padd_ok (IsQ.of (ha i hi)) (IsQ.of (hb i hi)) hL1 hL
  refine PCall.of_ax Tryz.call89 Tryz.func89 rfl (by simp [Tryz.ntmps89]) fun O w => ?_
  simp only [Tryz.ntmps89, Tryz.results89, argFr]
  have hal : ((vl n a).map rV).length = n := by rw [List.length_map, vl_length]
  have ixa := fun (j : Nat) (hj : j < n) => fun x y => effIxL (x := x) (y := y) a hj
  have ixb := fun (j : Nat) (hj : j < n) => fun x y => effIxL (x := x) (y := y) b hj
  clear ha hb
  generalize (vl n a).map rV = asl at *
  generalize (vl n b).map rV = bsl at *
  refine AX.sregAV [0, 1] (hq := ?_)
  refine AX.sregAV [0, 1, 5] (hq := ?_)
  refine AX.own0 5 41 3 rfl ?_
  refine AX.seq ?_
  refine AX.sregWV [0, 1, 5, 8, 9] (aI @hal oT) oT (hq := ?_)
  refine AX.weaken id (st' := ⟨[(9, .i .i64 (0 : Nat)), (8, .i .i64 n), (5, .own 0 0 0 3), (1, .sl bsl), (0, .sl asl)], [(0, ⟨41, qrow []⟩)], 1⟩)
    leQ4
    ?_
  refine AX.block ?_
  refine AX.loop (fun N st => ∃ (j : Nat) (xs : List Rat), j ≤ n ∧ N = n - j ∧ xs = vl j (fun i => a i + b i) ∧ st = ⟨[(9, .i .i64 j), (8, .i .i64 n), (5, .own 0 0 j 3), (1, .sl bsl), (0, .sl asl)], [(0, ⟨41, qrow xs⟩)], 1⟩) n ⟨0, [], Nat.zero_le _, rfl, rfl, rfl⟩ ?_
  rintro N st ⟨j, xs, hj, rfl, hxs, rfl⟩
  by_cases h1 : j < n
  · have hlen : (qrow xs).length = j * 3 := by rw [qrow_length, hxs, vl_length]
    have hrow : qrow xs ++ [.b (decide ((a j + b j).num < 0)), dg (digits (a j + b j).num.natAbs), dg (digits (a j + b j).den)] = qrow (vl (j + 1) fun i => a i + b i) := by
      rw [vl_succ, qrow_app, hxs]
      rfl
    obtain ⟨ys, hys⟩ : ∃ ys, (vl (j + 1) fun i => a i + b i) = ys := ⟨_, rfl⟩
    rw [hys] at hrow
    have ca := cadd j h1
    have ix1 := ixa j h1
    have ix2 := ixb j h1
    generalize a j + b j = s at *
    generalize a j = p at *
    generalize b j = q at *
    refine AX.sregAV [0, 1, 5, 8, 9, 10] (hq := ?_)
    refine AX.seq ?_
    refine AX.condT (h := ?_)
    refine AX.keepA [0, 1, 5, 8, 9] (h := ?_)
    refine AX.skip ?_
    try simp only [zn1,zn2,zn3,zn4,zn5,zn6,zn7,zn8,if_true]
    refine AX.seq ?_
    refine AX.block ?_
    refine AX.sregAV [0, 1, 5, 6, 8, 9] (hq := ?_)
    refine AX.dregEV [0, 1, 5, 8, 9] (aI @hlen (aI @zerosV_1 (aI @tkS (aI @tk0 oT)))) (aI ca oT) (aI ix1 (aI ix2 oT)) (hq := ?_)
    try simp only [zn1,zn2,zn3,zn4,zn5,zn6,zn7,zn8,if_true]
    rw [hrow]
    refine AX.regWV [0, 1, 5, 8, 9] (aI @lit_add oT) oT (hq := ?_)
    try simp only [zn1,zn2,zn3,zn4,zn5,zn6,zn7,zn8,if_true]
    refine ⟨_, _, fun n => if n = 0 then 2 else n, ?_,
      leQ4
      , ⟨j + 1, ys, by omega, rfl, hys.symm, rfl⟩⟩
    omega
  · have e : j = n := by omega
    subst e
    refine AX.sregAV [0, 1, 5, 8, 9, 10] (hq := ?_)
    refine AX.seq ?_
    refine AX.condF (h := ?_)
    refine AX.exit ?_
    try simp only [zn1,zn2,zn3,zn4,zn5,zn6,zn7,zn8,if_true]
    refine AX.sregAV [4] (hq := ?_)
    refine AX.ret (And.intro (Or.inl rfl) ?_)
    rw [← hxs]
    exact Done.slQ rfl rfl (by rw [hxs, vl_length])

theorem mcells_one (n : Nat) (v : Nat → Rat) : mcells n (fun _ k => v k) (1 * n) = vl n v := by
  unfold mcells vl
  rw [Nat.one_mul]
  refine List.map_congr_left fun j hj => ?_
  have hj : j < n := by simpa using hj
  show v (j % n) = v j
  rw [Nat.mod_eq_of_lt hj]
set_option maxHeartbeats 4000000 in
theorem rby_ok (n m L : Nat) (hn : n ≤ 60) (hm : m ≤ 60) (v : Nat → Rat) (B : Mx) (hv : ∀ i, i < n → rL (v i) ≤ L) (hB : ∀ i k, i < n → k < m → rL (B i k) ≤ L) (hL1 : 1 ≤ L) (hL : 60 * (2 * L + 1) + 1 < 2 ^ 34) :
    PCall Tryz.prog 68 [.sl ((vl n v).map rV), .agg [.i .i64 n, .i .i64 m, .sl ((mcells m B (n * m)).map rV)]] (.sl ((vl m (thr n v B)).map rV)) [] := by
  have hvl : ((vl n v).map rV).length = n := by rw [List.length_map, vl_length]
  have crow : PCall Tryz.prog 113 [.sl ((vl n v).map rV)] (.agg [.i .i64 1, .i .i64 n, .sl ((vl n v).map rV)]) [] := by
    refine PCall.of_ax Tryz.call113 Tryz.func113 rfl (by simp [Tryz.ntmps113]) fun O w => ?_
    simp only [Tryz.ntmps113, Tryz.results113, argFr]
    generalize (vl n v).map rV = vs at *
    refine AX.sregAV [0, 2] (hq := ?_)
    refine AX.sregWV [2] (aI @hvl oT) oT (hq := ?_)
    refine AX.ret (And.intro (Or.inl rfl) ?_)
    exact dnQ4
  have cm := wmul_ok 1 n m L (by decide) hn hm (fun _ k => v k) B (fun _ j _ hj => hv j hj) hB hL1 hL
  unfold qM mV at cm
  have e1 : mcells m (mulM n (fun _ k => v k) B) (1 * m) = vl m (thr n v B) := by
    rw [← mcells_one]
    rfl
  rw [mcells_one, e1] at cm
  have cm : PCall Tryz.prog 36 [.agg [.i .i64 1, .i .i64 n, .sl ((vl n v).map rV)], .agg [.i .i64 n, .i .i64 m, .sl ((mcells m B (n * m)).map rV)]] (.tup [.agg [.i .i64 1, .i .i64 m, .sl ((vl m (thr n v B)).map rV)], .i .i64 0]) [] := cm
  refine PCall.of_ax Tryz.call68 Tryz.func68 rfl (by simp [Tryz.ntmps68]) fun O w => ?_
  simp only [Tryz.ntmps68, Tryz.results68, argFr]
  generalize (vl m (thr n v B)).map rV = ws at *
  generalize (vl n v).map rV = vs at *
  generalize (mcells m B (n * m)).map rV = Bc at *
  refine AX.sregAV [0, 3] (hq := ?_)
  refine AX.sdregCV [5] (aI crow (aI cm oT)) (hq := ?_)
  refine AX.sregAV [4] (hq := ?_)
  refine AX.ret (And.intro (Or.inl rfl) ?_)
  exact Done.one rfl rfl rfl rfl

end Go.Proofs.YtepkjfnffbdcoaaGreat
