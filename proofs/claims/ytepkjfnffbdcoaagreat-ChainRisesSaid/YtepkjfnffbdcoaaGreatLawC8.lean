/- Statements about chains: ChainRises. -/
import Derived.Test.YtepkjfnffbdcoaaGreatHN
set_option linter.unusedVariables false
set_option maxRecDepth 20000
set_option linter.unusedSimpArgs false
namespace Go.Proofs.YtepkjfnffbdcoaaGreat
open Go Go.Proofs.YtepkjfnffbdcoaaGreat.Lift
attribute [local irreducible] Lift.PCall Lift.HCall
/-- What the law says, of weights. -/
theorem rises_facts {n m : Nat} {A B : Mx} {v : Nat → Rat} (h : Small n m A B v) (t : Nat) :
    (∀ j, j < m → outC n A B v t j ≤ outC n A B v (t + 1) j ∧ outC n A B v (t + 1) j ≤ thr n v (eachM n m A B) j) ∧ sumN n (atC n A v (t + 1)) ≤ sumN n (atC n A v t) ∧
    neverQ n m A B v ≤ sumN n (atC n A v (t + 1)) ∧ sumN n (atC n A v (t + 1)) + sumN m (outC n A B v (t + 1)) = sumN n v := by
  have hOk := isC_ok h.hC
  have hX := h.is
  have hX0 := hX.nonneg hOk
  have h0 : ∀ s i, i < n → 0 ≤ atC n A v s i := fun s i hi => by
    have h3 := Chn.at_nonneg hOk h.hv s i hi
    rwa [(at_atC n m A B v s).1] at h3
  have tot : ∀ s, sumN n (atC n A v s) + sumN m (outC n A B v s) = sumN n v := fun s => by
    have htot := Chn.total hOk v s
    rw [(at_atC n m A B v s).1, (at_atC n m A B v s).2] at htot
    exact htot
  have up : ∀ j, j < m → outC n A B v t j ≤ outC n A B v (t + 1) j := fun j hj => by
    have h2 : 0 ≤ thr n (atC n A v t) B j := sumN_nonneg fun i hi => Rat.mul_nonneg (h0 t i hi) (hOk.E0 i j hi hj)
    show outC n A B v t j ≤ outC n A B v t j + thr n (atC n A v t) B j
    grind
  have le : ∀ j, j < m → outC n A B v (t + 1) j ≤ thr n v (eachM n m A B) j := fun j hj => by
    have h1 := Chn.ends_split hOk hX v (t + 1) j hj
    rw [(at_atC n m A B v (t + 1)).1, (at_atC n m A B v (t + 1)).2] at h1
    have h2 : 0 ≤ (chn n m A B).ends (eachM n m A B) (atC n A v (t + 1)) j := sumN_nonneg fun i hi => Rat.mul_nonneg (h0 (t + 1) i hi) (hX0 i j hi hj)
    have h3 : (chn n m A B).ends (eachM n m A B) v j = thr n v (eachM n m A B) j := rfl
    rw [← h3]
    grind
  have s1 := sumN_le up
  have s2 := sumN_le le
  have t1 := tot t
  have t2 := tot (t + 1)
  refine ⟨fun j hj => ⟨up j hj, le j hj⟩, by grind, ?_, t2⟩
  unfold neverQ
  grind
set_option maxHeartbeats 4000000 in
theorem rises_err (c c' : V) (S S' : List V) (z : Int) (R1 C1 R2 C2 : Int) (x y : List V) (hc : c = .agg [.i .i64 R1, .i .i64 C1, .sl x, .i .i64 R2, .i .i64 C2, .sl y]) (R1' C1' R2' C2' : Int) (x' y' : List V) (hc' : c' = .agg [.i .i64 R1', .i .i64 C1', .sl x', .i .i64 R2', .i .i64 C2', .sl y'])
    (cf : PCall Tryz.prog 14 [c, .sl S] (.tup [c', .sl S']) []) (hz : -9223372036854775808 ≤ z ∧ z ≤ 9223372036854775807) (ce : PCall Tryz.prog 18 [c', .sl S'] (.tup [.sl [], zR, .i .i64 1]) []) : PCall Tryz.prog 8 [c, .sl S, .i .i64 z] (.b true) [] := by
  subst hc hc'
  have cal := lalive_ok
  obtain ⟨r, hr⟩ : ∃ r, Int.tmod z 12 = r := ⟨_, rfl⟩
  have hrb : -12 < r ∧ r < 12 := by
    rw [← hr]
    exact ⟨Int.lt_tmod_of_pos z (by decide), Int.tmod_lt_of_pos z (by decide)⟩
  refine PCall.of_ax Tryz.call8 Tryz.func8 rfl (by simp [Tryz.ntmps8]) fun O w0 => ?_
  simp only [Tryz.ntmps8, Tryz.results8, argFr]
  refine AX.sregAV [1, 2, 3] (hq := ?_)
  refine AX.sregCV [1, 2, 3] (aI cf oT) (hq := ?_)
  refine AX.sregWV [1, 2, 3] (aI @hr oT) oT (hq := ?_)
  refine AX.sregCV [1, 2, 3, 7, 8, 9] (aI ce oT) (hq := ?_)
  refine AX.seq ?_
  refine AX.sregAV [1, 2, 3, 7, 8, 35] (hq := ?_)
  refine AX.condT (h := ?_)
  refine AX.sregCV [6] (aI cal oT) (hq := ?_)
  refine AX.ret (And.intro (Or.inl rfl) ?_)
  exact Done.one rfl rfl rfl rfl
set_option maxHeartbeats 16000000 in
theorem rises_ok (c : V) (S : List V) (z : Int) (R1 C1 R2 C2 : Int) (x y : List V) (hc : c = .agg [.i .i64 R1, .i .i64 C1, .sl x, .i .i64 R2, .i .i64 C2, .sl y]) (n m : Nat) (A B : Mx) (v : Nat → Rat) (h : Small n m A B v)
    (cf : PCall Tryz.prog 14 [c, .sl S] (.tup [cV n m A B, .sl ((vl n v).map rV)]) []) (hz : -9223372036854775808 ≤ z ∧ z ≤ 9223372036854775807) : PCall Tryz.prog 8 [c, .sl S, .i .i64 z] (.b true) [] := by
  subst hc
  have cal := lalive_ok
  obtain ⟨r, hr⟩ : ∃ r, Int.tmod z 12 = r := ⟨_, rfl⟩
  have hrb : -12 < r ∧ r < 12 := by
    rw [← hr]
    exact ⟨Int.lt_tmod_of_pos z (by decide), Int.tmod_lt_of_pos z (by decide)⟩
  obtain ⟨t, ht, htb⟩ : ∃ t : Nat, Int.tmod (r + 12) 12 = (t : Int) ∧ t < 12 := by
    have h1 := Int.tmod_nonneg (a := r + 12) 12 (by omega)
    have h2 := Int.tmod_lt_of_pos (r + 12) (b := 12) (by decide)
    exact ⟨(Int.tmod (r + 12) 12).toNat, by omega, by omega⟩
  obtain ⟨f1, f2, f3, f4⟩ := rises_facts h t
  have ml1 := move_len h.hC h.hn h.hm h.hA h.hB h.hv h.hvL (t := t) (by omega)
  have ml2 := move_len h.hC h.hn h.hm h.hA h.hB h.hv h.hvL (t := t + 1) (by omega)
  have ce := h.ends
  have ca := h.after (t := t) (by omega)
  have cb := h.after (t := t + 1) (by omega)
  have hN : n * (60000 + 1) ≤ 8 * (60000 + 1) := Nat.mul_le_mul_right _ h.hn
  have hM : m * (60000 + 1) ≤ 5 * (60000 + 1) := Nat.mul_le_mul_right _ h.hm
  have hN3 : n * (3 + 1) ≤ 8 * (3 + 1) := Nat.mul_le_mul_right _ h.hn
  have csx := pvsum ml2.1 (by decide) (by omega)
  have csy := pvsum ml2.2 (by decide) (by omega)
  have csa := pvsum ml1.1 (by decide) (by omega)
  have csv := pvsum h.hvL (by decide) (by omega)
  have lx := sumN_len ml2.1 n (Nat.le_refl _)
  have ly := sumN_len ml2.2 m (Nat.le_refl _)
  have la := sumN_len ml1.1 n (Nat.le_refl _)
  have lv := sumN_len h.hvL n (Nat.le_refl _)
  have k1 : PCall Tryz.prog 38 [.agg [.b (decide ((sumN n (atC n A v (t + 1))).num < 0)), dg (digits (sumN n (atC n A v (t + 1))).num.natAbs), dg (digits (sumN n (atC n A v (t + 1))).den)], .agg [.b (decide ((sumN n (atC n A v t)).num < 0)), dg (digits (sumN n (atC n A v t)).num.natAbs), dg (digits (sumN n (atC n A v t)).den)]] (.i .i64 (cmpR (sumN n (atC n A v (t + 1))) (sumN n (atC n A v t)))) [] := pcmp_ok (L := 11000000) (IsQ.of (by omega)) (IsQ.of (by omega)) (by decide) (by decide)
  have k2 : PCall Tryz.prog 38 [.agg [.b (decide ((sumN n (atC n A v (t + 1))).num < 0)), dg (digits (sumN n (atC n A v (t + 1))).num.natAbs), dg (digits (sumN n (atC n A v (t + 1))).den)], .agg [.b (decide ((neverQ n m A B v).num < 0)), dg (digits (neverQ n m A B v).num.natAbs), dg (digits (neverQ n m A B v).den)]] (.i .i64 (cmpR (sumN n (atC n A v (t + 1))) (neverQ n m A B v))) [] := pcmp_ok (L := 11000000) (IsQ.of (by omega)) (IsQ.of h.neverL) (by decide) (by decide)
  have k3 : PCall Tryz.prog 33 [.agg [.b (decide ((sumN n (atC n A v (t + 1))).num < 0)), dg (digits (sumN n (atC n A v (t + 1))).num.natAbs), dg (digits (sumN n (atC n A v (t + 1))).den)], .agg [.b (decide ((sumN m (outC n A B v (t + 1))).num < 0)), dg (digits (sumN m (outC n A B v (t + 1))).num.natAbs), dg (digits (sumN m (outC n A B v (t + 1))).den)]] (.agg [.b (decide ((sumN n v).num < 0)), dg (digits (sumN n v).num.natAbs), dg (digits (sumN n v).den)]) [] := by
    have := padd_ok (L := 11000000) (IsQ.of (q := sumN n (atC n A v (t + 1))) (by omega)) (IsQ.of (q := sumN m (outC n A B v (t + 1))) (by omega)) (by decide) (by decide)
    rw [f4] at this
    exact this
  have k4 : PCall Tryz.prog 22 [.agg [.b (decide ((sumN n v).num < 0)), dg (digits (sumN n v).num.natAbs), dg (digits (sumN n v).den)], .agg [.b (decide ((sumN n v).num < 0)), dg (digits (sumN n v).num.natAbs), dg (digits (sumN n v).den)]] (.b true) [] := by
    have := psame_ok (L := 11000000) (IsQ.of (q := sumN n v) (by omega)) (IsQ.of (q := sumN n v) (by omega)) (by decide) (by decide)
    rw [decide_eq_true rfl] at this
    exact this
  have g1 : ¬ 0 < cmpR (sumN n (atC n A v (t + 1))) (sumN n (atC n A v t)) := cmpR_not_gt f2
  have g2 : ¬ cmpR (sumN n (atC n A v (t + 1))) (neverQ n m A B v) < 0 := cmpR_ge f3
  have q1 : ∀ j, j < m → PCall Tryz.prog 38 [.agg [.b (decide ((outC n A B v t j).num < 0)), dg (digits (outC n A B v t j).num.natAbs), dg (digits (outC n A B v t j).den)], .agg [.b (decide ((outC n A B v (t + 1) j).num < 0)), dg (digits (outC n A B v (t + 1) j).num.natAbs), dg (digits (outC n A B v (t + 1) j).den)]] (.i .i64 (cmpR (outC n A B v t j) (outC n A B v (t + 1) j))) [] := fun j hj => pcmp_ok (L := 60000) (IsQ.of (ml1.2 j hj)) (IsQ.of (ml2.2 j hj)) (by decide) (by decide)
  have q2 : ∀ j, j < m → PCall Tryz.prog 38 [.agg [.b (decide ((outC n A B v (t + 1) j).num < 0)), dg (digits (outC n A B v (t + 1) j).num.natAbs), dg (digits (outC n A B v (t + 1) j).den)], .agg [.b (decide ((thr n v (eachM n m A B) j).num < 0)), dg (digits (thr n v (eachM n m A B) j).num.natAbs), dg (digits (thr n v (eachM n m A B) j).den)]] (.i .i64 (cmpR (outC n A B v (t + 1) j) (thr n v (eachM n m A B) j))) [] := fun j hj => pcmp_ok (L := 2000000) (IsQ.of (Nat.le_trans (ml2.2 j hj) (by decide))) (IsQ.of (h.endL j hj)) (by decide) (by decide)
  have g3 : ∀ j, j < m → ¬ 0 < cmpR (outC n A B v t j) (outC n A B v (t + 1) j) := fun j hj => cmpR_not_gt (f1 j hj).1
  have g4 : ∀ j, j < m → ¬ 0 < cmpR (outC n A B v (t + 1) j) (thr n v (eachM n m A B) j) := fun j hj => cmpR_not_gt (f1 j hj).2
  have i1 := fun (j : Nat) (hj : j < m) => fun x y => effIxL (x := x) (y := y) (outC n A B v t) hj
  have i2 := fun (j : Nat) (hj : j < m) => fun x y => effIxL (x := x) (y := y) (outC n A B v (t + 1)) hj
  have i3 := fun (j : Nat) (hj : j < m) => fun x y => effIxL (x := x) (y := y) (thr n v (eachM n m A B)) hj
  have m1 : ((vl m (outC n A B v t)).map rV).length = m := vl_mlen ..
  have m2 : ((vl m (outC n A B v (t + 1))).map rV).length = m := vl_mlen ..
  have m3 : ((vl m (thr n v (eachM n m A B))).map rV).length = m := vl_mlen ..
  have hm5 := h.hm
  have et : (t : Int) + 1 = ((t + 1 : Nat) : Int) := by omega
  clear f1 f2 f3 f4 ml1 ml2 lx ly la lv hN hM hN3 h
  unfold cV at *
  generalize (mcells n A (n * n)).map rV = Ac at *
  generalize (mcells m B (n * m)).map rV = Bc at *
  generalize cmpR (sumN n (atC n A v (t + 1))) (sumN n (atC n A v t)) = d1 at *
  generalize cmpR (sumN n (atC n A v (t + 1))) (neverQ n m A B v) = d2 at *
  generalize sumN n (atC n A v (t + 1)) = sx at *
  generalize sumN n (atC n A v t) = sa at *
  generalize sumN m (outC n A B v (t + 1)) = sy at *
  generalize sumN n v = sv at *
  generalize neverQ n m A B v = nq at *
  generalize outC n A B v t = oa at *
  generalize outC n A B v (t + 1) = ob at *
  generalize thr n v (eachM n m A B) = oe at *
  generalize (vl m oa).map rV = La at *
  generalize (vl m ob).map rV = Lb at *
  generalize (vl m oe).map rV = Le' at *
  generalize (vl n (atC n A v t)).map rV = Xa at *
  generalize (vl n (atC n A v (t + 1))).map rV = Xb at *
  generalize (vl n v).map rV = Sv at *
  refine PCall.of_ax Tryz.call8 Tryz.func8 rfl (by simp [Tryz.ntmps8]) fun O w0 => ?_
  simp only [Tryz.ntmps8, Tryz.results8, argFr]
  refine AX.sregAV [1, 2, 3] (hq := ?_)
  refine AX.sregCV [1, 2, 3] (aI cf oT) (hq := ?_)
  refine AX.sregWV [1, 2, 3] (aI @hr (aI @ht oT)) oT (hq := ?_)
  refine AX.sregCV [1, 2, 3, 7, 8, 9] (aI ce oT) (hq := ?_)
  refine AX.seq ?_
  refine AX.sregAV [1, 2, 3, 7, 8, 35] (hq := ?_)
  refine AX.condF (h := ?_)
  refine AX.keepA [1, 2, 3, 7, 8] (h := ?_)
  refine AX.skip ?_
  try simp only [zn1,zn2,zn3,zn4,zn5,zn6,zn7,zn8,if_true]
  refine AX.sregCV [1, 2, 3, 7, 8, 10, 11, 12] (aI ca oT) (hq := ?_)
  refine AX.sregWV [1, 7, 8, 10, 11, 12, 13, 14, 15] (aI @et oT) (aI cb oT) (hq := ?_)
  refine AX.seq ?_
  refine AX.sregWV [1, 7, 8, 10, 11, 13, 14, 73] (aI @m1 (aI @m2 (aI @m3 oT))) oT (hq := ?_)
  refine AX.condF (h := ?_)
  refine AX.keepA [1, 7, 8, 10, 11, 13, 14] (h := ?_)
  refine AX.skip ?_
  try simp only [zn1,zn2,zn3,zn4,zn5,zn6,zn7,zn8,if_true]
  refine AX.seq ?_
  refine AX.sregWV [1, 7, 8, 10, 11, 13, 14, 75, 76] (aI @m3 oT) oT (hq := ?_)
  refine AX.weaken id (st' := ⟨[(76, .i .i64 (0 : Nat)), (75, .i .i64 m), (14, .sl Lb), (13, .sl Xb), (11, .sl La), (10, .sl Xa), (8, .ptr 1 0), (7, .sl Le'), (1, .sl Sv)], [(1, ⟨41, [.b (decide (nq.num < 0)), dg (digits nq.num.natAbs), dg (digits nq.den)]⟩)], 2⟩)
    leQ5
    ?_
  refine AX.block ?_
  refine AX.loop (fun N st => ∃ j : Nat, j ≤ m ∧ N = m - j ∧ st = ⟨[(76, .i .i64 j), (75, .i .i64 m), (14, .sl Lb), (13, .sl Xb), (11, .sl La), (10, .sl Xa), (8, .ptr 1 0), (7, .sl Le'), (1, .sl Sv)], [(1, ⟨41, [.b (decide (nq.num < 0)), dg (digits nq.num.natAbs), dg (digits nq.den)]⟩)], 2⟩) m ⟨0, Nat.zero_le _, rfl, rfl⟩ ?_
  rintro N st ⟨j, hj, rfl, rfl⟩
  by_cases h1 : j < m
  · have j1 := i1 j h1
    have j2 := i2 j h1
    have j3 := i3 j h1
    have p1 := q1 j h1
    have p2 := q2 j h1
    have p3 := g3 j h1
    have p4 := g4 j h1
    clear i1 i2 i3 q1 q2 g3 g4
    generalize cmpR (oa j) (ob j) = e1 at *
    generalize cmpR (ob j) (oe j) = e2 at *
    generalize oa j = a at *
    generalize ob j = b at *
    generalize oe j = e at *
    refine AX.sregAV [1, 7, 8, 10, 11, 13, 14, 75, 76, 77] (hq := ?_)
    refine AX.seq ?_
    refine AX.condT (h := ?_)
    refine AX.keepA [1, 7, 8, 10, 11, 13, 14, 75, 76] (h := ?_)
    refine AX.skip ?_
    try simp only [zn1,zn2,zn3,zn4,zn5,zn6,zn7,zn8,if_true]
    refine AX.seq ?_
    refine AX.block ?_
    refine AX.sregAV [1, 7, 8, 10, 11, 13, 14, 16, 75, 76] (hq := ?_)
    refine AX.sdregEV [1, 7, 8, 10, 11, 13, 14, 75, 76, 100] (aI @p3 (aI @p4 (aI @decide_false oT))) (aI p1 (aI p2 oT)) (aI j1 (aI j2 (aI j3 oT))) (hq := ?_)
    refine AX.condF (h := ?_)
    refine AX.keepA [1, 7, 8, 10, 11, 13, 14, 75, 76] (h := ?_)
    refine AX.skip ?_
    try simp only [zn1,zn2,zn3,zn4,zn5,zn6,zn7,zn8,if_true]
    refine AX.regWV [1, 7, 8, 10, 11, 13, 14, 75, 76] (aI @lit_add oT) oT (hq := ?_)
    try simp only [zn1,zn2,zn3,zn4,zn5,zn6,zn7,zn8,if_true]
    refine ⟨_, _, id, ?_,
      leQ5
      , ⟨j + 1, by omega, rfl, rfl⟩⟩
    omega
  · have e : j = m := by omega
    subst e
    clear i1 i2 i3 q1 q2 g3 g4
    have g1' : d1 ≤ 0 := by omega
    have g2' : 0 ≤ d2 := by omega
    refine AX.sregAV [1, 7, 8, 10, 11, 13, 14, 75, 76, 77] (hq := ?_)
    refine AX.seq ?_
    refine AX.condF (h := ?_)
    refine AX.exit ?_
    try simp only [zn1,zn2,zn3,zn4,zn5,zn6,zn7,zn8,if_true]
    refine AX.sdregWV [6] (aI @g1' (aI @g2' (aI @decide_true oT))) (aI csx (aI csa (aI k1 (aI k2 (aI csy (aI k3 (aI csv (aI k4 (aI cal oT))))))))) (hq := ?_)
    refine AX.ret (And.intro (Or.inl rfl) ?_)
    exact Done.one rfl rfl rfl rfl
theorem chainRises_ok (R1 C1 R2 C2 : Int) (xs ys ss : List RT) (z : Int) (h1 : bd R1) (h2 : bd C1) (h3 : bd R2) (h4 : bd C2) (hx : okRT xs) (hy : okRT ys) (hs : okRT ss) (lx : xs.length < 2 ^ 62) (ly : ys.length < 2 ^ 62) (ls : ss.length < 2 ^ 62) (hz : bd z) :
    PCall Tryz.prog 8 [.agg [.i .i64 R1, .i .i64 C1, .sl (xs.map fR), .i .i64 R2, .i .i64 C2, .sl (ys.map fR)], .sl (ss.map fR), .i .i64 z] (.b true) [] := by
  obtain ⟨c', S', cf, hf, s1, s2, s3⟩ := few_all R1 C1 R2 C2 xs ys ss h1 h2 h3 h4 hx hy hs lx ly ls
  obtain ⟨R1', C1', R2', C2', x', y', e⟩ := hf.shaped
  rcases hf.ends s1 s2 s3 with he | ⟨n, m, A, B, v, rfl, e2, h⟩
  · exact rises_err _ c' _ (S'.map fR) z R1 C1 R2 C2 _ _ rfl R1' C1' R2' C2' x' y' e cf hz he
  · rw [e2] at cf
    exact rises_ok _ _ z R1 C1 R2 C2 _ _ rfl n m A B v h cf hz
end Go.Proofs.YtepkjfnffbdcoaaGreat
