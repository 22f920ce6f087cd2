/- Statements about chains: ChainMet. -/
import Derived.Test.YtepkjfnffbdcoaaGreatChV
import Derived.Test.YtepkjfnffbdcoaaGreatHN
set_option linter.unusedVariables false
set_option maxRecDepth 20000
set_option linter.unusedSimpArgs false
namespace Go.Proofs.YtepkjfnffbdcoaaGreat
open Go Go.Proofs.YtepkjfnffbdcoaaGreat.Lift
attribute [local irreducible] Lift.PCall Lift.HCall
set_option maxHeartbeats 4000000 in
theorem cvisits_err (c : V) (R1 C1 R2 C2 : Int) (x y sl : List V) (hc : c = .agg [.i .i64 R1, .i .i64 C1, .sl x, .i .i64 R2, .i .i64 C2, .sl y]) (ce : PCall Tryz.prog 18 [c, .sl sl] (.tup [.sl [], zR, .i .i64 1]) []) : PCall Tryz.prog 24 [c, .sl sl] (.tup [.sl [], .i .i64 1]) [] := by
  subst hc
  refine PCall.of_ax Tryz.call24 Tryz.func24 rfl (by simp [Tryz.ntmps24]) fun O w => ?_
  simp only [Tryz.ntmps24, Tryz.results24, argFr]
  refine AX.sregAV [2, 3] (hq := ?_)
  refine AX.sregCV [2, 3, 7, 8] (aI ce oT) (hq := ?_)
  refine AX.seq ?_
  refine AX.sregAV [2, 3, 7, 8, 22] (hq := ?_)
  refine AX.condT (h := ?_)
  refine AX.sregAV [4, 5] (hq := ?_)
  refine AX.ret (And.intro (Or.inl rfl) ?_)
  exact dnQ5
namespace Small
variable {n m : Nat} {A B : Mx} {v : Nat → Rat}
theorem visits (h : Small n m A B v) : PCall Tryz.prog 24 [cV n m A B, .sl ((vl n v).map rV)] (if neverQ n m A B v = 0 then .tup [.sl ((vl n (visV n m A B v)).map rV), .i .i64 0] else .tup [.sl [], .i .i64 31]) [] :=
  visits_ok n m 38 100000 (by have := h.hn; omega) (by have := h.hm; omega) A B h.hC h.hA h.hB (by decide) (bigL8 h.hn) (by decide) v h.hv (fun i hi => Nat.le_trans (h.hvL i hi) (by decide)) h.hX (by decide) (by decide) (by
    have := h.hn
    have := h.hm
    have h1 : (n + m + 1) * (60 * (2 * 100000 + 1) + 1 + 1) ≤ 14 * (60 * (2 * 100000 + 1) + 1 + 1) := Nat.mul_le_mul_right _ (by omega)
    omega)
theorem isVis (h : Small n m A B v) : (chn n m A B).IsVis v (visV n m A B v) := vis_is (L := 38) h.hC h.hA (fun i hi => Nat.le_trans (h.hvL i hi) (by decide)) (by decide)
theorem visL (h : Small n m A B v) : ∀ i, i < n → rL (visV n m A B v i) ≤ 100000 := vis_small h.hn h.hC h.hA h.hvL
theorem never_eq (h : Small n m A B v) : neverQ n m A B v = (chn n m A B).never (eachM n m A B) v := rfl
end Small
theorem sgnR_pos' {q : Rat} : 0 < sgnR q ↔ 0 < q := by
  unfold sgnR
  constructor
  · intro h
    split at h
    · exact absurd h (by decide)
    · split at h
      · exact absurd h (by decide)
      · rename_i h1 h2
        grind
  · intro h
    rw [if_neg (by grind), if_neg (by grind)]
    decide
theorem wrow_ok (n m L : Nat) (hn : n ≤ 60) (hm : m ≤ 60) (v : Nat → Rat) (B : Mx) (hv : ∀ i, i < n → rL (v i) ≤ L) (hB : ∀ i k, i < n → k < m → rL (B i k) ≤ L) (hL1 : 1 ≤ L) (hL : 60 * (2 * L + 1) + 1 < 2 ^ 34) :
    PCall Tryz.prog 36 [.agg [.i .i64 1, .i .i64 n, .sl ((vl n v).map rV)], .agg [.i .i64 n, .i .i64 m, .sl ((mcells m B (n * m)).map rV)]] (.tup [.agg [.i .i64 1, .i .i64 m, .sl ((vl m (thr n v B)).map rV)], .i .i64 0]) [] := by
  have cm := wmul_ok 1 n m L (by decide) hn hm (fun _ k => v k) B (fun _ j _ hj => hv j hj) hB hL1 hL
  unfold qM mV at cm
  have e1 : mcells m (mulM n (fun _ k => v k) B) (1 * m) = vl m (thr n v B) := by
    rw [← mcells_one]
    rfl
  rw [mcells_one, e1] at cm
  exact cm
set_option maxHeartbeats 4000000 in
theorem met_err (c c' : V) (S S' : List V) (R1 C1 R2 C2 : Int) (x y : List V) (hc : c = .agg [.i .i64 R1, .i .i64 C1, .sl x, .i .i64 R2, .i .i64 C2, .sl y]) (R1' C1' R2' C2' : Int) (x' y' : List V) (hc' : c' = .agg [.i .i64 R1', .i .i64 C1', .sl x', .i .i64 R2', .i .i64 C2', .sl y'])
    (cf : PCall Tryz.prog 14 [c, .sl S] (.tup [c', .sl S']) []) (ce : PCall Tryz.prog 18 [c', .sl S'] (.tup [.sl [], zR, .i .i64 1]) []) : PCall Tryz.prog 6 [c, .sl S] (.b true) [] := by
  have cv := cvisits_err c' R1' C1' R2' C2' x' y' S' hc' ce
  subst hc hc'
  have cal := lalive_ok
  refine PCall.of_ax Tryz.call6 Tryz.func6 rfl (by simp [Tryz.ntmps6]) fun O w0 => ?_
  simp only [Tryz.ntmps6, Tryz.results6, argFr]
  refine AX.sregAV [1, 2] (hq := ?_)
  refine AX.sregCV [1, 2] (aI cf oT) (hq := ?_)
  refine AX.sregCV [1, 2, 5, 6] (aI cv oT) (hq := ?_)
  refine AX.seq ?_
  refine AX.sregAV [1, 2, 5, 6, 32] (hq := ?_)
  refine AX.condT (h := ?_)
  refine AX.sregCV [6, 8, 9] (aI ce oT) (hq := ?_)
  refine AX.sregCV [4] (aI cal oT) (hq := ?_)
  refine AX.ret (And.intro (Or.inl rfl) ?_)
  exact Done.one rfl rfl rfl rfl
set_option maxHeartbeats 4000000 in
theorem met_zero (c : V) (S : List V) (R1 C1 R2 C2 : Int) (x y : List V) (hc : c = .agg [.i .i64 R1, .i .i64 C1, .sl x, .i .i64 R2, .i .i64 C2, .sl y]) (n m : Nat) (A B : Mx) (v : Nat → Rat) (h : Small n m A B v) (hne : neverQ n m A B v ≠ 0)
    (cf : PCall Tryz.prog 14 [c, .sl S] (.tup [cV n m A B, .sl ((vl n v).map rV)]) []) : PCall Tryz.prog 6 [c, .sl S] (.b true) [] := by
  have cv := h.visits
  rw [if_neg hne] at cv
  have ce := h.ends
  have hpos : 0 < neverQ n m A B v := pos_of (by rw [h.never_eq]; exact Chn.never_nonneg (isC_ok h.hC) h.is h.hv) hne
  have hsg := sgnR_pos'.2 hpos
  have cs : PCall Tryz.prog 31 [.agg [.b (decide ((neverQ n m A B v).num < 0)), dg (digits (neverQ n m A B v).num.natAbs), dg (digits (neverQ n m A B v).den)]] (.i .i64 (sgnR (neverQ n m A B v))) [] := psign_ok (IsQ.of h.neverL) (by decide)
  subst hc
  have cal := lalive_ok
  clear h hpos hne
  unfold cV at *
  generalize (mcells n A (n * n)).map rV = Ac at *
  generalize (mcells m B (n * m)).map rV = Bc at *
  generalize sgnR (neverQ n m A B v) = sg at *
  generalize neverQ n m A B v = nq at *
  generalize (vl m (thr n v (eachM n m A B))).map rV = Es at *
  generalize (vl n v).map rV = Sv at *
  refine PCall.of_ax Tryz.call6 Tryz.func6 rfl (by simp [Tryz.ntmps6]) fun O w0 => ?_
  simp only [Tryz.ntmps6, Tryz.results6, argFr]
  refine AX.sregAV [1, 2] (hq := ?_)
  refine AX.sregCV [1, 2] (aI cf oT) (hq := ?_)
  refine AX.sregCV [1, 2, 5, 6] (aI cv oT) (hq := ?_)
  refine AX.seq ?_
  refine AX.sregAV [1, 2, 5, 6, 32] (hq := ?_)
  refine AX.condT (h := ?_)
  refine AX.sregCV [6, 8, 9] (aI ce oT) (hq := ?_)
  refine AX.sregWV [4] (aI @hsg oT) (aI cs (aI cal oT)) (hq := ?_)
  refine AX.ret (And.intro (Or.inl rfl) ?_)
  exact Done.one rfl rfl rfl rfl
set_option maxHeartbeats 16000000 in
theorem met_ok (c : V) (S : List V) (R1 C1 R2 C2 : Int) (x y : List V) (hc : c = .agg [.i .i64 R1, .i .i64 C1, .sl x, .i .i64 R2, .i .i64 C2, .sl y]) (n m : Nat) (A B : Mx) (v : Nat → Rat) (h : Small n m A B v) (h0 : neverQ n m A B v = 0)
    (cf : PCall Tryz.prog 14 [c, .sl S] (.tup [cV n m A B, .sl ((vl n v).map rV)]) []) : PCall Tryz.prog 6 [c, .sl S] (.b true) [] := by
  have hn := h.hn
  have hm := h.hm
  have hOk := isC_ok h.hC
  have cv := h.visits
  rw [if_pos h0] at cv
  have ce := h.ends
  have hvL := h.visL
  have hflow := h.isVis.flow hOk h.is h.hv (by rw [← h.never_eq]; exact h0)
  have hx0 := h.isVis.nonneg hOk h.hv
  have hends : vl m (thr n (visV n m A B v) B) = vl m (thr n v (eachM n m A B)) := vl_congr fun j hj => h.isVis.ends hOk h.is j hj
  have c1 := wrow_ok n n 100000 (by omega) (by omega) (visV n m A B v) A hvL (fun i k hi hk => Nat.le_trans (h.hA i k hi hk) (by decide)) (by decide) (by decide)
  have c2 := wrow_ok n m 100000 (by omega) (by omega) (visV n m A B v) B hvL (fun i k hi hk => Nat.le_trans (h.hB i k hi hk) (by decide)) (by decide) (by decide)
  rw [hends] at c2
  have csm := c20same_ok (vl m (thr n v (eachM n m A B))) (vl m (thr n v (eachM n m A B))) 2000000 (vl_mem h.endL) (vl_mem h.endL) (by decide) (by decide) (by rw [vl_length]; omega) (by rw [vl_length]; omega)
  rw [decide_eq_true rfl] at csm
  have tl : ∀ k, k < n → rL (thr n (visV n m A B v) A k) ≤ 2000000 := fun k hk => by
    have h1 := thr_len (B := A) (k := k) (L := 100000) (by decide) hvL (fun i hi => Nat.le_trans (h.hA i k hi hk) (by decide)) n (Nat.le_refl _)
    have h2 : n * (2 * 100000 + 1) ≤ 8 * (2 * 100000 + 1) := Nat.mul_le_mul_right _ hn
    omega
  have k1 : ∀ i, i < n → PCall Tryz.prog 33 [.agg [.b (decide ((v i).num < 0)), dg (digits (v i).num.natAbs), dg (digits (v i).den)], .agg [.b (decide ((thr n (visV n m A B v) A i).num < 0)), dg (digits (thr n (visV n m A B v) A i).num.natAbs), dg (digits (thr n (visV n m A B v) A i).den)]] (.agg [.b (decide ((visV n m A B v i).num < 0)), dg (digits (visV n m A B v i).num.natAbs), dg (digits (visV n m A B v i).den)]) [] := fun i hi => by
    have e : visV n m A B v i = v i + thr n (visV n m A B v) A i := hflow i hi
    have := padd_ok (L := 2000000) (IsQ.of (q := v i) (Nat.le_trans (h.hvL i hi) (by decide))) (IsQ.of (q := thr n (visV n m A B v) A i) (tl i hi)) (by decide) (by decide)
    rw [← e] at this
    exact this
  have k2 : ∀ i, i < n → PCall Tryz.prog 22 [.agg [.b (decide ((visV n m A B v i).num < 0)), dg (digits (visV n m A B v i).num.natAbs), dg (digits (visV n m A B v i).den)], .agg [.b (decide ((visV n m A B v i).num < 0)), dg (digits (visV n m A B v i).num.natAbs), dg (digits (visV n m A B v i).den)]] (.b true) [] := fun i hi => by
    have := psame_ok (L := 100000) (IsQ.of (q := visV n m A B v i) (hvL i hi)) (IsQ.of (q := visV n m A B v i) (hvL i hi)) (by decide) (by decide)
    rw [decide_eq_true rfl] at this
    exact this
  have k3 : ∀ i, i < n → PCall Tryz.prog 31 [.agg [.b (decide ((visV n m A B v i).num < 0)), dg (digits (visV n m A B v i).num.natAbs), dg (digits (visV n m A B v i).den)]] (.i .i64 (sgnR (visV n m A B v i))) [] := fun i hi => psign_ok (IsQ.of (hvL i hi)) (by decide)
  have k4 : ∀ i, i < n → ¬ sgnR (visV n m A B v i) < 0 := fun i hi hs => by
    have := hx0 i hi
    unfold sgnR at hs
    rw [if_neg (by grind)] at hs
    split at hs <;> exact absurd hs (by decide)
  have i1 := fun (j : Nat) (hj : j < n) => fun x y => effIxL (x := x) (y := y) (visV n m A B v) hj
  have i2 := fun (j : Nat) (hj : j < n) => fun x y => effIxL (x := x) (y := y) v hj
  have i3 := fun (j : Nat) (hj : j < n) => fun x y => effIxL (x := x) (y := y) (thr n (visV n m A B v) A) hj
  have m1 : ((vl n (visV n m A B v)).map rV).length = n := vl_mlen ..
  have m2 : ((vl n v).map rV).length = n := vl_mlen ..
  subst hc
  have cal := lalive_ok
  clear h h0 hflow hx0 hends hvL tl hOk
  unfold cV at *
  generalize (mcells n A (n * n)).map rV = Ac at *
  generalize (mcells m B (n * m)).map rV = Bc at *
  generalize neverQ n m A B v = nq at *
  generalize (vl m (thr n v (eachM n m A B))).map rV = Es at *
  generalize thr n (visV n m A B v) A = ca at *
  generalize visV n m A B v = vs at *
  generalize (vl n ca).map rV = Cs at *
  generalize (vl n vs).map rV = Vs at *
  generalize (vl n v).map rV = Sv at *
  refine PCall.of_ax Tryz.call6 Tryz.func6 rfl (by simp [Tryz.ntmps6]) fun O w0 => ?_
  simp only [Tryz.ntmps6, Tryz.results6, argFr]
  refine AX.sregAV [1, 2] (hq := ?_)
  refine AX.sregCV [1, 2] (aI cf oT) (hq := ?_)
  refine AX.sregCV [1, 2, 5, 6] (aI cv oT) (hq := ?_)
  refine AX.seq ?_
  refine AX.sregAV [1, 2, 5, 6, 32] (hq := ?_)
  refine AX.condF (h := ?_)
  refine AX.keepA [1, 2, 5] (h := ?_)
  refine AX.skip ?_
  try simp only [zn1,zn2,zn3,zn4,zn5,zn6,zn7,zn8,if_true]
  refine AX.sregWV [1, 2, 5, 10] (aI @m1 oT) oT (hq := ?_)
  refine AX.sregCV [1, 2, 5, 10, 11] (aI c1 oT) (hq := ?_)
  refine AX.sregCV [1, 2, 5, 11, 13] (aI c2 oT) (hq := ?_)
  refine AX.sregCV [1, 5, 11, 13, 15] (aI ce oT) (hq := ?_)
  refine AX.seq ?_
  refine AX.sregWV [1, 5, 11, 13, 15, 89, 90] (aI @m1 oT) oT (hq := ?_)
  refine AX.weaken (fun k => if k = 0 then 2 else if k = 1 then 3 else k) (st' := ⟨[(90, .i .i64 (0 : Nat)), (89, .i .i64 n), (15, .sl Es), (13, .ptr 1 0), (11, .ptr 0 0), (5, .sl Vs), (1, .sl Sv)], [(1, ⟨32, [.i .i64 1, .i .i64 m, .sl Es]⟩), (0, ⟨32, [.i .i64 1, .i .i64 n, .sl Cs]⟩)], 2⟩)
    leQ5
    ?_
  refine AX.block ?_
  refine AX.loop (fun N st => ∃ j : Nat, j ≤ n ∧ N = n - j ∧ st = ⟨[(90, .i .i64 j), (89, .i .i64 n), (15, .sl Es), (13, .ptr 1 0), (11, .ptr 0 0), (5, .sl Vs), (1, .sl Sv)], [(1, ⟨32, [.i .i64 1, .i .i64 m, .sl Es]⟩), (0, ⟨32, [.i .i64 1, .i .i64 n, .sl Cs]⟩)], 2⟩) n ⟨0, Nat.zero_le _, rfl, rfl⟩ ?_
  rintro N st ⟨j, hj, rfl, rfl⟩
  by_cases h1 : j < n
  · have j1 := i1 j h1
    have j2 := i2 j h1
    have j3 := i3 j h1
    have p1 := k1 j h1
    have p2 := k2 j h1
    have p3 := k3 j h1
    have p4 := k4 j h1
    clear i1 i2 i3 k1 k2 k3 k4 csm c1 c2 ce cv
    generalize sgnR (vs j) = sg at *
    generalize vs j = a at *
    generalize ca j = b at *
    generalize v j = d at *
    refine AX.sregAV [1, 5, 11, 13, 15, 89, 90, 91] (hq := ?_)
    refine AX.seq ?_
    refine AX.condT (h := ?_)
    refine AX.keepA [1, 5, 11, 13, 15, 89, 90] (h := ?_)
    refine AX.skip ?_
    try simp only [zn1,zn2,zn3,zn4,zn5,zn6,zn7,zn8,if_true]
    refine AX.seq ?_
    refine AX.block ?_
    refine AX.sregAV [1, 5, 11, 13, 15, 18, 89, 90] (hq := ?_)
    refine AX.sdregEV [1, 5, 11, 13, 15, 89, 90, 116] (aI @p4 oT) (aI p1 (aI p2 (aI p3 oT))) (aI j1 (aI j2 (aI j3 oT))) (hq := ?_)
    refine AX.condF (h := ?_)
    refine AX.keepA [1, 5, 11, 13, 15, 89, 90] (h := ?_)
    refine AX.skip ?_
    try simp only [zn1,zn2,zn3,zn4,zn5,zn6,zn7,zn8,if_true]
    refine AX.regWV [1, 5, 11, 13, 15, 89, 90] (aI @lit_add oT) oT (hq := ?_)
    try simp only [zn1,zn2,zn3,zn4,zn5,zn6,zn7,zn8,if_true]
    refine ⟨_, _, id, ?_,
      leQ5
      , ⟨j + 1, by omega, rfl, rfl⟩⟩
    omega
  · have e : j = n := by omega
    subst e
    clear i1 i2 i3 k1 k2 k3 k4
    refine AX.sregAV [1, 5, 11, 13, 15, 89, 90, 91] (hq := ?_)
    refine AX.seq ?_
    refine AX.condF (h := ?_)
    refine AX.exit ?_
    try simp only [zn1,zn2,zn3,zn4,zn5,zn6,zn7,zn8,if_true]
    refine AX.sregWV [4] (aI @m1 (aI @m2 oT)) (aI csm (aI cal oT)) (hq := ?_)
    refine AX.ret (And.intro (Or.inl rfl) ?_)
    exact Done.one rfl rfl rfl rfl
theorem chainMet_ok (R1 C1 R2 C2 : Int) (xs ys ss : List RT) (h1 : bd R1) (h2 : bd C1) (h3 : bd R2) (h4 : bd C2) (hx : okRT xs) (hy : okRT ys) (hs : okRT ss) (lx : xs.length < 2 ^ 62) (ly : ys.length < 2 ^ 62) (ls : ss.length < 2 ^ 62) :
    PCall Tryz.prog 6 [.agg [.i .i64 R1, .i .i64 C1, .sl (xs.map fR), .i .i64 R2, .i .i64 C2, .sl (ys.map fR)], .sl (ss.map fR)] (.b true) [] := by
  obtain ⟨c', S', cf, hf, s1, s2, s3⟩ := few_all R1 C1 R2 C2 xs ys ss h1 h2 h3 h4 hx hy hs lx ly ls
  obtain ⟨R1', C1', R2', C2', x', y', e⟩ := hf.shaped
  rcases hf.ends s1 s2 s3 with he | ⟨n, m, A, B, v, rfl, e2, h⟩
  · exact met_err _ c' _ (S'.map fR) R1 C1 R2 C2 _ _ rfl R1' C1' R2' C2' x' y' e cf he
  · rw [e2] at cf
    by_cases h0 : neverQ n m A B v = 0
    · exact met_ok _ _ R1 C1 R2 C2 _ _ rfl n m A B v h h0 cf
    · exact met_zero _ _ R1 C1 R2 C2 _ _ rfl n m A B v h h0 cf
end Go.Proofs.YtepkjfnffbdcoaaGreat
