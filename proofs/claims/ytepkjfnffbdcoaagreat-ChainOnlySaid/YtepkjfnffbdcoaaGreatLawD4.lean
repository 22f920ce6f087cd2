/- Statements about chains: ChainOnly. -/
import Derived.Test.YtepkjfnffbdcoaaGreatChO
import Derived.Test.YtepkjfnffbdcoaaGreatHN
set_option linter.unusedVariables false
set_option maxRecDepth 20000
set_option linter.unusedSimpArgs false
namespace Go.Proofs.YtepkjfnffbdcoaaGreat
open Go Go.Proofs.YtepkjfnffbdcoaaGreat.Lift
attribute [local irreducible] Lift.PCall Lift.HCall
/-! ### The plain law -/
theorem mcells_inj {r c : Nat} {X Y : Mx} (h : mcells c X (r * c) = mcells c Y (r * c)) : ∀ i k, i < r → k < c → X i k = Y i k := fun i k hi hk => by
  have h1 := (mcells_get (r := r) (c := c) X hi hk).2
  have h2 := (mcells_get (r := r) (c := c) Y hi hk).2
  rw [h] at h1
  exact h1.symm.trans h2
theorem hold_is {n m : Nat} {A B X : Mx} (h : Hold n m A B X) : (chn n m A B).IsEach X := by
  refine ⟨fun i j hi hj hr => h.1 i j hi hj ?_, fun i j hi hj hr => mcells_inj h.2 i j hi hj⟩
  cases hb : rchB n m A B i
  · rfl
  · exact absurd (rchB_iff.1 hb) hr
theorem hold_each {n m : Nat} {A B X : Mx} (hC : isC n m A B = true) (h : (chn n m A B).IsEach X) : holdB n m A B X = true := by
  refine holdB_iff.2 ⟨fun i k hi hk hr => h.z i k hi hk fun hr' => ?_, mcells_congr fun i k hi hk => h.all (isC_ok hC) i k hi hk⟩
  rw [rchB_iff.2 hr'] at hr
  cases hr
theorem hold_other {n m : Nat} {A B X : Mx} (hC : isC n m A B = true) (h : (chn n m A B).IsEach X) {i k : Nat} (hi : i < n) (hk : k < m) {q : Rat} (hq : q ≠ X i k) : holdB n m A B (updM X i k q) = false := by
  cases hb : holdB n m A B (updM X i k q)
  · rfl
  · have h2 := (hold_is (holdB_iff.1 hb)).unique (isC_ok hC) h i k hi hk
    have h3 : updM X i k q i k = q := if_pos ⟨rfl, rfl⟩
    rw [h3] at h2
    exact absurd h2 hq
theorem nleR (a : Nat) : (a ≤ a) = True := eq_true (Nat.le_refl a)
set_option maxHeartbeats 4000000 in
theorem ceach_not (R1 C1 R2 C2 : Int) (x y : List V) (hr : PCall Tryz.prog 41 [.agg [.i .i64 R1, .i .i64 C1, .sl x, .i .i64 R2, .i .i64 C2, .sl y]] (.b false) []) :
    PCall Tryz.prog 15 [.agg [.i .i64 R1, .i .i64 C1, .sl x, .i .i64 R2, .i .i64 C2, .sl y]] (.tup [.agg [.i .i64 0, .i .i64 0, .sl []], .i .i64 1]) [] := by
  refine PCall.of_ax Tryz.call15 Tryz.func15 rfl (by simp [Tryz.ntmps15]) fun O w => ?_
  simp only [Tryz.ntmps15, Tryz.results15, argFr]
  refine AX.sregAV [1, 2] (hq := ?_)
  refine AX.seq ?_
  refine AX.sregCV [1, 2, 12] (aI hr oT) (hq := ?_)
  refine AX.condT (h := ?_)
  refine AX.sregAV [2, 3] (hq := ?_)
  refine AX.ret (And.intro (Or.inl rfl) ?_)
  exact dnQ5
set_option maxHeartbeats 4000000 in
theorem only_not (c : V) (S' : List V) (R1 C1 R2 C2 : Int) (x y : List V) (hc : c = .agg [.i .i64 R1, .i .i64 C1, .sl x, .i .i64 R2, .i .i64 C2, .sl y]) (R1' C1' R2' C2' : Int) (x' y' : List V) (z : Int) (s : Bool) (a b : List Nat)
    (cf : PCall Tryz.prog 14 [c, .sl []] (.tup [.agg [.i .i64 R1', .i .i64 C1', .sl x', .i .i64 R2', .i .i64 C2', .sl y'], .sl S']) []) (cr : PCall Tryz.prog 41 [.agg [.i .i64 R1', .i .i64 C1', .sl x', .i .i64 R2', .i .i64 C2', .sl y']] (.b false) []) (cr2 : PCall Tryz.prog 42 [.agg [.i .i64 R1', .i .i64 C1', .sl x', .i .i64 R2', .i .i64 C2', .sl y']] (.b false) []) :
    PCall Tryz.prog 13 [c, .i .i64 z, rR s a b] (.b true) [] := by
  subst hc
  have ce := ceach_not R1' C1' R2' C2' x' y' cr
  have cof := lof_ok R1' C1' R2' C2' x' y'
  have cal := lalive_ok
  unfold rR
  refine PCall.of_ax Tryz.call13 Tryz.func13 rfl (by simp [Tryz.ntmps13]) fun O w0 => ?_
  simp only [Tryz.ntmps13, Tryz.results13, argFr]
  refine AX.sregAV [1, 3, 5] (hq := ?_)
  refine AX.sregCV [1, 3, 5] (aI cf oT) (hq := ?_)
  refine AX.sregCV [1, 3, 5, 7, 8] (aI ce oT) (hq := ?_)
  refine AX.seq ?_
  refine AX.sregAV [1, 3, 5, 7, 23] (hq := ?_)
  refine AX.condT (h := ?_)
  refine AX.sregCV [6] (aI cof (aI cr2 (aI cal oT))) (hq := ?_)
  refine AX.ret (And.intro (Or.inl rfl) ?_)
  exact Done.one rfl rfl rfl rfl
set_option maxHeartbeats 32000000 in
theorem only_ok (c : V) (S' : List V) (R1 C1 R2 C2 : Int) (x y : List V) (hc : c = .agg [.i .i64 R1, .i .i64 C1, .sl x, .i .i64 R2, .i .i64 C2, .sl y]) (n m : Nat) (A B : Mx) (hn : n ≤ 8) (hm : m ≤ 5) (hA : ∀ i k, i < n → k < n → rL (A i k) ≤ 38) (hB : ∀ i k, i < n → k < m → rL (B i k) ≤ 38) (hC : isC n m A B = true) (z : Int) (hz : bd z) (s : Bool) (a b : List Nat) (ga : Dg a) (gb : Dg b) (la : a.length < 2 ^ 62) (lb : b.length < 2 ^ 62)
    (cf : PCall Tryz.prog 14 [c, .sl []] (.tup [cV n m A B, .sl S']) []) : PCall Tryz.prog 13 [c, .i .i64 z, rR s a b] (.b true) [] := by
  unfold bd at hz
  have hX := each_small hn hC hA hB
  have his := each_is (L := 38) hC hA hB (by decide)
  have ce := ceach_own n m 38 (by omega) (by omega) A B hC hA hB (by decide) (bigL8 hn) (by decide)
  have ch1 := chold_ok n m 100010 (by omega) (by omega) A B (eachM n m A B) hC (fun i k hi hk => Nat.le_trans (hA i k hi hk) (by decide)) (fun i k hi hk => Nat.le_trans (hB i k hi hk) (by decide)) (fun i k hi hk => Nat.le_trans (hX i k hi hk) (by decide)) (by decide) (by decide)
  rw [hold_each hC his] at ch1
  have cl := llist_ok 1 (by decide) [(s, a, b)] (by show 1 < 2 ^ 62; decide) (fun x hx => by rw [List.mem_singleton.1 hx]; exact ⟨la, lb⟩)
  have cl : PCall Tryz.prog 29 [.sl [rR s a b], .i .i64 1] (.sl [rR s (a.take 3) (b.take 3)]) [] := cl
  have d1 : Dg (a.take 3) := fun d hd => ga d (List.mem_of_mem_take hd)
  have d2 : Dg (b.take 3) := fun d hd => gb d (List.mem_of_mem_take hd)
  have l1 : (a.take 3).length ≤ 3 := by rw [List.length_take]; omega
  have l2 : (b.take 3).length ≤ 3 := by rw [List.length_take]; omega
  have hix : ∀ x y, eff Tryz.prog (.indexAddr 22 x y) [.sl [rR s (a.take 3) (b.take 3)], .i .i64 0] = some (.val (.rp [.b s, dg (a.take 3), dg (b.take 3)])) := fun x y => effIxR (j := 0) (els := [rR s (a.take 3) (b.take 3)]) Nat.zero_lt_one rfl
  have cp := pright_ok s (a.take 3) (b.take 3) d1 d2 (by omega) (by omega)
  have cal := lalive_ok
  have hnm : n * m ≤ 60 * 60 := Nat.mul_le_mul (by omega) (by omega)
  have hql := qlen m n (eachM n m A B)
  have htk : List.take (n * m * 3) (qrow (mcells m (eachM n m A B) (n * m))) = qrow (mcells m (eachM n m A B) (n * m)) := by rw [← hql]; exact List.take_length
  have hck : chunks 3 (n * m) (qrow (mcells m (eachM n m A B) (n * m))) = (mcells m (eachM n m A B) (n * m)).map rV := by
    have := chunks_q (mcells m (eachM n m A B) (n * m))
    rwa [mcells_length] at this
  have hgo := fun (i k : Nat) (q : Rat) (hi : i < n) (hk : k < m) (hq : q ≠ eachM n m A B i k) => hold_other hC his hi hk hq
  have chY := fun (i k : Nat) (q : Rat) (hi : i < n) (hk : k < m) (hq : q ≠ eachM n m A B i k) (hl : rL q ≤ 100010) => by
    have := chold_ok n m 100010 (by omega) (by omega) A B (updM (eachM n m A B) i k q) hC (fun i k hi hk => Nat.le_trans (hA i k hi hk) (by decide)) (fun i k hi hk => Nat.le_trans (hB i k hi hk) (by decide)) (fun i' k' hi' hk' => by
      show rL (if i' = i ∧ k' = k then q else eachM n m A B i' k') ≤ _
      split
      · exact hl
      · exact Nat.le_trans (hX i' k' hi' hk') (by decide)) (by decide) (by decide)
    rw [hgo i k q hi hk hq] at this
    exact this
  clear hgo hA hB
  obtain ⟨X, hXe⟩ : ∃ X, eachM n m A B = X := ⟨_, rfl⟩
  rw [hXe] at hX his ce ch1 hql htk hck chY
  subst hc
  unfold rR cV qM mV at *
  generalize (mcells n A (n * n)).map rV = Ac at *
  generalize (mcells m B (n * m)).map rV = Bc at *
  generalize hKx : n * m = K at *
  generalize a.take 3 = a3 at *
  generalize b.take 3 = b3 at *
  obtain ⟨xs, hxs⟩ : ∃ xs, mcells m X K = xs := ⟨_, rfl⟩
  rw [hxs] at ce ch1 hql htk hck
  have hfq := flat_q xs
  have hhq := hf_q xs
  have hlast : ∀ h9 : isR s a3 b3 = true, ∃ q : Rat, (s, a3, b3) = toRT q := fun h9 => isR_rat d1 d2 h9
  refine PCall.of_ax Tryz.call13 Tryz.func13 rfl (by simp [Tryz.ntmps13]) fun O w0 => ?_
  simp only [Tryz.ntmps13, Tryz.results13, argFr]
  refine AX.sregAV [1, 3, 5] (hq := ?_)
  refine AX.sregCV [1, 3, 5] (aI cf oT) (hq := ?_)
  refine AX.sregCV [1, 3, 5, 7, 8] (aI ce oT) (hq := ?_)
  refine AX.seq ?_
  refine AX.sregAV [1, 3, 5, 7, 23] (hq := ?_)
  refine AX.condF (h := ?_)
  refine AX.keepA [1, 3, 5, 7] (h := ?_)
  refine AX.skip ?_
  try simp only [zn1,zn2,zn3,zn4,zn5,zn6,zn7,zn8,if_true]
  refine AX.weaken id (st' := ⟨[(7, .ptr 3 0), (5, .ptr 1 0), (3, .ptr 0 0), (1, .i .i64 z)], [(3, ⟨24, [.i .i64 n, .i .i64 m, .own 2 0 K 3]⟩), (2, ⟨41, qrow xs⟩), (1, ⟨41, [.b s, dg a, dg b]⟩), (0, ⟨26, [.i .i64 n, .i .i64 n, .sl Ac, .i .i64 n, .i .i64 m, .sl Bc]⟩)], 4⟩)
    leQ5
    ?_
  refine AX.seq ?_
  refine AX.sregWV [1, 3, 5, 7, 34] (aI @hql (aI @htk (aI @hck (aI @hfq (aI @hhq (aI @nleR oT)))))) (aI ch1 oT) (hq := ?_)
  refine AX.condF (h := ?_)
  refine AX.keepA [1, 3, 5, 7] (h := ?_)
  refine AX.skip ?_
  try simp only [zn1,zn2,zn3,zn4,zn5,zn6,zn7,zn8,if_true]
  refine AX.sregEV [1, 3, 7, 9] (aI @zerosV_1 (aI @tkS (aI @tk0 (aI @chunks31 oT)))) (aI cl oT) (aI hix oT) (hq := ?_)
  refine AX.seq ?_
  refine AX.sregAV [1, 3, 7, 9, 10] (hq := ?_)
  by_cases hK : 0 < K
  · cases hR : isR s a3 b3
    · rw [hR] at cp
      refine AX.sregCV [1, 3, 7, 9, 10, 53] (aI cp oT) (hq := ?_)
      refine AX.condF (h := ?_)
      refine AX.keepA [] (h := ?_)
      refine AX.skip ?_
      try simp only [zn1,zn2,zn3,zn4,zn5,zn6,zn7,zn8,if_true]
      refine AX.sregCV [6] (aI cal oT) (hq := ?_)
      refine AX.ret (And.intro (Or.inl rfl) ?_)
      exact Done.one rfl rfl rfl rfl
    · rw [hR] at cp
      obtain ⟨q, hq⟩ := hlast hR
      have e3 : s = decide (q.num < 0) ∧ a3 = digits q.num.natAbs ∧ b3 = digits q.den := by
        have h1 := congrArg (fun t => t.1) hq
        have h2 := congrArg (fun t => t.2.1) hq
        have h3 := congrArg (fun t => t.2.2) hq
        exact ⟨h1, h2, h3⟩
      obtain ⟨rfl, rfl, rfl⟩ := e3
      have hqL : rL q ≤ 3 := Nat.max_le.2 ⟨l1, l2⟩
      have cs : PCall Tryz.prog 31 [.agg [.b (decide (q.num < 0)), dg (digits q.num.natAbs), dg (digits q.den)]] (.i .i64 (sgnR q)) [] := psign_ok (IsQ.of hqL) (by decide)
      by_cases hq0 : sgnR q = 0
      · rw [hq0] at cs
        refine AX.sregCV [1, 3, 7, 9, 10, 53] (aI cp (aI cs oT)) (hq := ?_)
        refine AX.condF (h := ?_)
        refine AX.keepA [] (h := ?_)
        refine AX.skip ?_
        try simp only [zn1,zn2,zn3,zn4,zn5,zn6,zn7,zn8,if_true]
        refine AX.sregCV [6] (aI cal oT) (hq := ?_)
        refine AX.ret (And.intro (Or.inl rfl) ?_)
        exact Done.one rfl rfl rfl rfl
      · have hqne : q ≠ 0 := fun e => hq0 (sgnR_eq_zero.2 e)
        obtain ⟨r, hr⟩ : ∃ r, Int.tmod z (K : Int) = r := ⟨_, rfl⟩
        have hrb : -(K : Int) < r ∧ r < (K : Int) := by
          rw [← hr]
          exact ⟨Int.lt_tmod_of_pos z (by omega), Int.tmod_lt_of_pos z (by omega)⟩
        obtain ⟨t, ht, htb⟩ : ∃ t : Nat, Int.tmod (r + (K : Int)) (K : Int) = (t : Int) ∧ t < K := by
          have h1 := Int.tmod_nonneg (a := r + (K : Int)) (K : Int) (by omega)
          have h2 := Int.tmod_lt_of_pos (r + (K : Int)) (b := (K : Int)) (by omega)
          exact ⟨(Int.tmod (r + (K : Int)) (K : Int)).toNat, by omega, by omega⟩
        have hK0 : ¬ (K : Int) = 0 := by omega
        have hm0 : 0 < m := Nat.pos_of_ne_zero fun e => by rw [e, Nat.mul_zero] at hKx; omega
        have hti : t / m < n := (Nat.div_lt_iff_lt_mul hm0).2 (by omega)
        have htk' : t % m < m := Nat.mod_lt _ hm0
        have hte : t / m * m + t % m = t := Nat.div_add_mod' t m
        have ca : PCall Tryz.prog 33 [.agg [.b (decide ((X (t / m) (t % m)).num < 0)), dg (digits (X (t / m) (t % m)).num.natAbs), dg (digits (X (t / m) (t % m)).den)], .agg [.b (decide (q.num < 0)), dg (digits q.num.natAbs), dg (digits q.den)]] (.agg [.b (decide ((X (t / m) (t % m) + q).num < 0)), dg (digits (X (t / m) (t % m) + q).num.natAbs), dg (digits (X (t / m) (t % m) + q).den)]) [] := padd_ok (L := 100000) (IsQ.of (hX _ _ hti htk')) (IsQ.of (Nat.le_trans hqL (by decide))) (by decide) (by decide)
        have hYl : rL (X (t / m) (t % m) + q) ≤ 100010 := by
          have := rL_add _ _ (hX _ _ hti htk') hqL
          omega
        have cY := chY (t / m) (t % m) (X (t / m) (t % m) + q) hti htk' (fun e => hqne (by grind)) hYl
        have hg := qget (n := n) X hti htk' hte
        have hset := qset (n := n) X (X (t / m) (t % m) + q) hti htk' hte
        rw [hKx, hxs] at hg hset
        have hql2 := qlen m n (updM X (t / m) (t % m) (X (t / m) (t % m) + q))
        rw [hKx] at hql2
        have htk2 : List.take (K * 3) (qrow (mcells m (updM X (t / m) (t % m) (X (t / m) (t % m) + q)) K)) = qrow (mcells m (updM X (t / m) (t % m) (X (t / m) (t % m) + q)) K) := by rw [← hql2]; exact List.take_length
        have hck2 : chunks 3 K (qrow (mcells m (updM X (t / m) (t % m) (X (t / m) (t % m) + q)) K)) = (mcells m (updM X (t / m) (t % m) (X (t / m) (t % m) + q)) K).map rV := by
          have := chunks_q (mcells m (updM X (t / m) (t % m) (X (t / m) (t % m) + q)) K)
          rwa [mcells_length] at this
        clear chY hX his hlast
        generalize mcells m (updM X (t / m) (t % m) (X (t / m) (t % m) + q)) K = ys at *
        have hfq2 := flat_q ys
        have hhq2 := hf_q ys
        generalize X (t / m) (t % m) + q = qq at *
        generalize X (t / m) (t % m) = p at *
        generalize sgnR q = sg at *
        refine AX.sregWV [1, 3, 7, 9, 10, 53] (aI @hq0 oT) (aI cp (aI cs oT)) (hq := ?_)
        refine AX.condT (h := ?_)
        refine AX.sregWV [3, 7, 9, 11] (aI @hr (aI @ht (aI @hK0 oT))) oT (hq := ?_)
        refine AX.sdregWV [3, 7] (aI @hql (aI @hg oT)) (aI ca oT) (hq := ?_)
        rw [hset]
        refine AX.sregWV [6] (aI @hql2 (aI @htk2 (aI @hck2 (aI @hfq2 (aI @hhq2 (aI @nleR oT)))))) (aI cY (aI cal oT)) (hq := ?_)
        refine AX.ret (And.intro (Or.inl rfl) ?_)
        exact Done.one rfl rfl rfl rfl
  · have e : K = 0 := by omega
    subst e
    refine AX.sregAV [1, 3, 7, 9, 10, 53] (hq := ?_)
    refine AX.condF (h := ?_)
    refine AX.keepA [] (h := ?_)
    refine AX.skip ?_
    try simp only [zn1,zn2,zn3,zn4,zn5,zn6,zn7,zn8,if_true]
    refine AX.sregCV [6] (aI cal oT) (hq := ?_)
    refine AX.ret (And.intro (Or.inl rfl) ?_)
    exact Done.one rfl rfl rfl rfl
theorem chainOnly_ok (R1 C1 R2 C2 : Int) (xs ys : List RT) (z : Int) (s : Bool) (a b : List Nat) (h1 : bd R1) (h2 : bd C1) (h3 : bd R2) (h4 : bd C2) (hx : okRT xs) (hy : okRT ys) (lx : xs.length < 2 ^ 62) (ly : ys.length < 2 ^ 62) (hz : bd z) (ga : Dg a) (gb : Dg b) (la : a.length < 2 ^ 62) (lb : b.length < 2 ^ 62) :
    PCall Tryz.prog 13 [.agg [.i .i64 R1, .i .i64 C1, .sl (xs.map fR), .i .i64 R2, .i .i64 C2, .sl (ys.map fR)], .i .i64 z, rR s a b] (.b true) [] := by
  obtain ⟨c', S', cf, hf, _, _, _⟩ := few_all R1 C1 R2 C2 xs ys [] h1 h2 h3 h4 hx hy (fun x h => nomatch h) lx ly (by decide)
  cases hf with
  | shape R1' C1' R2' C2' xs' ys' g1 g2 g3 g4 hx' hy' lx' ly' hno =>
    exact only_not _ _ R1 C1 R2 C2 _ _ rfl R1' C1' R2' C2' _ _ z s a b cf (cright_not R1' C1' R2' C2' xs' ys' g1 g2 g3 g4 hx' hy' (by omega) (by omega) hno) (r20right_not R1' C1' R2' C2' xs' ys' g1 g2 g3 g4 hx' hy' (by omega) (by omega) hno)
  | rows n m A B hn hm hA hB hC =>
    have c1 := cright_ok n m 3 hn hm A B hA hB (by decide) (by decide)
    have c2 := r20right_ok n m 3 hn hm A B hA hB (by decide) (by decide)
    rw [hC] at c1 c2
    exact only_not _ _ R1 C1 R2 C2 _ _ rfl n n n m _ _ z s a b cf c1 c2
  | ok n m A B hn hm hA hB hC => exact only_ok _ _ R1 C1 R2 C2 _ _ rfl n m A B hn hm hA hB hC z hz s a b ga gb la lb cf
end Go.Proofs.YtepkjfnffbdcoaaGreat
