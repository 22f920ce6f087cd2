/- The reference's chains: Holds. -/
import Derived.Test.YtepkjfnffbdcoaaGreatRfI
import Derived.Test.YtepkjfnffbdcoaaGreatRfG
import Derived.Test.YtepkjfnffbdcoaaGreatChO
set_option linter.unusedVariables false
set_option maxRecDepth 20000
set_option linter.unusedSimpArgs false
namespace Go.Proofs.YtepkjfnffbdcoaaGreat
open Go Go.Proofs.YtepkjfnffbdcoaaGreat.Lift
attribute [local irreducible] Lift.PCall Lift.HCall
set_option maxHeartbeats 4000000 in
theorem rhold_not (R1 C1 R2 C2 : Int) (x y : List V) (R C : Int) (els : List V) (hr : PCall Tryz.prog 42 [.agg [.i .i64 R1, .i .i64 C1, .sl x, .i .i64 R2, .i .i64 C2, .sl y]] (.b false) []) :
    PCall Tryz.prog 54 [.agg [.i .i64 R1, .i .i64 C1, .sl x, .i .i64 R2, .i .i64 C2, .sl y], mV R C els] (.b false) [] := by
  refine PCall.of_ax Tryz.call54 Tryz.func54 rfl (by simp [Tryz.ntmps54]) fun O w => ?_
  simp only [Tryz.ntmps54, Tryz.results54, argFr]
  unfold mV
  refine AX.sregAV [2, 3] (hq := ?_)
  refine AX.seq ?_
  refine AX.sregCV [2, 3, 35] (aI hr oT) (hq := ?_)
  refine AX.condT (h := ?_)
  refine AX.sregAV [4] (hq := ?_)
  refine AX.ret (And.intro (Or.inl rfl) ?_)
  exact Done.one rfl rfl rfl rfl
set_option maxHeartbeats 4000000 in
theorem rhold_x (R1 C1 R2 C2 : Int) (x y : List V) (R C : Int) (els : List V) (hr : PCall Tryz.prog 42 [.agg [.i .i64 R1, .i .i64 C1, .sl x, .i .i64 R2, .i .i64 C2, .sl y]] (.b true) []) (hx : PCall Tryz.prog 84 [mV R C els] (.b false) []) :
    PCall Tryz.prog 54 [.agg [.i .i64 R1, .i .i64 C1, .sl x, .i .i64 R2, .i .i64 C2, .sl y], mV R C els] (.b false) [] := by
  refine PCall.of_ax Tryz.call54 Tryz.func54 rfl (by simp [Tryz.ntmps54]) fun O w => ?_
  simp only [Tryz.ntmps54, Tryz.results54, argFr]
  unfold mV at *
  refine AX.sregAV [2, 3] (hq := ?_)
  refine AX.seq ?_
  refine AX.sregCV [2, 3, 35] (aI hr (aI hx oT)) (hq := ?_)
  refine AX.condT (h := ?_)
  refine AX.sregAV [4] (hq := ?_)
  refine AX.ret (And.intro (Or.inl rfl) ?_)
  exact Done.one rfl rfl rfl rfl
set_option maxHeartbeats 4000000 in
theorem rhold_shape (R1 C1 R2 C2 : Int) (x y : List V) (R C : Int) (els : List V) (hr : PCall Tryz.prog 42 [.agg [.i .i64 R1, .i .i64 C1, .sl x, .i .i64 R2, .i .i64 C2, .sl y]] (.b true) []) (hx : PCall Tryz.prog 84 [mV R C els] (.b true) []) (hs : R ≠ R1 ∨ C ≠ C2) :
    PCall Tryz.prog 54 [.agg [.i .i64 R1, .i .i64 C1, .sl x, .i .i64 R2, .i .i64 C2, .sl y], mV R C els] (.b false) [] := by
  refine PCall.of_ax Tryz.call54 Tryz.func54 rfl (by simp [Tryz.ntmps54]) fun O w => ?_
  simp only [Tryz.ntmps54, Tryz.results54, argFr]
  unfold mV at *
  refine AX.sregAV [2, 3] (hq := ?_)
  refine AX.seq ?_
  by_cases h1 : R = R1
  · have h2 : ¬ C = C2 := hs.resolve_left fun h => h h1
    subst h1
    refine AX.sregWV [2, 3, 35] (aI @h2 oT) (aI hr (aI hx oT)) (hq := ?_)
    refine AX.condT (h := ?_)
    refine AX.sregAV [4] (hq := ?_)
    refine AX.ret (And.intro (Or.inl rfl) ?_)
    exact Done.one rfl rfl rfl rfl
  · refine AX.sregWV [2, 3, 35] (aI @h1 oT) (aI hr (aI hx oT)) (hq := ?_)
    refine AX.condT (h := ?_)
    refine AX.sregAV [4] (hq := ?_)
    refine AX.ret (And.intro (Or.inl rfl) ?_)
    exact Done.one rfl rfl rfl rfl
set_option maxHeartbeats 16000000 in
theorem rhold_ok (n m L : Nat) (hn : n ≤ 60) (hm : m ≤ 60) (A B X : Mx) (hC : isC n m A B = true) (hA : ∀ i k, i < n → k < n → rL (A i k) ≤ L) (hB : ∀ i k, i < n → k < m → rL (B i k) ≤ L) (hX : ∀ i k, i < n → k < m → rL (X i k) ≤ L) (hL1 : 1 ≤ L) (hL : 120 * (2 * L + 1) + 2 < 2 ^ 33) :
    PCall Tryz.prog 54 [cV n m A B, qM n m X] (.b (holdB n m A B X)) [] := by
  have cr := r20right_ok n m L hn hm A B hA hB hL1 (by omega)
  rw [hC] at cr
  have cx := wright_q n m hn hm X (fun i k hi hk => by have := hX i k hi hk; omega)
  have crch := rreaches_ok n m L hn hm A B hC hA hB hL1 (by omega)
  have cs : ∀ i k, i < n → k < m → PCall Tryz.prog 31 [.agg [.b (decide ((X i k).num < 0)), dg (digits (X i k).num.natAbs), dg (digits (X i k).den)]] (.i .i64 (sgnR (X i k))) [] := fun i k hi hk => psign_ok (IsQ.of (hX i k hi hk)) (by omega)
  have ixX := fun (i j : Nat) (hi : i < n) (hj : j < m) => fun x y => effIxM (x := x) (y := y) X hi hj rfl
  have lm : ∀ i k, i < n → k < m → rL (mulM n A X i k) ≤ 60 * (2 * L + 1) + 1 := fun i k hi hk => by
    have h1 := mulM_len (A := A) (B := X) (i := i) (k := k) hL1 (fun j hj => hA i j hi hj) (fun j hj => hX j k hj hk) n (Nat.le_refl _)
    have h2 : n * (2 * L + 1) ≤ 60 * (2 * L + 1) := Nat.mul_le_mul_right _ hn
    omega
  have la : ∀ i k, i < n → k < m → rL (addM (mulM n A X) B i k) ≤ 120 * (2 * L + 1) + 2 := fun i k hi hk => by
    have h1 := lm i k hi hk
    have h2 := hB i k hi hk
    have h3 := rL_add _ _ h1 h2
    show rL (mulM n A X i k + B i k) ≤ _
    omega
  have cm := wmul_ok n n m L hn hn hm A X hA hX hL1 (by omega)
  have cad := wadd_ok n m (60 * (2 * L + 1) + 1) hn hm (mulM n A X) B lm (fun i k hi hk => by have := hB i k hi hk; omega) (by omega) (by omega)
  have hnm : n * m ≤ 60 * 60 := Nat.mul_le_mul hn hm
  have csm := wsame_ok n m n m (mcells m X (n * m)) (mcells m (addM (mulM n A X) B) (n * m)) (120 * (2 * L + 1) + 2) (mcells_len fun i k hi hk => by have := hX i k hi hk; omega) (mcells_len la) (by omega) (by omega) (by rw [mcells_length]; omega) (by rw [mcells_length]; omega)
  have hno := fun i k (hi : i < n) (hk : k < m) => holdB_no (A := A) (B := B) (X := X) hi hk
  have hyes := holdB_yes (n := n) (m := m) (A := A) (B := B) (X := X)
  have hlr := bl_length n (rchB n m A B)
  have hgr := fun i (hi : i < n) => bl_get (rchB n m A B) hi
  obtain ⟨r, hr⟩ : ∃ r, rchB n m A B = r := ⟨_, rfl⟩
  rw [hr] at hno hyes hlr hgr crch
  generalize decide ((n : Int) = n ∧ (m : Int) = m ∧ mcells m X (n * m) = mcells m (addM (mulM n A X) B) (n * m)) = fin at *
  generalize holdB n m A B X = res at *
  clear hA hB hX lm la hr hC
  unfold qM mV cV at *
  generalize (mcells m (addM (mulM n A X) B) (n * m)).map rV = Sc at *
  generalize (mcells m (mulM n A X) (n * m)).map rV = Mc at *
  generalize (mcells m X (n * m)).map rV = Xc at *
  generalize (mcells n A (n * n)).map rV = Ac at *
  generalize (mcells m B (n * m)).map rV = Bc at *
  generalize bl n r = Rw at *
  refine PCall.of_ax Tryz.call54 Tryz.func54 rfl (by simp [Tryz.ntmps54]) fun O w => ?_
  simp only [Tryz.ntmps54, Tryz.results54, argFr]
  refine AX.sregAV [2, 3] (hq := ?_)
  refine AX.seq ?_
  refine AX.sregCV [2, 3, 35] (aI cr (aI cx oT)) (hq := ?_)
  refine AX.condF (h := ?_)
  refine AX.keepA [2, 3] (h := ?_)
  refine AX.skip ?_
  try simp only [zn1,zn2,zn3,zn4,zn5,zn6,zn7,zn8,if_true]
  refine AX.sregCV [2, 3, 5] (aI crch oT) (hq := ?_)
  refine AX.seq ?_
  refine AX.sregWV [2, 3, 5, 39, 40] (aI @hlr oT) oT (hq := ?_)
  refine AX.weaken id (st' := ⟨[(40, .i .i64 (0 : Nat)), (39, .i .i64 n), (5, .sl Rw), (3, .ptr 1 0), (2, .ptr 0 0)], [(1, ⟨32, [.i .i64 n, .i .i64 m, .sl Xc]⟩), (0, ⟨36, [.i .i64 n, .i .i64 n, .sl Ac, .i .i64 n, .i .i64 m, .sl Bc]⟩)], 2⟩)
    leQ4
    ?_
  refine AX.block ?_
  refine AX.loop (fun N st => ∃ i : Nat, i ≤ n ∧ N = n - i ∧ (∀ i' k, i' < i → k < m → r i' = false → X i' k = 0) ∧ st = ⟨[(40, .i .i64 i), (39, .i .i64 n), (5, .sl Rw), (3, .ptr 1 0), (2, .ptr 0 0)], [(1, ⟨32, [.i .i64 n, .i .i64 m, .sl Xc]⟩), (0, ⟨36, [.i .i64 n, .i .i64 n, .sl Ac, .i .i64 n, .i .i64 m, .sl Bc]⟩)], 2⟩) n ⟨0, Nat.zero_le _, rfl, (fun i' k h => absurd h (Nat.not_lt_zero _)), rfl⟩ ?_
  rintro N st ⟨i, hi, rfl, hP, rfl⟩
  by_cases h1 : i < n
  · have hgi := hgr i h1
    obtain ⟨ri, hri⟩ : ∃ b, r i = b := ⟨_, rfl⟩
    rw [hri] at hgi
    clear hgr cm cad csm hyes crch cr cx
    refine AX.sregAV [2, 3, 5, 39, 40, 41] (hq := ?_)
    refine AX.seq ?_
    refine AX.condT (h := ?_)
    refine AX.keepA [2, 3, 5, 39, 40] (h := ?_)
    refine AX.skip ?_
    try simp only [zn1,zn2,zn3,zn4,zn5,zn6,zn7,zn8,if_true]
    refine AX.seq ?_
    refine AX.block ?_
    refine AX.sregAV [2, 3, 5, 6, 39, 40] (hq := ?_)
    refine AX.sregAV [2, 3, 5, 6, 7, 39, 40] (hq := ?_)
    refine AX.weaken id (st' := ⟨[(40, .i .i64 i), (39, .i .i64 n), (7, .i .i64 (0 : Nat)), (6, .i .i64 i), (5, .sl Rw), (3, .ptr 1 0), (2, .ptr 0 0)], [(1, ⟨32, [.i .i64 n, .i .i64 m, .sl Xc]⟩), (0, ⟨36, [.i .i64 n, .i .i64 n, .sl Ac, .i .i64 n, .i .i64 m, .sl Bc]⟩)], 2⟩)
      leQ4
      ?_
    refine AX.block ?_
    refine AX.loop (fun N st => ∃ k : Nat, k ≤ m ∧ N = m - k ∧ (∀ k', k' < k → ri = false → X i k' = 0) ∧ st = ⟨[(40, .i .i64 i), (39, .i .i64 n), (7, .i .i64 k), (6, .i .i64 i), (5, .sl Rw), (3, .ptr 1 0), (2, .ptr 0 0)], [(1, ⟨32, [.i .i64 n, .i .i64 m, .sl Xc]⟩), (0, ⟨36, [.i .i64 n, .i .i64 n, .sl Ac, .i .i64 n, .i .i64 m, .sl Bc]⟩)], 2⟩) m ⟨0, Nat.zero_le _, rfl, (fun k h => absurd h (Nat.not_lt_zero _)), rfl⟩ ?_
    rintro N st ⟨k, hk, rfl, hQ, rfl⟩
    refine AX.seq ?_
    by_cases h2 : k < m
    · have hc := cs i k h1 h2
      have ix := ixX i k h1 h2
      have hno := hno i k h1 h2
      rw [hri] at hno
      have hz0 := sgnR_eq_zero (q := X i k)
      have hnext : (ri = false → X i k = 0) → ∀ k', k' < k + 1 → ri = false → X i k' = 0 := fun h k' hk' hr => by
        by_cases e : k' = k
        · subst e; exact h hr
        · exact hQ k' (by omega) hr
      have m1 : (i : Int) * (m : Int) = ((i * m : Nat) : Int) := (Int.natCast_mul i m).symm
      have a1 : ((i * m : Nat) : Int) + (k : Int) = ((i * m + k : Nat) : Int) := (Int.natCast_add _ _).symm
      have b1 : i * m ≤ 60 * 60 := Nat.mul_le_mul (by omega) hm
      clear cs ixX
      cases ri
      · by_cases hz : X i k = 0
        · have ez := hz0.2 hz
          have hQ' := hnext fun _ => hz
          clear hz0 hno hnext hQ
          rw [ez] at hc
          generalize X i k = p at *
          generalize i * m + k = z at *
          generalize i * m = x1 at *
          refine AX.sregAV [2, 3, 5, 6, 7, 39, 40, 46] (hq := ?_)
          refine AX.condT (h := ?_)
          refine AX.keepA [2, 3, 5, 6, 7, 39, 40] (h := ?_)
          refine AX.skip ?_
          try simp only [zn1,zn2,zn3,zn4,zn5,zn6,zn7,zn8,if_true]
          refine AX.seq ?_
          refine AX.block ?_
          refine AX.sregEV [2, 3, 5, 6, 7, 39, 40, 67] (aI @hlr (aI @hgi (aI @m1 (aI @a1 oT)))) (aI hc oT) (aI ix oT) (hq := ?_)
          refine AX.condF (h := ?_)
          refine AX.keepA [2, 3, 5, 6, 7, 39, 40] (h := ?_)
          refine AX.skip ?_
          try simp only [zn1,zn2,zn3,zn4,zn5,zn6,zn7,zn8,if_true]
          refine AX.regWV [2, 3, 5, 6, 7, 39, 40] (aI @lit_add oT) oT (hq := ?_)
          try simp only [zn1,zn2,zn3,zn4,zn5,zn6,zn7,zn8,if_true]
          refine ⟨_, _, id, ?_,
            leQ4
            , ⟨k + 1, by omega, rfl, (fun k' h _ => hQ' k' h rfl), rfl⟩⟩
          omega
        · have ez : ¬ sgnR (X i k) = 0 := fun e => hz (hz0.1 e)
          rw [hno rfl hz]
          clear hz0 hno hnext hQ
          generalize sgnR (X i k) = sg at *
          generalize X i k = p at *
          generalize i * m + k = z at *
          generalize i * m = x1 at *
          refine AX.sregAV [2, 3, 5, 6, 7, 39, 40, 46] (hq := ?_)
          refine AX.condT (h := ?_)
          refine AX.keepA [2, 3, 5, 6, 7, 39, 40] (h := ?_)
          refine AX.skip ?_
          try simp only [zn1,zn2,zn3,zn4,zn5,zn6,zn7,zn8,if_true]
          refine AX.seq ?_
          refine AX.block ?_
          refine AX.sregEV [2, 3, 5, 6, 7, 39, 40, 67] (aI @hlr (aI @hgi (aI @m1 (aI @a1 (aI @ez oT))))) (aI hc oT) (aI ix oT) (hq := ?_)
          refine AX.condT (h := ?_)
          refine AX.sregAV [4] (hq := ?_)
          refine AX.ret (And.intro (Or.inl rfl) ?_)
          exact Done.one rfl rfl rfl rfl
      · refine AX.sregAV [2, 3, 5, 6, 7, 39, 40, 46] (hq := ?_)
        refine AX.condT (h := ?_)
        refine AX.keepA [2, 3, 5, 6, 7, 39, 40] (h := ?_)
        refine AX.skip ?_
        try simp only [zn1,zn2,zn3,zn4,zn5,zn6,zn7,zn8,if_true]
        refine AX.seq ?_
        refine AX.block ?_
        refine AX.sregWV [2, 3, 5, 6, 7, 39, 40, 67] (aI @hlr (aI @hgi oT)) oT (hq := ?_)
        refine AX.condF (h := ?_)
        refine AX.keepA [2, 3, 5, 6, 7, 39, 40] (h := ?_)
        refine AX.skip ?_
        try simp only [zn1,zn2,zn3,zn4,zn5,zn6,zn7,zn8,if_true]
        refine AX.regWV [2, 3, 5, 6, 7, 39, 40] (aI @lit_add oT) oT (hq := ?_)
        try simp only [zn1,zn2,zn3,zn4,zn5,zn6,zn7,zn8,if_true]
        refine ⟨_, _, id, ?_,
          leQ4
          , ⟨k + 1, by omega, rfl, (fun k' _ h => by first | cases h | exact h.elim), rfl⟩⟩
        omega
    · have e : k = m := by omega
      subst e
      refine AX.sregAV [2, 3, 5, 6, 7, 39, 40, 46] (hq := ?_)
      refine AX.condF (h := ?_)
      refine AX.exit ?_
      try simp only [zn1,zn2,zn3,zn4,zn5,zn6,zn7,zn8,if_true]
      refine AX.regWV [2, 3, 5, 39, 40] (aI @lit_add oT) oT (hq := ?_)
      try simp only [zn1,zn2,zn3,zn4,zn5,zn6,zn7,zn8,if_true]
      refine ⟨_, _, id, ?_,
        leQ4
        , ⟨i + 1, by omega, rfl, (fun i' k' hi' hk' hr' => by
            by_cases e : i' = i
            · subst e; exact hQ k' hk' (by rw [← hri]; exact hr')
            · exact hP i' k' (by omega) hk' hr'), rfl⟩⟩
      omega
  · have e : i = n := by omega
    subst e
    rw [hyes hP]
    clear hgr hno hyes cs ixX
    refine AX.sregAV [2, 3, 5, 39, 40, 41] (hq := ?_)
    refine AX.seq ?_
    refine AX.condF (h := ?_)
    refine AX.exit ?_
    try simp only [zn1,zn2,zn3,zn4,zn5,zn6,zn7,zn8,if_true]
    refine AX.sregCV [2, 3, 8] (aI cm oT) (hq := ?_)
    refine AX.sregCV [3, 10] (aI cad oT) (hq := ?_)
    refine AX.sregCV [4] (aI csm oT) (hq := ?_)
    refine AX.ret (And.intro (Or.inl rfl) ?_)
    exact Done.one rfl rfl rfl rfl
end Go.Proofs.YtepkjfnffbdcoaaGreat
