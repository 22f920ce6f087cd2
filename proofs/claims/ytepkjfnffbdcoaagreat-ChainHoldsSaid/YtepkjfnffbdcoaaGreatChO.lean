/- Chains: Holds. -/
import Derived.Test.YtepkjfnffbdcoaaGreatHI
import Derived.Test.YtepkjfnffbdcoaaGreatHL
set_option linter.unusedVariables false
set_option maxRecDepth 20000
set_option linter.unusedSimpArgs false
namespace Go.Proofs.YtepkjfnffbdcoaaGreat
open Go Go.Proofs.YtepkjfnffbdcoaaGreat.Lift
attribute [local irreducible] Lift.PCall Lift.HCall
/-- What Holds tells. -/
def Hold (n m : Nat) (A B X : Mx) : Prop := (∀ i k, i < n → k < m → rchB n m A B i = false → X i k = 0) ∧ mcells m X (n * m) = mcells m (addM (mulM n A X) B) (n * m)
noncomputable def holdB (n m : Nat) (A B X : Mx) : Bool := @decide (Hold n m A B X) (Classical.propDecidable _)
theorem holdB_iff {n m : Nat} {A B X : Mx} : holdB n m A B X = true ↔ Hold n m A B X := by
  unfold holdB
  exact @decide_eq_true_iff _ (Classical.propDecidable _)
theorem holdB_no {n m : Nat} {A B X : Mx} {i k : Nat} (hi : i < n) (hk : k < m) (hr : rchB n m A B i = false) (hx : X i k ≠ 0) : holdB n m A B X = false := by
  cases h : holdB n m A B X
  · rfl
  · exact absurd ((holdB_iff.1 h).1 i k hi hk hr) hx
theorem holdB_yes {n m : Nat} {A B X : Mx} (h : ∀ i k, i < n → k < m → rchB n m A B i = false → X i k = 0) : holdB n m A B X = decide (((n : Int) = n) ∧ ((m : Int) = m) ∧ mcells m X (n * m) = mcells m (addM (mulM n A X) B) (n * m)) := by
  by_cases h1 : mcells m X (n * m) = mcells m (addM (mulM n A X) B) (n * m)
  · rw [decide_eq_true ⟨rfl, rfl, h1⟩, holdB_iff]
    exact ⟨h, h1⟩
  · rw [decide_eq_false fun h' => h1 h'.2.2]
    cases h2 : holdB n m A B X
    · rfl
    · exact absurd (holdB_iff.1 h2).2 h1
theorem mcells_len {r c : Nat} {X : Mx} {L : Nat} (h : ∀ i k, i < r → k < c → rL (X i k) ≤ L) : ∀ q ∈ mcells c X (r * c), rL q ≤ L := by
  intro q hq
  obtain ⟨j, hj, rfl⟩ := List.mem_map.1 hq
  have hj : j < r * c := by simpa using hj
  have hc0 : 0 < c := Nat.pos_of_ne_zero fun e => by subst e; simp at hj
  exact h _ _ ((Nat.div_lt_iff_lt_mul hc0).2 hj) (Nat.mod_lt _ hc0)
set_option maxHeartbeats 4000000 in
theorem chold_not (R1 C1 R2 C2 : Int) (x y : List V) (R C : Int) (els : List V) (hr : PCall Tryz.prog 41 [.agg [.i .i64 R1, .i .i64 C1, .sl x, .i .i64 R2, .i .i64 C2, .sl y]] (.b false) []) :
    PCall Tryz.prog 53 [.agg [.i .i64 R1, .i .i64 C1, .sl x, .i .i64 R2, .i .i64 C2, .sl y], mV R C els] (.b false) [] := by
  refine PCall.of_ax Tryz.call53 Tryz.func53 rfl (by simp [Tryz.ntmps53]) fun O w => ?_
  simp only [Tryz.ntmps53, Tryz.results53, argFr]
  unfold mV
  refine AX.sregAV [2, 3] (hq := ?_)
  refine AX.seq ?_
  refine AX.sregCV [2, 3, 35] (aI hr oT) (hq := ?_)
  refine AX.condT (h := ?_)
  refine AX.sregAV [4] (hq := ?_)
  refine AX.ret (And.intro (Or.inl rfl) ?_)
  exact Done.one rfl rfl rfl rfl
set_option maxHeartbeats 4000000 in
theorem chold_x (R1 C1 R2 C2 : Int) (x y : List V) (R C : Int) (els : List V) (hr : PCall Tryz.prog 41 [.agg [.i .i64 R1, .i .i64 C1, .sl x, .i .i64 R2, .i .i64 C2, .sl y]] (.b true) []) (hx : PCall Tryz.prog 90 [mV R C els] (.b false) []) :
    PCall Tryz.prog 53 [.agg [.i .i64 R1, .i .i64 C1, .sl x, .i .i64 R2, .i .i64 C2, .sl y], mV R C els] (.b false) [] := by
  refine PCall.of_ax Tryz.call53 Tryz.func53 rfl (by simp [Tryz.ntmps53]) fun O w => ?_
  simp only [Tryz.ntmps53, Tryz.results53, argFr]
  unfold mV at *
  refine AX.sregAV [2, 3] (hq := ?_)
  refine AX.seq ?_
  refine AX.sregCV [2, 3, 35] (aI hr (aI hx oT)) (hq := ?_)
  refine AX.condT (h := ?_)
  refine AX.sregAV [4] (hq := ?_)
  refine AX.ret (And.intro (Or.inl rfl) ?_)
  exact Done.one rfl rfl rfl rfl
set_option maxHeartbeats 4000000 in
theorem chold_shape (R1 C1 R2 C2 : Int) (x y : List V) (R C : Int) (els : List V) (hr : PCall Tryz.prog 41 [.agg [.i .i64 R1, .i .i64 C1, .sl x, .i .i64 R2, .i .i64 C2, .sl y]] (.b true) []) (hx : PCall Tryz.prog 90 [mV R C els] (.b true) []) (hs : R ≠ R1 ∨ C ≠ C2) :
    PCall Tryz.prog 53 [.agg [.i .i64 R1, .i .i64 C1, .sl x, .i .i64 R2, .i .i64 C2, .sl y], mV R C els] (.b false) [] := by
  refine PCall.of_ax Tryz.call53 Tryz.func53 rfl (by simp [Tryz.ntmps53]) fun O w => ?_
  simp only [Tryz.ntmps53, Tryz.results53, argFr]
  unfold mV at *
  refine AX.sregAV [2, 3] (hq := ?_)
  refine AX.seq ?_
  by_cases h1 : R = R1
  · have h2 : ¬ C = C2 := hs.resolve_left fun h => h h1
    subst h1
    refine AX.sregWV [2, 3, 35] (aI @h2 oT) (aI hr (aI hx oT)) (hq := ?_)
    refine AX.condT (h := ?_)
    refine AX.sregAV [4] (hq := ?_)
    refine AX.ret (And.intro (Or.inl rfl) ?_)
    exact Done.one rfl rfl rfl rfl
  · refine AX.sregWV [2, 3, 35] (aI @h1 oT) (aI hr (aI hx oT)) (hq := ?_)
    refine AX.condT (h := ?_)
    refine AX.sregAV [4] (hq := ?_)
    refine AX.ret (And.intro (Or.inl rfl) ?_)
    exact Done.one rfl rfl rfl rfl
set_option maxHeartbeats 16000000 in
theorem chold_ok (n m L : Nat) (hn : n ≤ 60) (hm : m ≤ 60) (A B X : Mx) (hC : isC n m A B = true) (hA : ∀ i k, i < n → k < n → rL (A i k) ≤ L) (hB : ∀ i k, i < n → k < m → rL (B i k) ≤ L) (hX : ∀ i k, i < n → k < m → rL (X i k) ≤ L) (hL1 : 1 ≤ L) (hL : 120 * (2 * L + 1) + 2 < 2 ^ 33) :
    PCall Tryz.prog 53 [cV n m A B, qM n m X] (.b (holdB n m A B X)) [] := by
  have cr := cright_ok n m L hn hm A B hA hB hL1 (by omega)
  rw [hC] at cr
  have cx := mright_q n m hn hm X (fun i k hi hk => by have := hX i k hi hk; omega)
  have crch := reaches_ok n m L hn hm A B hC
  have hcell := fun (i k : Nat) (hi : i < n) (hk : k < m) => ccell_q hn hm X hi hk
  have lm : ∀ i k, i < n → k < m → rL (mulM n A X i k) ≤ 60 * (2 * L + 1) + 1 := fun i k hi hk => by
    have h1 := mulM_len (A := A) (B := X) (i := i) (k := k) hL1 (fun j hj => hA i j hi hj) (fun j hj => hX j k hj hk) n (Nat.le_refl _)
    have h2 : n * (2 * L + 1) ≤ 60 * (2 * L + 1) := Nat.mul_le_mul_right _ hn
    omega
  have la : ∀ i k, i < n → k < m → rL (addM (mulM n A X) B i k) ≤ 120 * (2 * L + 1) + 2 := fun i k hi hk => by
    have h1 := lm i k hi hk
    have h2 := hB i k hi hk
    have h3 := rL_add _ _ h1 h2
    show rL (mulM n A X i k + B i k) ≤ _
    omega
  have cm := mmul_ok n n m L hn hn hm A X hA hX hL1 (by omega)
  have cad := madd_ok n m (60 * (2 * L + 1) + 1) hn hm (mulM n A X) B lm (fun i k hi hk => by have := hB i k hi hk; omega) (by omega)
  have hnm : n * m ≤ 60 * 60 := Nat.mul_le_mul hn hm
  have csm := msame_ok n m n m (mcells m X (n * m)) (mcells m (addM (mulM n A X) B) (n * m)) (120 * (2 * L + 1) + 2) (mcells_len fun i k hi hk => by have := hX i k hi hk; omega) (mcells_len la) (by omega) (by omega) (by rw [mcells_length]; omega) (by rw [mcells_length]; omega)
  have hno := fun i k (hi : i < n) (hk : k < m) => holdB_no (A := A) (B := B) (X := X) hi hk
  have hyes := holdB_yes (n := n) (m := m) (A := A) (B := B) (X := X)
  have hlr := bl_length n (rchB n m A B)
  have hgr := fun i (hi : i < n) => bl_get (rchB n m A B) hi
  obtain ⟨r, hr⟩ : ∃ r, rchB n m A B = r := ⟨_, rfl⟩
  rw [hr] at hno hyes hlr hgr crch
  generalize decide ((n : Int) = n ∧ (m : Int) = m ∧ mcells m X (n * m) = mcells m (addM (mulM n A X) B) (n * m)) = fin at *
  generalize holdB n m A B X = res at *
  clear hA hB hX lm la hr hC
  unfold qM mV cV at *
  generalize (mcells m (addM (mulM n A X) B) (n * m)).map rV = Sc at *
  generalize (mcells m (mulM n A X) (n * m)).map rV = Mc at *
  generalize (mcells m X (n * m)).map rV = Xc at *
  generalize (mcells n A (n * n)).map rV = Ac at *
  generalize (mcells m B (n * m)).map rV = Bc at *
  generalize bl n r = Rw at *
  refine PCall.of_ax Tryz.call53 Tryz.func53 rfl (by simp [Tryz.ntmps53]) fun O w => ?_
  simp only [Tryz.ntmps53, Tryz.results53, argFr]
  refine AX.sregAV [2, 3] (hq := ?_)
  refine AX.seq ?_
  refine AX.sregCV [2, 3, 35] (aI cr (aI cx oT)) (hq := ?_)
  refine AX.condF (h := ?_)
  refine AX.keepA [2, 3] (h := ?_)
  refine AX.skip ?_
  try simp only [zn1,zn2,zn3,zn4,zn5,zn6,zn7,zn8,if_true]
  refine AX.seq ?_
  refine AX.sregWV [2, 3, 37, 38, 39] (aI @hlr oT) (aI crch oT) (hq := ?_)
  refine AX.weaken id (st' := ⟨[(39, .i .i64 (0 : Nat)), (38, .i .i64 n), (37, .sl Rw), (3, .ptr 1 0), (2, .ptr 0 0)], [(1, ⟨24, [.i .i64 n, .i .i64 m, .sl Xc]⟩), (0, ⟨26, [.i .i64 n, .i .i64 n, .sl Ac, .i .i64 n, .i .i64 m, .sl Bc]⟩)], 2⟩)
    leQ4
    ?_
  refine AX.block ?_
  refine AX.loop (fun N st => ∃ i : Nat, i ≤ n ∧ N = n - i ∧ (∀ i' k, i' < i → k < m → r i' = false → X i' k = 0) ∧ st = ⟨[(39, .i .i64 i), (38, .i .i64 n), (37, .sl Rw), (3, .ptr 1 0), (2, .ptr 0 0)], [(1, ⟨24, [.i .i64 n, .i .i64 m, .sl Xc]⟩), (0, ⟨26, [.i .i64 n, .i .i64 n, .sl Ac, .i .i64 n, .i .i64 m, .sl Bc]⟩)], 2⟩) n ⟨0, Nat.zero_le _, rfl, (fun i' k h => absurd h (Nat.not_lt_zero _)), rfl⟩ ?_
  rintro N st ⟨i, hi, rfl, hP, rfl⟩
  by_cases h1 : i < n
  · have hgi := hgr i h1
    obtain ⟨ri, hri⟩ : ∃ b, r i = b := ⟨_, rfl⟩
    rw [hri] at hgi
    clear hgr cm cad csm hyes crch cr cx
    refine AX.sregAV [2, 3, 37, 38, 39, 40] (hq := ?_)
    refine AX.seq ?_
    refine AX.condT (h := ?_)
    refine AX.keepA [2, 3, 37, 38, 39] (h := ?_)
    refine AX.skip ?_
    try simp only [zn1,zn2,zn3,zn4,zn5,zn6,zn7,zn8,if_true]
    refine AX.seq ?_
    refine AX.block ?_
    refine AX.sregWV [2, 3, 5, 6, 37, 38, 39] (aI @hlr (aI @hgi oT)) oT (hq := ?_)
    refine AX.sregAV [2, 3, 5, 6, 37, 38, 39, 45, 46] (hq := ?_)
    refine AX.weaken id (st' := ⟨[(46, .i .i64 (0 : Nat)), (45, .i .i64 m), (39, .i .i64 i), (38, .i .i64 n), (37, .sl Rw), (6, .b ri), (5, .i .i64 i), (3, .ptr 1 0), (2, .ptr 0 0)], [(1, ⟨24, [.i .i64 n, .i .i64 m, .sl Xc]⟩), (0, ⟨26, [.i .i64 n, .i .i64 n, .sl Ac, .i .i64 n, .i .i64 m, .sl Bc]⟩)], 2⟩)
      leQ4
      ?_
    refine AX.block ?_
    refine AX.loop (fun N st => ∃ k : Nat, k ≤ m ∧ N = m - k ∧ (∀ k', k' < k → ri = false → X i k' = 0) ∧ st = ⟨[(46, .i .i64 k), (45, .i .i64 m), (39, .i .i64 i), (38, .i .i64 n), (37, .sl Rw), (6, .b ri), (5, .i .i64 i), (3, .ptr 1 0), (2, .ptr 0 0)], [(1, ⟨24, [.i .i64 n, .i .i64 m, .sl Xc]⟩), (0, ⟨26, [.i .i64 n, .i .i64 n, .sl Ac, .i .i64 n, .i .i64 m, .sl Bc]⟩)], 2⟩) m ⟨0, Nat.zero_le _, rfl, (fun k h => absurd h (Nat.not_lt_zero _)), rfl⟩ ?_
    rintro N st ⟨k, hk, rfl, hQ, rfl⟩
    by_cases h2 : k < m
    · have hc := hcell i k h1 h2
      have nz := num0 (q := X i k)
      have hno := hno i k h1 h2
      rw [hri] at hno
      have hnext : (ri = false → X i k = 0) → ∀ k', k' < k + 1 → ri = false → X i k' = 0 := fun h k' hk' hr => by
        by_cases e : k' = k
        · subst e; exact h hr
        · exact hQ k' (by omega) hr
      clear hcell
      cases ri
      · by_cases hz : X i k = 0
        · have ez := nz.2 hz
          have hQ' := hnext fun _ => hz
          clear nz hno hnext hQ
          generalize X i k = p at *
          refine AX.sregAV [2, 3, 5, 6, 37, 38, 39, 45, 46, 47] (hq := ?_)
          refine AX.seq ?_
          refine AX.condT (h := ?_)
          refine AX.keepA [2, 3, 5, 6, 37, 38, 39, 45, 46] (h := ?_)
          refine AX.skip ?_
          try simp only [zn1,zn2,zn3,zn4,zn5,zn6,zn7,zn8,if_true]
          refine AX.seq ?_
          refine AX.block ?_
          refine AX.sregAV [2, 3, 5, 6, 7, 37, 38, 39, 45, 46] (hq := ?_)
          refine AX.sregWV [2, 3, 5, 6, 37, 38, 39, 45, 46, 59] (aI @ez oT) (aI hc oT) (hq := ?_)
          refine AX.condF (h := ?_)
          refine AX.keepA [2, 3, 5, 6, 37, 38, 39, 45, 46] (h := ?_)
          refine AX.skip ?_
          try simp only [zn1,zn2,zn3,zn4,zn5,zn6,zn7,zn8,if_true]
          refine AX.regWV [2, 3, 5, 6, 37, 38, 39, 45, 46] (aI @lit_add oT) oT (hq := ?_)
          try simp only [zn1,zn2,zn3,zn4,zn5,zn6,zn7,zn8,if_true]
          refine ⟨_, _, id, ?_,
            leQ4
            , ⟨k + 1, by omega, rfl, (fun k' h _ => hQ' k' h rfl), rfl⟩⟩
          omega
        · have ez : 0 < (digits (X i k).num.natAbs).length := Nat.pos_of_ne_zero fun e => hz (nz.1 e)
          rw [hno rfl hz]
          clear nz hno hnext hQ
          generalize X i k = p at *
          refine AX.sregAV [2, 3, 5, 6, 37, 38, 39, 45, 46, 47] (hq := ?_)
          refine AX.seq ?_
          refine AX.condT (h := ?_)
          refine AX.keepA [2, 3, 5, 6, 37, 38, 39, 45, 46] (h := ?_)
          refine AX.skip ?_
          try simp only [zn1,zn2,zn3,zn4,zn5,zn6,zn7,zn8,if_true]
          refine AX.seq ?_
          refine AX.block ?_
          refine AX.sregAV [2, 3, 5, 6, 7, 37, 38, 39, 45, 46] (hq := ?_)
          refine AX.sregCV [2, 3, 5, 6, 37, 38, 39, 45, 46, 59] (aI hc oT) (hq := ?_)
          refine AX.condT (h := ?_)
          refine AX.sregAV [4] (hq := ?_)
          refine AX.ret (And.intro (Or.inl rfl) ?_)
          exact Done.one rfl rfl rfl rfl
      · refine AX.sregAV [2, 3, 5, 6, 37, 38, 39, 45, 46, 47] (hq := ?_)
        refine AX.seq ?_
        refine AX.condT (h := ?_)
        refine AX.keepA [2, 3, 5, 6, 37, 38, 39, 45, 46] (h := ?_)
        refine AX.skip ?_
        try simp only [zn1,zn2,zn3,zn4,zn5,zn6,zn7,zn8,if_true]
        refine AX.seq ?_
        refine AX.block ?_
        refine AX.sregAV [2, 3, 5, 6, 7, 37, 38, 39, 45, 46] (hq := ?_)
        refine AX.sregAV [2, 3, 5, 6, 37, 38, 39, 45, 46, 59] (hq := ?_)
        refine AX.condF (h := ?_)
        refine AX.keepA [2, 3, 5, 6, 37, 38, 39, 45, 46] (h := ?_)
        refine AX.skip ?_
        try simp only [zn1,zn2,zn3,zn4,zn5,zn6,zn7,zn8,if_true]
        refine AX.regWV [2, 3, 5, 6, 37, 38, 39, 45, 46] (aI @lit_add oT) oT (hq := ?_)
        try simp only [zn1,zn2,zn3,zn4,zn5,zn6,zn7,zn8,if_true]
        refine ⟨_, _, id, ?_,
          leQ4
          , ⟨k + 1, by omega, rfl, (fun k' _ h => by first | cases h | exact h.elim), rfl⟩⟩
        omega
    · have e : k = m := by omega
      subst e
      refine AX.sregAV [2, 3, 5, 6, 37, 38, 39, 45, 46, 47] (hq := ?_)
      refine AX.seq ?_
      refine AX.condF (h := ?_)
      refine AX.exit ?_
      try simp only [zn1,zn2,zn3,zn4,zn5,zn6,zn7,zn8,if_true]
      refine AX.regWV [2, 3, 37, 38, 39] (aI @lit_add oT) oT (hq := ?_)
      try simp only [zn1,zn2,zn3,zn4,zn5,zn6,zn7,zn8,if_true]
      refine ⟨_, _, id, ?_,
        leQ4
        , ⟨i + 1, by omega, rfl, (fun i' k' hi' hk' hr' => by
            by_cases e : i' = i
            · subst e; exact hQ k' hk' (by rw [← hri]; exact hr')
            · exact hP i' k' (by omega) hk' hr'), rfl⟩⟩
      omega
  · have e : i = n := by omega
    subst e
    rw [hyes hP]
    clear hgr hno hyes hcell
    refine AX.sregAV [2, 3, 37, 38, 39, 40] (hq := ?_)
    refine AX.seq ?_
    refine AX.condF (h := ?_)
    refine AX.exit ?_
    try simp only [zn1,zn2,zn3,zn4,zn5,zn6,zn7,zn8,if_true]
    refine AX.sregCV [2, 3, 8, 9] (aI cm oT) (hq := ?_)
    refine AX.sregCV [3, 9, 10, 11] (aI cad oT) (hq := ?_)
    refine AX.sregCV [4] (aI csm oT) (hq := ?_)
    refine AX.ret (And.intro (Or.inl rfl) ?_)
    exact Done.one rfl rfl rfl rfl
end Go.Proofs.YtepkjfnffbdcoaaGreat
