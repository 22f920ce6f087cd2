/- Statements about chains: ChainRows. -/
import Derived.Test.YtepkjfnffbdcoaaGreatChL
import Derived.Test.YtepkjfnffbdcoaaGreatLawD3
set_option linter.unusedVariables false
set_option maxRecDepth 20000
set_option linter.unusedSimpArgs false
namespace Go.Proofs.YtepkjfnffbdcoaaGreat
open Go Go.Proofs.YtepkjfnffbdcoaaGreat.Lift
attribute [local irreducible] Lift.PCall Lift.HCall
/-! ### The plain law -/
theorem cntF_sub {f g : Nat → Bool} : ∀ n, (∀ j, j < n → f j = true → g j = true) → cntF n g ≤ cntF n f ∧ ((∃ j, j < n ∧ g j = true ∧ f j = false) → cntF n g < cntF n f) := by
  intro n
  induction n with
  | zero => exact fun _ => ⟨Nat.le_refl _, fun ⟨j, h, _⟩ => absurd h (Nat.not_lt_zero _)⟩
  | succ n ih =>
    intro h
    obtain ⟨h1, h2⟩ := ih fun j hj => h j (by omega)
    unfold cntF
    have h3 := h n (by omega)
    refine ⟨?_, fun ⟨j, hj, hg, hf⟩ => ?_⟩
    · cases hf : f n <;> cases hg : g n
      · exact Nat.add_le_add_right h1 _
      · simp; omega
      · rw [h3 hf] at hg; cases hg
      · exact Nat.add_le_add_right h1 _
    · by_cases e : j = n
      · subst e
        rw [hg, hf]
        simp
        omega
      · have := h2 ⟨j, by omega, hg, hf⟩
        cases hf : f n <;> cases hg : g n
        · simp; omega
        · simp; omega
        · rw [h3 hf] at hg; cases hg
        · simp; omega
/-- A state that meets no exit comes to a closed class. -/
theorem to_closed {n m : Nat} {A B : Mx} : ∀ (d i : Nat), i < n → ¬ (chn n m A B).Rch i → n - cntF n (toB n A i) = d → ∃ k, k < n ∧ ¬ (chn n m A B).Rch k ∧ ∀ j, To n A k j → To n A j k := by
  intro d
  induction d using Nat.strongRecOn with
  | ind d ih =>
    intro i hi hr hd
    by_cases h : ∀ j, To n A i j → To n A j i
    · exact ⟨i, hi, hr, h⟩
    · obtain ⟨k, hk⟩ : ∃ k, ¬ (To n A i k → To n A k i) := Classical.not_forall.1 h
      obtain ⟨h1, h2⟩ : To n A i k ∧ ¬ To n A k i := ⟨Classical.byContradiction fun h => hk fun h' => absurd h' h, fun h => hk fun _ => h⟩
      have hkr : ¬ (chn n m A B).Rch k := fun h => hr (Chn.Rch.from h1 h hi)
      have hlt := (cntF_sub (f := toB n A k) (g := toB n A i) n fun j hj hf => toB_iff.2 (h1.trans (toB_iff.1 hf))).2 ⟨i, hi, toB_iff.2 (.self hi), by
        cases hb : toB n A k i
        · rfl
        · exact absurd (toB_iff.1 hb) h2⟩
      have hle := cntF_le n (toB n A k)
      exact ih (n - cntF n (toB n A k)) (by omega) k h1.lt hkr rfl
theorem least_of {P : Nat → Prop} : ∀ n, P n → ∃ k, P k ∧ ∀ j, P j → k ≤ j := by
  intro n
  induction n using Nat.strongRecOn with
  | ind n ih =>
    intro h
    by_cases h1 : ∃ k, k < n ∧ P k
    · obtain ⟨k, h2, h3⟩ := h1
      exact ih k h2 h3
    · exact ⟨n, h, fun j hj => Classical.byContradiction fun hlt => h1 ⟨j, by omega, hj⟩⟩
theorem okN_some {n m : Nat} {A B : Mx} {i : Nat} (hi : i < n) (hr : ¬ (chn n m A B).Rch i) : ∃ k, k < n ∧ okN (toB n A) (rchB n m A B) k n = true := by
  obtain ⟨k, hk, hkr, hcl⟩ := to_closed _ i hi hr rfl
  obtain ⟨l, hl, hmin⟩ := least_of (P := To n A k) k (.self hk)
  refine ⟨l, hl.lt, (okN_iff n).2 fun j hj hf => ?_⟩
  have h1 : To n A l j := toB_iff.1 hf
  have h2 : To n A k j := hl.trans h1
  refine ⟨toB_iff.2 ((hcl j h2).trans hl), ?_, hmin j h2⟩
  cases hb : rchB n m A B j
  · rfl
  · exact absurd (Chn.Rch.from h2 (rchB_iff.1 hb) hk) hkr
theorem shutL_nil {n : Nat} {F : Nat → Nat → Bool} {r : Nat → Bool} : ∀ i, (∀ k, k < i → okN F r k n = false) → shutL n F r i = [] := by
  intro i
  induction i with
  | zero => intro _; rfl
  | succ i ih =>
    intro h
    rw [shutL, if_neg (by rw [h i (by omega)]; exact Bool.false_ne_true)]
    exact ih fun k hk => h k (by omega)
theorem shutL_some {n : Nat} {F : Nat → Nat → Bool} {r : Nat → Bool} : ∀ i k, k < i → okN F r k n = true → 0 < (shutL n F r i).length := by
  intro i
  induction i with
  | zero => exact fun k h => absurd h (Nat.not_lt_zero _)
  | succ i ih =>
    intro k hk h
    unfold shutL
    by_cases e : k = i
    · subst e
      rw [if_pos h]
      simp
    · have := ih k (by omega) h
      split
      · rw [List.length_append]; omega
      · exact this
/-- Whether the first rows sum to 1. -/
def wN (m : Nat) (X : Mx) : Nat → Bool
  | 0 => true
  | i + 1 => wN m X i && decide (sumN m (X i) = 1)
theorem wN_iff {m : Nat} {X : Mx} (n : Nat) : wN m X n = true ↔ ∀ i, i < n → sumN m (X i) = 1 := by
  induction n with
  | zero => simp [wN]
  | succ n ih =>
    rw [wN, Bool.and_eq_true, ih, decide_eq_true_eq]
    constructor
    · rintro ⟨h1, h2⟩ i hi
      by_cases e : i = n
      · subst e; exact h2
      · exact h1 i (by omega)
    · exact fun h => ⟨fun i hi => h i (by omega), h n (by omega)⟩
theorem whole_iff {n m : Nat} {A B : Mx} (hC : isC n m A B = true) {X : Mx} (hX : (chn n m A B).IsEach X) : wN m X n = decide (((closedL n m A B).length : Int) = 0) := by
  have hOk := isC_ok hC
  by_cases h : ∀ i, i < n → (chn n m A B).Rch i
  · have h1 : wN m X n = true := (wN_iff n).2 fun i hi => (hX.row hOk i hi).2 (h i hi) h
    have h2 : closedL n m A B = [] := shutL_nil n fun k hk => okN_false hk (toB_iff.2 (.self hk)) fun h' => by
      rw [rchB_iff.2 (h k hk)] at h'
      exact absurd h'.2.1 (by decide)
    rw [h1, h2]
    rfl
  · obtain ⟨i, hi⟩ := Classical.not_forall.1 h
    obtain ⟨hin, hr⟩ : i < n ∧ ¬ (chn n m A B).Rch i := ⟨Classical.byContradiction fun h => hi fun h' => absurd h' h, fun h => hi fun _ => h⟩
    have h1 : wN m X n = false := by
      cases hw : wN m X n
      · rfl
      · have := (wN_iff n).1 hw i hin
        have h3 : sumN m (X i) = 0 := sumN_eq_zero fun j hj => hX.z i j hin hj hr
        rw [h3] at this
        exact absurd this (by decide)
    obtain ⟨k, hk, hok⟩ := okN_some hin hr
    have h2 := shutL_some n k hk hok
    rw [h1, decide_eq_false]
    unfold closedL
    omega
/-! ### The walk -/
set_option maxHeartbeats 4000000 in
theorem wat_ok (r c L : Nat) (hr : r ≤ 60) (hc : c ≤ 60) (X : Mx) (hX : ∀ i k, i < r → k < c → rL (X i k) ≤ L) (hL : L < 2 ^ 36) (i k : Nat) (hi : i < r) (hk : k < c) :
    PCall Tryz.prog 35 [qM r c X, .i .i64 i, .i .i64 k] (.agg [.b (decide ((X i k).num < 0)), dg (digits (X i k).num.natAbs), dg (digits (X i k).den)]) [] := by
  have cr := wright_q r c hr hc X (fun i k hi hk => by have := hX i k hi hk; omega)
  have ix := fun x y => effIxM (x := x) (y := y) X hi hk rfl
  have m1 : (i : Int) * (c : Int) = ((i * c : Nat) : Int) := (Int.natCast_mul i c).symm
  have a1 : ((i * c : Nat) : Int) + (k : Int) = ((i * c + k : Nat) : Int) := (Int.natCast_add _ _).symm
  have b1 : i * c ≤ 60 * 60 := Nat.mul_le_mul (by omega) hc
  unfold qM mV at *
  generalize (mcells c X (r * c)).map rV = Xc at *
  generalize X i k = p at *
  generalize i * c + k = z at *
  generalize i * c = z1 at *
  refine PCall.of_ax Tryz.call35 Tryz.func35 rfl (by simp [Tryz.ntmps35]) fun O w => ?_
  simp only [Tryz.ntmps35, Tryz.results35, argFr]
  refine AX.sregAV [1, 2, 3, 6] (hq := ?_)
  refine AX.seq ?_
  refine AX.sregCV [1, 2, 3, 6, 29] (aI cr oT) (hq := ?_)
  refine AX.condF (h := ?_)
  refine AX.keepA [1, 2, 3, 6] (h := ?_)
  refine AX.skip ?_
  try simp only [zn1,zn2,zn3,zn4,zn5,zn6,zn7,zn8,if_true]
  refine AX.sregEV [6] (aI @m1 (aI @a1 oT)) oT (aI ix oT) (hq := ?_)
  refine AX.ret (And.intro (Or.inl rfl) ?_)
  exact dnQ5
set_option maxHeartbeats 4000000 in
theorem rows_err (c c' : V) (S S' : List V) (R1 C1 R2 C2 : Int) (x y : List V) (hc : c = .agg [.i .i64 R1, .i .i64 C1, .sl x, .i .i64 R2, .i .i64 C2, .sl y]) (R1' C1' R2' C2' : Int) (x' y' : List V) (hc' : c' = .agg [.i .i64 R1', .i .i64 C1', .sl x', .i .i64 R2', .i .i64 C2', .sl y'])
    (cf : PCall Tryz.prog 14 [c, .sl S] (.tup [c', .sl S']) []) (ce : PCall Tryz.prog 18 [c', .sl S'] (.tup [.sl [], zR, .i .i64 1]) []) : PCall Tryz.prog 10 [c, .sl S] (.b true) [] := by
  subst hc hc'
  have cal := lalive_ok
  refine PCall.of_ax Tryz.call10 Tryz.func10 rfl (by simp [Tryz.ntmps10]) fun O w0 => ?_
  simp only [Tryz.ntmps10, Tryz.results10, argFr]
  refine AX.sregAV [1, 2] (hq := ?_)
  refine AX.sregCV [1, 2] (aI cf oT) (hq := ?_)
  refine AX.sregCV [1, 2, 5, 6, 7] (aI ce oT) (hq := ?_)
  refine AX.seq ?_
  refine AX.sregAV [1, 2, 5, 6, 30] (hq := ?_)
  refine AX.condT (h := ?_)
  refine AX.sregCV [4] (aI cal oT) (hq := ?_)
  refine AX.ret (And.intro (Or.inl rfl) ?_)
  exact Done.one rfl rfl rfl rfl
set_option maxHeartbeats 32000000 in
theorem rows_ok (c : V) (S : List V) (R1 C1 R2 C2 : Int) (x y : List V) (hc : c = .agg [.i .i64 R1, .i .i64 C1, .sl x, .i .i64 R2, .i .i64 C2, .sl y]) (n m : Nat) (A B : Mx) (v : Nat → Rat) (h : Small n m A B v)
    (cf : PCall Tryz.prog 14 [c, .sl S] (.tup [cV n m A B, .sl ((vl n v).map rV)]) []) : PCall Tryz.prog 10 [c, .sl S] (.b true) [] := by
  have hn := h.hn
  have hm := h.hm
  have ce := h.ends
  have cea := h.each
  have hX := h.hX
  have cm := wrow_ok n m 100000 (by omega) (by omega) v (eachM n m A B) (fun i hi => Nat.le_trans (h.hvL i hi) (by decide)) hX (by decide) (by decide)
  have cat := fun (i k : Nat) (hi : i < n) (hk : k < m) => wat_ok n m 100000 (by omega) (by omega) (eachM n m A B) hX (by decide) i k hi hk
  have czero : PCall Tryz.prog 47 [] (.agg [.b (decide ((0 : Rat).num < 0)), dg (digits (0 : Rat).num.natAbs), dg (digits (0 : Rat).den)]) [] := pzero_ok
  have cone : PCall Tryz.prog 45 [] (.agg [.b (decide ((1 : Rat).num < 0)), dg (digits (1 : Rat).num.natAbs), dg (digits (1 : Rat).den)]) [] := pone_ok
  have hM1 : m * (100000 + 1) ≤ 5 * (100000 + 1) := Nat.mul_le_mul_right _ hm
  have sl : ∀ i, i < n → ∀ k, k ≤ m → rL (sumN k (eachM n m A B i)) ≤ 600000 := fun i hi k hk => by
    have h1 := sumN_len (hX i · hi) k hk
    have h2 : k * (100000 + 1) ≤ m * (100000 + 1) := Nat.mul_le_mul_right _ hk
    omega
  have cad : ∀ i k, i < n → k < m → PCall Tryz.prog 33 [.agg [.b (decide ((sumN k (eachM n m A B i)).num < 0)), dg (digits (sumN k (eachM n m A B i)).num.natAbs), dg (digits (sumN k (eachM n m A B i)).den)], .agg [.b (decide ((eachM n m A B i k).num < 0)), dg (digits (eachM n m A B i k).num.natAbs), dg (digits (eachM n m A B i k).den)]] (.agg [.b (decide ((sumN (k + 1) (eachM n m A B i)).num < 0)), dg (digits (sumN (k + 1) (eachM n m A B i)).num.natAbs), dg (digits (sumN (k + 1) (eachM n m A B i)).den)]) [] := fun i k hi hk =>
    padd_ok (L := 600000) (IsQ.of (sl i hi k (by omega))) (IsQ.of (Nat.le_trans (hX i k hi hk) (by decide))) (by decide) (by decide)
  have csame1 : ∀ i, i < n → PCall Tryz.prog 22 [.agg [.b (decide ((sumN m (eachM n m A B i)).num < 0)), dg (digits (sumN m (eachM n m A B i)).num.natAbs), dg (digits (sumN m (eachM n m A B i)).den)], .agg [.b (decide ((1 : Rat).num < 0)), dg (digits (1 : Rat).num.natAbs), dg (digits (1 : Rat).den)]] (.b (decide (sumN m (eachM n m A B i) = 1))) [] := fun i hi =>
    psame_ok (L := 600000) (IsQ.of (sl i hi m (Nat.le_refl _))) (IsQ.of (Nat.le_trans rL1 (by decide))) (by decide) (by decide)
  have csm := c20same_ok (vl m (thr n v (eachM n m A B))) (vl m (thr n v (eachM n m A B))) 2000000 (vl_mem h.endL) (vl_mem h.endL) (by decide) (by decide) (by rw [vl_length]; omega) (by rw [vl_length]; omega)
  rw [decide_eq_true rfl] at csm
  have hM2 : m * (2000000 + 1) ≤ 5 * (2000000 + 1) := Nat.mul_le_mul_right _ hm
  have hN3 : n * (3 + 1) ≤ 8 * (3 + 1) := Nat.mul_le_mul_right _ hn
  have cse := pvsum h.endL (by decide) (by omega)
  have csv := pvsum h.hvL (by decide) (by omega)
  have le := sumN_len h.endL m (Nat.le_refl _)
  have lv := sumN_len h.hvL n (Nat.le_refl _)
  have k3 : PCall Tryz.prog 33 [.agg [.b (decide ((sumN m (thr n v (eachM n m A B))).num < 0)), dg (digits (sumN m (thr n v (eachM n m A B))).num.natAbs), dg (digits (sumN m (thr n v (eachM n m A B))).den)], .agg [.b (decide ((neverQ n m A B v).num < 0)), dg (digits (neverQ n m A B v).num.natAbs), dg (digits (neverQ n m A B v).den)]] (.agg [.b (decide ((sumN n v).num < 0)), dg (digits (sumN n v).num.natAbs), dg (digits (sumN n v).den)]) [] := by
    have e : sumN m (thr n v (eachM n m A B)) + neverQ n m A B v = sumN n v := by unfold neverQ; grind
    have := padd_ok (L := 20000000) (IsQ.of (q := sumN m (thr n v (eachM n m A B))) (by omega)) (IsQ.of (q := neverQ n m A B v) (Nat.le_trans h.neverL (by decide))) (by decide) (by decide)
    rw [e] at this
    exact this
  have k4 : PCall Tryz.prog 22 [.agg [.b (decide ((sumN n v).num < 0)), dg (digits (sumN n v).num.natAbs), dg (digits (sumN n v).den)], .agg [.b (decide ((sumN n v).num < 0)), dg (digits (sumN n v).num.natAbs), dg (digits (sumN n v).den)]] (.b true) [] := by
    have := psame_ok (L := 20000000) (IsQ.of (q := sumN n v) (by omega)) (IsQ.of (q := sumN n v) (by omega)) (by decide) (by decide)
    rw [decide_eq_true rfl] at this
    exact this
  have ccl := cclosed_ok n m 38 (by omega) (by omega) A B h.hC h.hA h.hB (by decide) (by decide)
  have hwh := whole_iff h.hC h.is
  have hll := sll_length (closedL n m A B)
  have hmv : ((vl n v).map rV).length = n := vl_mlen ..
  have hw0 : wN m (eachM n m A B) 0 = true := rfl
  have hws : ∀ i, wN m (eachM n m A B) (i + 1) = (wN m (eachM n m A B) i && decide (sumN m (eachM n m A B i) = 1)) := fun _ => rfl
  have hs0 : ∀ i, sumN 0 (eachM n m A B i) = 0 := fun _ => rfl
  have cal := lalive_ok
  subst hc
  clear h hX sl hM1 hM2 hN3 le lv
  unfold cV qM mV at *
  generalize sll (closedL n m A B) = Cl at *
  generalize (closedL n m A B).length = cl at *
  generalize (mcells n A (n * n)).map rV = Ac at *
  generalize (mcells m B (n * m)).map rV = Bc at *
  generalize neverQ n m A B v = nq at *
  generalize sumN m (thr n v (eachM n m A B)) = se at *
  generalize sumN n v = sv at *
  generalize (vl m (thr n v (eachM n m A B))).map rV = Es at *
  generalize (vl n v).map rV = Sv at *
  generalize eachM n m A B = X at *
  generalize (mcells m X (n * m)).map rV = Xc at *
  refine PCall.of_ax Tryz.call10 Tryz.func10 rfl (by simp [Tryz.ntmps10]) fun O w0 => ?_
  simp only [Tryz.ntmps10, Tryz.results10, argFr]
  refine AX.sregAV [1, 2] (hq := ?_)
  refine AX.sregCV [1, 2] (aI cf oT) (hq := ?_)
  refine AX.sregCV [1, 2, 5, 6, 7] (aI ce oT) (hq := ?_)
  refine AX.seq ?_
  refine AX.sregAV [1, 2, 5, 6, 30] (hq := ?_)
  refine AX.condF (h := ?_)
  refine AX.keepA [1, 2, 5, 6] (h := ?_)
  refine AX.skip ?_
  try simp only [zn1,zn2,zn3,zn4,zn5,zn6,zn7,zn8,if_true]
  refine AX.sregCV [1, 2, 5, 6, 8] (aI cea oT) (hq := ?_)
  refine AX.sregWV [1, 2, 5, 6, 8, 10] (aI @hmv oT) (aI cm oT) (hq := ?_)
  refine AX.sregAV [1, 2, 5, 6, 8, 10, 12] (hq := ?_)
  refine AX.seq ?_
  refine AX.sregAV [1, 2, 5, 6, 8, 10, 12, 13] (hq := ?_)
  refine AX.weaken id (st' := ⟨[(13, .i .i64 (0 : Nat)), (12, .b (wN m X 0)), (10, .ptr 3 0), (8, .ptr 2 0), (6, .ptr 1 0), (5, .sl Es), (2, .ptr 0 0), (1, .sl Sv)], [(3, ⟨32, [.i .i64 1, .i .i64 m, .sl Es]⟩), (2, ⟨24, [.i .i64 n, .i .i64 m, .sl Xc]⟩), (1, ⟨41, [.b (decide (nq.num < 0)), dg (digits nq.num.natAbs), dg (digits nq.den)]⟩), (0, ⟨26, [.i .i64 n, .i .i64 n, .sl Ac, .i .i64 n, .i .i64 m, .sl Bc]⟩)], 4⟩)
    (leQ5H hw0)
    ?_
  refine AX.block ?_
  refine AX.loop (fun N st => ∃ (i : Nat) (w : Bool), i ≤ n ∧ N = n - i ∧ wN m X i = w ∧ st = ⟨[(13, .i .i64 i), (12, .b w), (10, .ptr 3 0), (8, .ptr 2 0), (6, .ptr 1 0), (5, .sl Es), (2, .ptr 0 0), (1, .sl Sv)], [(3, ⟨32, [.i .i64 1, .i .i64 m, .sl Es]⟩), (2, ⟨24, [.i .i64 n, .i .i64 m, .sl Xc]⟩), (1, ⟨41, [.b (decide (nq.num < 0)), dg (digits nq.num.natAbs), dg (digits nq.den)]⟩), (0, ⟨26, [.i .i64 n, .i .i64 n, .sl Ac, .i .i64 n, .i .i64 m, .sl Bc]⟩)], 4⟩) n ⟨0, _, Nat.zero_le _, rfl, rfl, rfl⟩ ?_
  rintro N st ⟨i, w, hi, rfl, hw, rfl⟩
  refine AX.seq ?_
  by_cases h1 : i < n
  · have hwi := hws i
    rw [hw] at hwi
    have hz := hs0 i
    have cs1 := csame1 i h1
    clear hws hs0 csame1 cm ce cea cse csv k3 k4 ccl hwh csm hw
    refine AX.sregAV [1, 2, 5, 6, 8, 10, 12, 13, 49] (hq := ?_)
    refine AX.condT (h := ?_)
    refine AX.keepA [1, 2, 5, 6, 8, 10, 12, 13] (h := ?_)
    refine AX.skip ?_
    try simp only [zn1,zn2,zn3,zn4,zn5,zn6,zn7,zn8,if_true]
    refine AX.seq ?_
    refine AX.block ?_
    refine AX.sregCV [1, 2, 5, 6, 8, 10, 12, 13, 14] (aI czero oT) (hq := ?_)
    refine AX.cut (fun st => Le 0 id ⟨[(14, .ptr 4 0), (13, .i .i64 i), (12, .b w), (10, .ptr 3 0), (8, .ptr 2 0), (6, .ptr 1 0), (5, .sl Es), (2, .ptr 0 0), (1, .sl Sv)], [(4, ⟨41, [.b (decide ((sumN m (X i)).num < 0)), dg (digits (sumN m (X i)).num.natAbs), dg (digits (sumN m (X i)).den)]⟩), (3, ⟨32, [.i .i64 1, .i .i64 m, .sl Es]⟩), (2, ⟨24, [.i .i64 n, .i .i64 m, .sl Xc]⟩), (1, ⟨41, [.b (decide (nq.num < 0)), dg (digits nq.num.natAbs), dg (digits nq.den)]⟩), (0, ⟨26, [.i .i64 n, .i .i64 n, .sl Ac, .i .i64 n, .i .i64 m, .sl Bc]⟩)], 5⟩ st) ?_ ?_
    · refine AX.sregAV [1, 2, 5, 6, 8, 10, 12, 13, 14, 15] (hq := ?_)
      refine AX.weaken id (st' := ⟨[(15, .i .i64 (0 : Nat)), (14, .ptr 4 0), (13, .i .i64 i), (12, .b w), (10, .ptr 3 0), (8, .ptr 2 0), (6, .ptr 1 0), (5, .sl Es), (2, .ptr 0 0), (1, .sl Sv)], [(4, ⟨41, [.b (decide ((sumN 0 (X i)).num < 0)), dg (digits (sumN 0 (X i)).num.natAbs), dg (digits (sumN 0 (X i)).den)]⟩), (3, ⟨32, [.i .i64 1, .i .i64 m, .sl Es]⟩), (2, ⟨24, [.i .i64 n, .i .i64 m, .sl Xc]⟩), (1, ⟨41, [.b (decide (nq.num < 0)), dg (digits nq.num.natAbs), dg (digits nq.den)]⟩), (0, ⟨26, [.i .i64 n, .i .i64 n, .sl Ac, .i .i64 n, .i .i64 m, .sl Bc]⟩)], 5⟩)
        (leQ5H hz)
        ?_
      refine AX.block ?_
      refine AX.loop (fun N st => ∃ k : Nat, k ≤ m ∧ N = m - k ∧ st = ⟨[(15, .i .i64 k), (14, .ptr 4 0), (13, .i .i64 i), (12, .b w), (10, .ptr 3 0), (8, .ptr 2 0), (6, .ptr 1 0), (5, .sl Es), (2, .ptr 0 0), (1, .sl Sv)], [(4, ⟨41, [.b (decide ((sumN k (X i)).num < 0)), dg (digits (sumN k (X i)).num.natAbs), dg (digits (sumN k (X i)).den)]⟩), (3, ⟨32, [.i .i64 1, .i .i64 m, .sl Es]⟩), (2, ⟨24, [.i .i64 n, .i .i64 m, .sl Xc]⟩), (1, ⟨41, [.b (decide (nq.num < 0)), dg (digits nq.num.natAbs), dg (digits nq.den)]⟩), (0, ⟨26, [.i .i64 n, .i .i64 n, .sl Ac, .i .i64 n, .i .i64 m, .sl Bc]⟩)], 5⟩) m ⟨0, Nat.zero_le _, rfl, rfl⟩ ?_
      rintro N st ⟨k, hk, rfl, rfl⟩
      refine AX.seq ?_
      by_cases h2 : k < m
      · have ca1 := cat i k h1 h2
        have ca2 := cad i k h1 h2
        obtain ⟨s2, hs2⟩ : ∃ s, sumN (k + 1) (X i) = s := ⟨_, rfl⟩
        rw [hs2] at ca2
        clear cat cad
        generalize sumN k (X i) = s1 at *
        generalize X i k = p at *
        refine AX.sregAV [1, 2, 5, 6, 8, 10, 12, 13, 14, 15, 56] (hq := ?_)
        refine AX.condT (h := ?_)
        refine AX.keepA [1, 2, 5, 6, 8, 10, 12, 13, 14, 15] (h := ?_)
        refine AX.skip ?_
        try simp only [zn1,zn2,zn3,zn4,zn5,zn6,zn7,zn8,if_true]
        refine AX.seq ?_
        refine AX.block ?_
        refine AX.dregCV [1, 2, 5, 6, 8, 10, 12, 13, 14, 15] (aI ca1 (aI ca2 oT)) (hq := ?_)
        try simp only [zn1,zn2,zn3,zn4,zn5,zn6,zn7,zn8,if_true]
        refine AX.regWV [1, 2, 5, 6, 8, 10, 12, 13, 14, 15] (aI @lit_add oT) oT (hq := ?_)
        try simp only [zn1,zn2,zn3,zn4,zn5,zn6,zn7,zn8,if_true]
        refine ⟨_, _, id, ?_,
          (leQ5H hs2)
          , ⟨k + 1, by omega, rfl, rfl⟩⟩
        omega
      · have e : k = m := by omega
        subst e
        clear cat cad
        generalize sumN k (X i) = s1 at *
        refine AX.sregAV [1, 2, 5, 6, 8, 10, 12, 13, 14, 15, 56] (hq := ?_)
        refine AX.condF (h := ?_)
        refine AX.exit ?_
        try simp only [zn1,zn2,zn3,zn4,zn5,zn6,zn7,zn8,if_true]
        exact ⟨by first | exact trivial | rfl,
          leQ5
          ⟩
    · rintro st hle
      refine AX.weaken id hle ?_
      clear cat cad hz
      generalize decide (sumN m (X i) = 1) = d at *
      generalize sumN m (X i) = s1 at *
      cases w
      · refine AX.dregCV [1, 2, 5, 6, 8, 10, 12, 13] (aI cone (aI cs1 oT)) (hq := ?_)
        try simp only [zn1,zn2,zn3,zn4,zn5,zn6,zn7,zn8,if_true]
        refine AX.regWV [1, 2, 5, 6, 8, 10, 12, 13] (aI @lit_add oT) oT (hq := ?_)
        try simp only [zn1,zn2,zn3,zn4,zn5,zn6,zn7,zn8,if_true]
        refine ⟨_, _, id, ?_,
          leQ5
          , ⟨i + 1, false, by omega, rfl, hwi, rfl⟩⟩
        omega
      · refine AX.dregCV [1, 2, 5, 6, 8, 10, 12, 13] (aI cone (aI cs1 oT)) (hq := ?_)
        try simp only [zn1,zn2,zn3,zn4,zn5,zn6,zn7,zn8,if_true]
        refine AX.regWV [1, 2, 5, 6, 8, 10, 12, 13] (aI @lit_add oT) oT (hq := ?_)
        try simp only [zn1,zn2,zn3,zn4,zn5,zn6,zn7,zn8,if_true]
        refine ⟨_, _, id, ?_,
          leQ5
          , ⟨i + 1, d, by omega, rfl, hwi, rfl⟩⟩
        omega
  · have e : i = n := by omega
    subst e
    rw [hw] at hwh
    clear hws hs0 csame1 cat cad cm ce cea hw
    by_cases hcl : (cl : Int) = 0
    · rw [decide_eq_true hcl] at hwh
      subst hwh
      refine AX.sregAV [1, 2, 5, 6, 8, 10, 12, 13, 49] (hq := ?_)
      refine AX.condF (h := ?_)
      refine AX.exit ?_
      try simp only [zn1,zn2,zn3,zn4,zn5,zn6,zn7,zn8,if_true]
      refine AX.sdregWV [4] (aI @hll (aI @hcl oT)) (aI csm (aI cse (aI k3 (aI csv (aI k4 (aI ccl (aI cal oT))))))) (hq := ?_)
      refine AX.ret (And.intro (Or.inl rfl) ?_)
      exact Done.one rfl rfl rfl rfl
    · rw [decide_eq_false hcl] at hwh
      subst hwh
      refine AX.sregAV [1, 2, 5, 6, 8, 10, 12, 13, 49] (hq := ?_)
      refine AX.condF (h := ?_)
      refine AX.exit ?_
      try simp only [zn1,zn2,zn3,zn4,zn5,zn6,zn7,zn8,if_true]
      refine AX.sdregWV [4] (aI @hll (aI @hcl oT)) (aI csm (aI cse (aI k3 (aI csv (aI k4 (aI ccl (aI cal oT))))))) (hq := ?_)
      refine AX.ret (And.intro (Or.inl rfl) ?_)
      exact Done.one rfl rfl rfl rfl
theorem chainRows_ok (R1 C1 R2 C2 : Int) (xs ys ss : List RT) (h1 : bd R1) (h2 : bd C1) (h3 : bd R2) (h4 : bd C2) (hx : okRT xs) (hy : okRT ys) (hs : okRT ss) (lx : xs.length < 2 ^ 62) (ly : ys.length < 2 ^ 62) (ls : ss.length < 2 ^ 62) :
    PCall Tryz.prog 10 [.agg [.i .i64 R1, .i .i64 C1, .sl (xs.map fR), .i .i64 R2, .i .i64 C2, .sl (ys.map fR)], .sl (ss.map fR)] (.b true) [] := by
  obtain ⟨c', S', cf, hf, s1, s2, s3⟩ := few_all R1 C1 R2 C2 xs ys ss h1 h2 h3 h4 hx hy hs lx ly ls
  obtain ⟨R1', C1', R2', C2', x', y', e⟩ := hf.shaped
  rcases hf.ends s1 s2 s3 with he | ⟨n, m, A, B, v, rfl, e2, h⟩
  · exact rows_err _ c' _ (S'.map fR) R1 C1 R2 C2 _ _ rfl R1' C1' R2' C2' x' y' e cf he
  · rw [e2] at cf
    exact rows_ok _ _ R1 C1 R2 C2 _ _ rfl n m A B v h cf
end Go.Proofs.YtepkjfnffbdcoaaGreat
