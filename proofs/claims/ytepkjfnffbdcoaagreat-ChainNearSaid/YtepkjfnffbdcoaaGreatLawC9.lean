/- Statements about chains: ChainNear. -/
import Derived.Test.YtepkjfnffbdcoaaGreatHN
set_option linter.unusedVariables false
set_option maxRecDepth 20000
set_option linter.unusedSimpArgs false
namespace Go.Proofs.YtepkjfnffbdcoaaGreat
open Go Go.Proofs.YtepkjfnffbdcoaaGreat.Lift
attribute [local irreducible] Lift.PCall Lift.HCall
/-! ### The plain law -/
def unitV (i : Nat) : Nat → Rat := fun k => if k = i then 1 else 0
theorem atC_lin {n : Nat} (A : Mx) (v : Nat → Rat) : ∀ t k, k < n → atC n A v t k = sumN n fun i => v i * atC n A (unitV i) t k := by
  intro t
  induction t with
  | zero =>
    intro k hk
    show v k = sumN n fun i => v i * (if k = i then 1 else 0)
    rw [sumN_single hk (fun i _ hi => by rw [if_neg (fun e => hi e.symm), Rat.mul_zero]), if_pos rfl, Rat.mul_one]
  | succ t ih =>
    intro k hk
    show (sumN n fun j => atC n A v t j * A j k) = sumN n fun i => v i * sumN n fun j => atC n A (unitV i) t j * A j k
    have e1 : (sumN n fun j => atC n A v t j * A j k) = sumN n fun j => sumN n fun i => v i * (atC n A (unitV i) t j * A j k) := sumN_congr fun j hj => by
      rw [ih j hj, ← sumN_mulr]
      exact sumN_congr fun i _ => by grind
    rw [e1, sumN_swap]
    exact sumN_congr fun i _ => sumN_mul ..
theorem atC_add (n : Nat) (A : Mx) (v : Nat → Rat) (s : Nat) : ∀ t, atC n A v (s + t) = atC n A (atC n A v s) t := by
  intro t
  induction t with
  | zero => rfl
  | succ t ih =>
    show thr n (atC n A v (s + t)) A = thr n (atC n A (atC n A v s) t) A
    rw [ih]
theorem unit_nonneg (i : Nat) : ∀ k, 0 ≤ unitV i k := fun k => by
  unfold unitV
  split
  · decide
  · exact Rat.le_refl
theorem unit_sum {n i : Nat} (hi : i < n) : sumN n (unitV i) = 1 := by
  show (sumN n fun k => if k = i then 1 else 0) = 1
  rw [sumN_single hi (fun k _ hk => if_neg hk)]
  exact if_pos rfl
def q34 : Nat → Rat
  | 0 => 1
  | q + 1 => q34 q * (3 / 4)
theorem q34_24 : q34 24 ≤ rq false 1 900 := by decide +kernel
theorem q34_nonneg : ∀ q, 0 ≤ q34 q := by
  intro q
  induction q with
  | zero => show (0 : Rat) ≤ 1; decide
  | succ q ih => exact Rat.mul_nonneg ih (by decide +kernel)
section
variable {n m : Nat} {A B : Mx}
theorem atC_nonneg (hC : isC n m A B = true) {v : Nat → Rat} (hv : ∀ i, i < n → 0 ≤ v i) : ∀ t i, i < n → 0 ≤ atC n A v t i := fun t i hi => by
  have h3 := Chn.at_nonneg (isC_ok hC) hv t i hi
  rwa [(at_atC n m A B v t).1] at h3
theorem tot_C (hC : isC n m A B = true) (v : Nat → Rat) (t : Nat) : sumN n (atC n A v t) + sumN m (outC n A B v t) = sumN n v := by
  have htot := Chn.total (isC_ok hC) v t
  rw [(at_atC n m A B v t).1, (at_atC n m A B v t).2] at htot
  exact htot
theorem decay1 (hC : isC n m A B = true) (hq : ∀ i, i < n → rq false 1 4 ≤ sumN m (outC n A B (unitV i) n)) {v : Nat → Rat} (hv : ∀ i, i < n → 0 ≤ v i) : sumN n (atC n A v n) ≤ sumN n v * (3 / 4) := by
  have e1 : sumN n (atC n A v n) = sumN n fun i => v i * sumN n (atC n A (unitV i) n) := by
    rw [sumN_congr fun k hk => atC_lin A v n k hk, sumN_swap]
    exact sumN_congr fun i _ => sumN_mul ..
  rw [e1, ← sumN_mulr]
  refine sumN_le fun i hi => Rat.mul_le_mul_of_nonneg_left ?_ (hv i hi)
  have h1 := tot_C hC (unitV i) n
  rw [unit_sum hi] at h1
  have h2 := hq i hi
  have h3 : rq false 1 4 = 1 - 3 / 4 := by decide +kernel
  rw [h3] at h2
  grind
theorem decay (hC : isC n m A B = true) (hq : ∀ i, i < n → rq false 1 4 ≤ sumN m (outC n A B (unitV i) n)) {v : Nat → Rat} (hv : ∀ i, i < n → 0 ≤ v i) : ∀ q, sumN n (atC n A v (q * n)) ≤ sumN n v * q34 q := by
  intro q
  induction q with
  | zero =>
    rw [Nat.zero_mul]
    show sumN n v ≤ sumN n v * 1
    rw [Rat.mul_one]
    exact Rat.le_refl
  | succ q ih =>
    rw [Nat.succ_mul, atC_add]
    have h1 := decay1 hC hq (atC_nonneg hC hv (q * n))
    show _ ≤ sumN n v * (q34 q * (3 / 4))
    have h2 := Rat.mul_le_mul_of_nonneg_right ih (show (0 : Rat) ≤ 3 / 4 by decide +kernel)
    grind
/-- Behind 24 n moves no exit is more than 1/900 below. -/
theorem near_facts {v : Nat → Rat} (h : Small n m A B v) (hq : ∀ i, i < n → rq false 1 4 ≤ sumN m (outC n A B (unitV i) n)) (h1 : sumN n v ≤ 1) : ∀ j, j < m → thr n v (eachM n m A B) j - outC n A B v (24 * n) j ≤ rq false 1 900 := by
  intro j hj
  have hOk := isC_ok h.hC
  have hX0 := h.is.nonneg hOk
  have hsp := Chn.ends_split hOk h.is v (24 * n) j hj
  rw [(at_atC n m A B v (24 * n)).1, (at_atC n m A B v (24 * n)).2] at hsp
  have e1 : (chn n m A B).ends (eachM n m A B) v j = thr n v (eachM n m A B) j := rfl
  rw [e1] at hsp
  have hat := atC_nonneg h.hC h.hv (24 * n)
  have e2 : (chn n m A B).ends (eachM n m A B) (atC n A v (24 * n)) j ≤ sumN n (atC n A v (24 * n)) := by
    refine sumN_le fun i hi => ?_
    have h3 := (h.is.row hOk i hi).1
    have h4 : eachM n m A B i j ≤ sumN m (eachM n m A B i) := le_sumN hj fun k hk => hX0 i k hi hk
    have h5 : eachM n m A B i j ≤ 1 := Rat.le_trans h4 h3
    have := Rat.mul_le_mul_of_nonneg_left h5 (hat i hi)
    rwa [Rat.mul_one] at this
  have h6 := decay h.hC hq h.hv 24
  have h7 := Rat.mul_le_mul_of_nonneg_right h1 (q34_nonneg 24)
  have h8 := q34_24
  rw [Rat.one_mul] at h7
  generalize q34 24 = w at *
  grind
end
/-- How long the weights are after up to 96 moves. -/
theorem move_len96 {n m : Nat} {A B : Mx} (hC : isC n m A B = true) (hn : n ≤ 8) (hm : m ≤ 5) (hA : ∀ i k, i < n → k < n → rL (A i k) ≤ 38) (hB : ∀ i k, i < n → k < m → rL (B i k) ≤ 38) {v : Nat → Rat} (hv : ∀ i, i < n → 0 ≤ v i) (hvL : ∀ i, i < n → rL (v i) ≤ 3) {t : Nat} (ht : t ≤ 96) :
    (∀ i, i < n → rL (atC n A v t i) ≤ 400000) ∧ ∀ k, k < m → rL (outC n A B v t k) ≤ 400000 := by
  have hOk := isC_ok hC
  obtain ⟨E, e1, e2, e3⟩ := HD.common n hvL
  obtain ⟨P, p1, p2, p3⟩ := HD.matrix (A := A) (m := n) n hA
  obtain ⟨Q, q1, q2, q3⟩ := HD.matrix (A := B) (m := m) n hB
  have pA : ∀ i k, i < n → k < n → HD (A i k) (P * Q) := fun i k hi hk => (p2 i k hi hk).mulr Q
  have pB : ∀ i k, i < n → k < m → HD (B i k) (P * Q) := fun i k hi hk => (q2 i k hi hk).mull P
  have b1 : n * (n * 38 + 1) ≤ 8 * (8 * 38 + 1) := Nat.mul_le_mul hn (by omega)
  have b2 : n * (m * 38 + 1) ≤ 8 * (5 * 38 + 1) := Nat.mul_le_mul hn (by omega)
  have b3 := digits_len_mul P Q
  have hpow : ∀ t, (digits ((P * Q) ^ t)).length ≤ t * (digits (P * Q)).length + 1 := by
    intro t
    induction t with
    | zero =>
      rw [Nat.pow_zero, show (1 : Nat) = 0 + 1 from rfl]
      exact Nat.le_trans (digits_length_le (k := 1) (by decide)) (by omega)
    | succ t ih =>
      have := digits_len_mul ((P * Q) ^ t) (P * Q)
      rw [Nat.pow_succ, Nat.succ_mul]
      omega
  have b4 := hpow t
  have b5 := digits_len_mul E ((P * Q) ^ t)
  have b6 : t * (digits (P * Q)).length ≤ 96 * 4000 := Nat.mul_le_mul ht (by omega)
  have hD : E * (P * Q) ^ t ≠ 0 := Nat.mul_ne_zero e1 (Nat.ne_of_gt (Nat.pow_pos (Nat.pos_of_ne_zero (Nat.mul_ne_zero p1 q1))))
  have hN : (digits (8 * 79228162514264337593543950336)).length ≤ 4 := digits_length_le (k := 4) (by decide)
  have htot := tot_C hC v t
  have h0 := atC_nonneg hC hv t
  have ho0 := outC_nonneg hC hv t
  have hS : sumN n v ≤ (((8 * 79228162514264337593543950336 : Nat) : Int) : Rat) := by
    have key : ∀ r, r ≤ n → sumN r v ≤ (((r * 79228162514264337593543950336 : Nat) : Int) : Rat) := by
      intro r
      induction r with
      | zero => intro _; exact Rat.le_refl
      | succ r ih =>
        intro hr
        have h1 := ih (by omega)
        have h2 := le_pow3 (hv r (by omega)) (hvL r (by omega))
        have e : (((r + 1) * 79228162514264337593543950336 : Nat) : Int) = ((r * 79228162514264337593543950336 : Nat) : Int) + 79228162514264337593543950336 := by omega
        rw [sumN_succ, e, Rat.intCast_add]
        grind
    refine Rat.le_trans (key n (Nat.le_refl _)) ?_
    have : ((n * 79228162514264337593543950336 : Nat) : Int) ≤ ((8 * 79228162514264337593543950336 : Nat) : Int) := by omega
    exact Rat.intCast_le_intCast.2 this
  have s1 : 0 ≤ sumN m (outC n A B v t) := sumN_nonneg ho0
  have s2 : 0 ≤ sumN n (atC n A v t) := sumN_nonneg h0
  refine ⟨fun i hi => ?_, fun k hk => ?_⟩
  · have h1 := le_sumN hi h0
    have := (atC_HD e2 pA t i hi).len2 hD (N := 8 * 79228162514264337593543950336) (by decide) (h0 i hi) (Rat.le_trans (by grind) hS)
    omega
  · have h1 := le_sumN hk ho0
    have := (outC_HD e2 pA pB t k hk).len2 hD (N := 8 * 79228162514264337593543950336) (by decide) (ho0 k hk) (Rat.le_trans (by grind) hS)
    omega
theorem unit_len (i : Nat) : ∀ k, rL (unitV i k) ≤ 3 := fun k => by
  unfold unitV
  split
  · exact Nat.le_trans rL1 (by decide)
  · exact Nat.le_trans rL0 (by decide)
/-! ### The walk -/
theorem vl_unit (n i : Nat) : (List.replicate n (0 : Rat)).set i 1 = vl n (unitV i) := by
  apply List.ext_getElem?
  intro j
  rw [List.getElem?_set]
  by_cases hj : j < n
  · have e1 : (vl n (unitV i))[j]? = some (unitV i j) := by simp [vl, hj]
    have e2 : (List.replicate n (0 : Rat))[j]? = some 0 := by simp [hj]
    rw [e1, e2, List.length_replicate]
    unfold unitV
    by_cases e : i = j
    · subst e
      rw [if_pos rfl, if_pos hj, if_pos rfl]
    · rw [if_neg e, if_neg fun e' => e e'.symm]
  · have e1 : (vl n (unitV i))[j]? = none := List.getElem?_eq_none (by rw [vl_length]; omega)
    have e2 : (List.replicate n (0 : Rat))[j]? = none := List.getElem?_eq_none (by rw [List.length_replicate]; omega)
    rw [e1, e2, List.length_replicate]
    by_cases e : i = j
    · rw [if_pos e, if_neg (by omega)]
    · rw [if_neg e]
theorem unit_set {n i : Nat} (hi : i < n) : (((qrow (List.replicate n (0 : Rat))).set (i * 3) (.b (decide ((1 : Rat).num < 0)))).set (i * 3 + 1) (dg (digits (1 : Rat).num.natAbs))).set (i * 3 + 1 + 1) (dg (digits (1 : Rat).den)) = qrow (vl n (unitV i)) := by
  have h := set_q (xs := List.replicate n (0 : Rat)) 1 (j := i) (by rw [List.length_replicate]; exact hi)
  rw [vl_unit] at h
  exact h
set_option maxHeartbeats 4000000 in
/-- Nothing is asked of what isn't right. -/
theorem near_not (c : V) (S S' : List V) (R1 C1 R2 C2 : Int) (x y : List V) (hc : c = .agg [.i .i64 R1, .i .i64 C1, .sl x, .i .i64 R2, .i .i64 C2, .sl y]) (R1' C1' R2' C2' : Int) (x' y' : List V) (h1 : bd R1')
    (cf : PCall Tryz.prog 14 [c, .sl S] (.tup [.agg [.i .i64 R1', .i .i64 C1', .sl x', .i .i64 R2', .i .i64 C2', .sl y'], .sl S']) []) (cr : PCall Tryz.prog 42 [.agg [.i .i64 R1', .i .i64 C1', .sl x', .i .i64 R2', .i .i64 C2', .sl y']] (.b false) []) : PCall Tryz.prog 9 [c, .sl S] (.b true) [] := by
  subst hc
  have cal := lalive_ok
  have cof := lof_ok R1' C1' R2' C2' x' y'
  unfold bd at h1
  refine PCall.of_ax Tryz.call9 Tryz.func9 rfl (by simp [Tryz.ntmps9]) fun O w0 => ?_
  simp only [Tryz.ntmps9, Tryz.results9, argFr]
  refine AX.sregAV [1, 2] (hq := ?_)
  refine AX.sregCV [1, 2] (aI cf oT) (hq := ?_)
  refine AX.sregAV [1, 2, 5] (hq := ?_)
  refine AX.seq ?_
  refine AX.sregCV [1, 2, 5, 52] (aI cof (aI cr oT)) (hq := ?_)
  refine AX.condT (h := ?_)
  refine AX.sregCV [4] (aI cal oT) (hq := ?_)
  refine AX.ret (And.intro (Or.inl rfl) ?_)
  exact Done.one rfl rfl rfl rfl
set_option maxHeartbeats 4000000 in
theorem near_weights (c : V) (S S' : List V) (R1 C1 R2 C2 : Int) (x y : List V) (hc : c = .agg [.i .i64 R1, .i .i64 C1, .sl x, .i .i64 R2, .i .i64 C2, .sl y]) (R1' C1' R2' C2' : Int) (x' y' : List V) (h1 : bd R1')
    (cf : PCall Tryz.prog 14 [c, .sl S] (.tup [.agg [.i .i64 R1', .i .i64 C1', .sl x', .i .i64 R2', .i .i64 C2', .sl y'], .sl S']) []) (cr : PCall Tryz.prog 42 [.agg [.i .i64 R1', .i .i64 C1', .sl x', .i .i64 R2', .i .i64 C2', .sl y']] (.b true) []) (cw : PCall Tryz.prog 44 [.sl S', .i .i64 R1'] (.b false) []) : PCall Tryz.prog 9 [c, .sl S] (.b true) [] := by
  subst hc
  have cal := lalive_ok
  have cof := lof_ok R1' C1' R2' C2' x' y'
  unfold bd at h1
  refine PCall.of_ax Tryz.call9 Tryz.func9 rfl (by simp [Tryz.ntmps9]) fun O w0 => ?_
  simp only [Tryz.ntmps9, Tryz.results9, argFr]
  refine AX.sregAV [1, 2] (hq := ?_)
  refine AX.sregCV [1, 2] (aI cf oT) (hq := ?_)
  refine AX.sregAV [1, 2, 5] (hq := ?_)
  refine AX.seq ?_
  refine AX.sregCV [1, 2, 5, 52] (aI cof (aI cr (aI cw oT))) (hq := ?_)
  refine AX.condT (h := ?_)
  refine AX.sregCV [4] (aI cal oT) (hq := ?_)
  refine AX.ret (And.intro (Or.inl rfl) ?_)
  exact Done.one rfl rfl rfl rfl
theorem not_cmpR {p q : Rat} (h : ¬ 0 < cmpR p q) : p ≤ q := by
  apply Classical.byContradiction
  intro hn
  have : q < p := by grind
  rw [cmpR_gt this] at h
  exact h (by decide)
theorem rL_small (s : Bool) {m n : Nat} (hm : m < 4294967296) (hn : n < 4294967296) : rL (rq s m n) ≤ 1 := rL_rq (digits_length_le (by omega)) (digits_length_le (by omega)) (Nat.le_refl _)
set_option maxHeartbeats 32000000 in
theorem near_ok (c : V) (S : List V) (R1 C1 R2 C2 : Int) (x y : List V) (hc : c = .agg [.i .i64 R1, .i .i64 C1, .sl x, .i .i64 R2, .i .i64 C2, .sl y]) (n m : Nat) (A B : Mx) (v : Nat → Rat) (h : Small n m A B v)
    (cf : PCall Tryz.prog 14 [c, .sl S] (.tup [cV n m A B, .sl ((vl n v).map rV)]) []) : PCall Tryz.prog 9 [c, .sl S] (.b true) [] := by
  subst hc
  have hn := h.hn
  have hm := h.hm
  have cal := lalive_ok
  have cof := lof_ok n n n m ((mcells n A (n * n)).map rV) ((mcells m B (n * m)).map rV)
  have cr := r20right_ok n m 38 (by omega) (by omega) A B h.hA h.hB (by decide) (by decide)
  rw [h.hC] at cr
  have cw := rweights_q n 3 (by omega) v h.hv h.hvL (by decide)
  have hN3 : n * (3 + 1) ≤ 8 * (3 + 1) := Nat.mul_le_mul_right _ hn
  have csv := pvsum h.hvL (by decide) (by omega)
  have lv := sumN_len h.hvL n (Nat.le_refl _)
  have cone : PCall Tryz.prog 45 [] (.agg [.b (decide ((1 : Rat).num < 0)), dg (digits (1 : Rat).num.natAbs), dg (digits (1 : Rat).den)]) [] := pone_ok
  have czero : PCall Tryz.prog 47 [] (.agg [.b (decide ((0 : Rat).num < 0)), dg (digits (0 : Rat).num.natAbs), dg (digits (0 : Rat).den)]) [] := pzero_ok
  have k1 : PCall Tryz.prog 38 [.agg [.b (decide ((sumN n v).num < 0)), dg (digits (sumN n v).num.natAbs), dg (digits (sumN n v).den)], .agg [.b (decide ((1 : Rat).num < 0)), dg (digits (1 : Rat).num.natAbs), dg (digits (1 : Rat).den)]] (.i .i64 (cmpR (sumN n v) 1)) [] := pcmp_ok (L := 1000) (IsQ.of (by omega)) (IsQ.of (Nat.le_trans rL1 (by decide))) (by decide) (by decide)
  obtain ⟨d1, hd1⟩ : ∃ d, cmpR (sumN n v) 1 = d := ⟨_, rfl⟩
  rw [hd1] at k1
  have c14 : PCall Tryz.prog 46 [.i .i64 1, .i .i64 4] (.tup [rV (rq false 1 4), .i .i64 0]) [] := pmake_ok 1 4 (by decide) (by decide)
  have c900 : PCall Tryz.prog 46 [.i .i64 1, .i .i64 900] (.tup [rV (rq false 1 900), .i .i64 0]) [] := pmake_ok 1 900 (by decide) (by decide)
  have l14 : rL (rq false 1 4) ≤ 1 := rL_small false (by decide) (by decide)
  have l900 : rL (rq false 1 900) ≤ 1 := rL_small false (by decide) (by decide)
  by_cases hbig : 4 < n
  · clear h lv hd1 c14 c900 csv k1
    unfold cV at *
    generalize (mcells n A (n * n)).map rV = Ac at *
    generalize (mcells m B (n * m)).map rV = Bc at *
    generalize (vl n v).map rV = Sv at *
    refine PCall.of_ax Tryz.call9 Tryz.func9 rfl (by simp [Tryz.ntmps9]) fun O w0 => ?_
    simp only [Tryz.ntmps9, Tryz.results9, argFr]
    refine AX.sregAV [1, 2] (hq := ?_)
    refine AX.sregCV [1, 2] (aI cf oT) (hq := ?_)
    refine AX.sregAV [1, 2, 5] (hq := ?_)
    refine AX.seq ?_
    refine AX.sregCV [1, 2, 5, 52] (aI cof (aI cr (aI cw oT))) (hq := ?_)
    refine AX.condT (h := ?_)
    refine AX.sregCV [4] (aI cal oT) (hq := ?_)
    refine AX.ret (And.intro (Or.inl rfl) ?_)
    exact Done.one rfl rfl rfl rfl
  by_cases hbig2 : 0 < d1
  · clear h lv hd1 c14 c900
    unfold cV at *
    generalize (mcells n A (n * n)).map rV = Ac at *
    generalize (mcells m B (n * m)).map rV = Bc at *
    generalize sumN n v = sv at *
    generalize (vl n v).map rV = Sv at *
    generalize (1 : Rat) = one at *
    refine PCall.of_ax Tryz.call9 Tryz.func9 rfl (by simp [Tryz.ntmps9]) fun O w0 => ?_
    simp only [Tryz.ntmps9, Tryz.results9, argFr]
    refine AX.sregAV [1, 2] (hq := ?_)
    refine AX.sregCV [1, 2] (aI cf oT) (hq := ?_)
    refine AX.sregAV [1, 2, 5] (hq := ?_)
    refine AX.seq ?_
    refine AX.sregCV [1, 2, 5, 52] (aI cof (aI cr (aI cw (aI csv (aI cone (aI k1 oT)))))) (hq := ?_)
    refine AX.condT (h := ?_)
    refine AX.sregCV [4] (aI cal oT) (hq := ?_)
    refine AX.ret (And.intro (Or.inl rfl) ?_)
    exact Done.one rfl rfl rfl rfl
  have hs1 : sumN n v ≤ 1 := not_cmpR (by rw [hd1]; exact hbig2)
  have cra : ∀ i, i < n → PCall Tryz.prog 40 [cV n m A B, .sl ((vl n (unitV i)).map rV), .i .i64 n] (.tup [.sl ((vl n (atC n A (unitV i) n)).map rV), .sl ((vl m (outC n A B (unitV i) n)).map rV), .i .i64 0]) [] := fun i hi =>
    have hml := fun (j : Nat) (hj : j ≤ n) => move_len h.hC hn hm h.hA h.hB (fun k _ => unit_nonneg i k) (fun k _ => unit_len i k) (t := j) (by omega)
    rafter_ok n m 38 60000 n (by omega) (by omega) A B h.hC h.hA h.hB (by decide) (by decide) (unitV i) (fun k _ => unit_nonneg i k) (by omega) (fun j hj => (hml j hj).1) (fun j hj => (hml j hj).2) (by decide) (by decide)
  have hM6 : m * (60000 + 1) ≤ 5 * (60000 + 1) := Nat.mul_le_mul_right _ hm
  have lou : ∀ i, i < n → ∀ k, k < m → rL (outC n A B (unitV i) n k) ≤ 60000 := fun i hi => (move_len h.hC hn hm h.hA h.hB (fun k _ => unit_nonneg i k) (fun k _ => unit_len i k) (t := n) (by omega)).2
  have csu := fun (i : Nat) (hi : i < n) => pvsum (lou i hi) (by decide) (by omega)
  have k2 : ∀ i, i < n → PCall Tryz.prog 38 [.agg [.b (decide ((sumN m (outC n A B (unitV i) n)).num < 0)), dg (digits (sumN m (outC n A B (unitV i) n)).num.natAbs), dg (digits (sumN m (outC n A B (unitV i) n)).den)], .agg [.b (decide ((rq false 1 4).num < 0)), dg (digits (rq false 1 4).num.natAbs), dg (digits (rq false 1 4).den)]] (.i .i64 (cmpR (sumN m (outC n A B (unitV i) n)) (rq false 1 4))) [] := fun i hi => by
    have l := sumN_len (lou i hi) m (Nat.le_refl _)
    exact pcmp_ok (L := 400000) (IsQ.of (by omega)) (IsQ.of (by omega)) (by decide) (by decide)
  have ce := h.ends
  have ml96 := fun (j : Nat) (hj : j ≤ 24 * n) => move_len96 h.hC hn hm h.hA h.hB h.hv h.hvL (t := j) (by omega)
  have ca : PCall Tryz.prog 39 [cV n m A B, .sl ((vl n v).map rV), .i .i64 ((24 * n : Nat) : Int)] (.tup [.sl ((vl n (atC n A v (24 * n))).map rV), .sl ((vl m (outC n A B v (24 * n))).map rV), .i .i64 0]) [] :=
    after_ok n m 38 400000 (24 * n) (by omega) (by omega) A B h.hC h.hA h.hB (by decide) (by decide) v h.hv (by omega) (fun j hj => (ml96 j hj).1) (fun j hj => (ml96 j hj).2) (by decide) (by decide)
  have lo := (ml96 (24 * n) (Nat.le_refl _)).2
  have k3 : ∀ j, j < m → PCall Tryz.prog 48 [.agg [.b (decide ((thr n v (eachM n m A B) j).num < 0)), dg (digits (thr n v (eachM n m A B) j).num.natAbs), dg (digits (thr n v (eachM n m A B) j).den)], .agg [.b (decide ((outC n A B v (24 * n) j).num < 0)), dg (digits (outC n A B v (24 * n) j).num.natAbs), dg (digits (outC n A B v (24 * n) j).den)]] (.agg [.b (decide ((thr n v (eachM n m A B) j - outC n A B v (24 * n) j).num < 0)), dg (digits (thr n v (eachM n m A B) j - outC n A B v (24 * n) j).num.natAbs), dg (digits (thr n v (eachM n m A B) j - outC n A B v (24 * n) j).den)]) [] := fun j hj => psub_ok (L := 2000000) (IsQ.of (h.endL j hj)) (IsQ.of (Nat.le_trans (lo j hj) (by decide))) (by decide) (by decide)
  have k4 : ∀ j, j < m → PCall Tryz.prog 38 [.agg [.b (decide ((thr n v (eachM n m A B) j - outC n A B v (24 * n) j).num < 0)), dg (digits (thr n v (eachM n m A B) j - outC n A B v (24 * n) j).num.natAbs), dg (digits (thr n v (eachM n m A B) j - outC n A B v (24 * n) j).den)], .agg [.b (decide ((rq false 1 900).num < 0)), dg (digits (rq false 1 900).num.natAbs), dg (digits (rq false 1 900).den)]] (.i .i64 (cmpR (thr n v (eachM n m A B) j - outC n A B v (24 * n) j) (rq false 1 900))) [] := fun j hj => by
    have l := rL_sub _ _ (h.endL j hj) (lo j hj)
    exact pcmp_ok (L := 4000000) (IsQ.of (by omega)) (IsQ.of (by omega)) (by decide) (by decide)
  have hnear := fun hq => near_facts h hq hs1
  have i1 := fun (j : Nat) (hj : j < m) => fun x y => effIxL (x := x) (y := y) (thr n v (eachM n m A B)) hj
  have i2 := fun (j : Nat) (hj : j < m) => fun x y => effIxL (x := x) (y := y) (outC n A B v (24 * n)) hj
  have m1 : ((vl m (thr n v (eachM n m A B))).map rV).length = m := vl_mlen ..
  have m2 : ((vl m (outC n A B v (24 * n))).map rV).length = m := vl_mlen ..
  have et : (24 : Int) * (n : Int) = ((24 * n : Nat) : Int) := by omega
  obtain ⟨P, hP⟩ : ∃ P : Nat → Prop, P = fun i => rq false 1 4 ≤ sumN m (outC n A B (unitV i) n) := ⟨_, rfl⟩
  have hP1 : ∀ i, ¬ cmpR (sumN m (outC n A B (unitV i) n)) (rq false 1 4) < 0 → P i := fun i hi => by
    rw [hP]
    have : ¬ sumN m (outC n A B (unitV i) n) < rq false 1 4 := fun hlt => hi (cmpR_neg.2 hlt)
    show rq false 1 4 ≤ _
    grind
  have hnear2 : (∀ i, i < n → P i) → ∀ j, j < m → ¬ 0 < cmpR (thr n v (eachM n m A B) j - outC n A B v (24 * n) j) (rq false 1 900) := fun hq j hj => cmpR_not_gt (hnear (fun i hi => by have := hq i hi; rw [hP] at this; exact this) j hj)
  clear hnear hP h lv hd1 hs1 ml96 lo lou hM6 hN3 l14 l900
  unfold cV at *
  generalize (mcells n A (n * n)).map rV = Ac at *
  generalize (mcells m B (n * m)).map rV = Bc at *
  generalize rq false 1 4 = q14 at *
  generalize rq false 1 900 = q900 at *
  generalize neverQ n m A B v = nq at *
  generalize sumN n v = sv at *
  generalize thr n v (eachM n m A B) = oe at *
  generalize outC n A B v (24 * n) = oa at *
  generalize (vl m oe).map rV = Le' at *
  generalize (vl m oa).map rV = La at *
  generalize (vl n (atC n A v (24 * n))).map rV = Xa at *
  generalize (vl n v).map rV = Sv at *
  refine PCall.of_ax Tryz.call9 Tryz.func9 rfl (by simp [Tryz.ntmps9]) fun O w0 => ?_
  simp only [Tryz.ntmps9, Tryz.results9, argFr]
  refine AX.sregAV [1, 2] (hq := ?_)
  refine AX.sregCV [1, 2] (aI cf oT) (hq := ?_)
  refine AX.sregAV [1, 2, 5] (hq := ?_)
  refine AX.seq ?_
  refine AX.sregCV [1, 2, 5, 52] (aI cof (aI cr (aI cw (aI csv (aI cone (aI k1 oT)))))) (hq := ?_)
  refine AX.condF (h := ?_)
  refine AX.keepA [1, 2, 5] (h := ?_)
  refine AX.skip ?_
  try simp only [zn1,zn2,zn3,zn4,zn5,zn6,zn7,zn8,if_true]
  refine AX.sregCV [1, 2, 5, 6] (aI c14 oT) (hq := ?_)
  refine AX.seq ?_
  refine AX.sregAV [1, 2, 5, 6, 8] (hq := ?_)
  refine AX.weaken id (st' := ⟨[(8, .i .i64 (0 : Nat)), (6, .ptr 1 0), (5, .i .i64 n), (2, .ptr 0 0), (1, .sl Sv)], [(1, ⟨41, [.b (decide (q14.num < 0)), dg (digits q14.num.natAbs), dg (digits q14.den)]⟩), (0, ⟨26, [.i .i64 n, .i .i64 n, .sl Ac, .i .i64 n, .i .i64 m, .sl Bc]⟩)], 2⟩)
    leQ5
    ?_
  refine AX.block ?_
  refine AX.loop (fun N st => ∃ i : Nat, i ≤ n ∧ N = n - i ∧ (∀ i', i' < i → P i') ∧ st = ⟨[(8, .i .i64 i), (6, .ptr 1 0), (5, .i .i64 n), (2, .ptr 0 0), (1, .sl Sv)], [(1, ⟨41, [.b (decide (q14.num < 0)), dg (digits q14.num.natAbs), dg (digits q14.den)]⟩), (0, ⟨26, [.i .i64 n, .i .i64 n, .sl Ac, .i .i64 n, .i .i64 m, .sl Bc]⟩)], 2⟩) n ⟨0, Nat.zero_le _, rfl, fun i' h => absurd h (Nat.not_lt_zero _), rfl⟩ ?_
  rintro N st ⟨i, hi, rfl, hPi, rfl⟩
  by_cases h1 : i < n
  · have hset1 := unit_set h1
    have hfz1 : okFrz 0 n 3 (qrow (vl n (unitV i))) = true := by have := okFrz_q (vl n (unitV i)); rw [vl_length] at this; exact this
    have hfz2 : chunks 3 n (((qrow (vl n (unitV i))).drop 0).take (n * 3)) = (vl n (unitV i)).map rV := by
      have h1 := take_q (vl n (unitV i))
      have h2 := chunks_q (vl n (unitV i))
      rw [vl_length] at h1 h2
      rw [h1, h2]
    have cra1 := cra i h1
    have csu1 := csu i h1
    have k21 := k2 i h1
    have hPn := hP1 i
    have hlz : (qrow (List.replicate n (0 : Rat))).length = n * 3 := by rw [qrow_length, List.length_replicate]
    clear cra csu k2 hP1 hnear2 k3 k4 ce ca i1 i2 k1 csv cw c900
    generalize sumN m (outC n A B (unitV i) n) = su at *
    generalize cmpR su q14 = d2 at *
    generalize (vl n (atC n A (unitV i) n)).map rV = Xu at *
    generalize (vl m (outC n A B (unitV i) n)).map rV = Lu at *
    generalize hUr : qrow (vl n (unitV i)) = Ur at *
    generalize hU : (vl n (unitV i)).map rV = U at *
    refine AX.seq ?_
    refine AX.sregAV [1, 2, 5, 6, 8, 60] (hq := ?_)
    refine AX.condT (h := ?_)
    refine AX.keepA [1, 2, 5, 6, 8] (h := ?_)
    refine AX.skip ?_
    try simp only [zn1,zn2,zn3,zn4,zn5,zn6,zn7,zn8,if_true]
    refine AX.seq ?_
    refine AX.block ?_
    refine AX.sregAV [1, 2, 5, 6, 8, 9] (hq := ?_)
    refine AX.weaken id (st' := ⟨[(9, .own 2 0 n 3), (8, .i .i64 i), (6, .ptr 1 0), (5, .i .i64 n), (2, .ptr 0 0), (1, .sl Sv)], [(2, ⟨41, zrow n 0⟩), (1, ⟨41, [.b (decide (q14.num < 0)), dg (digits q14.num.natAbs), dg (digits q14.den)]⟩), (0, ⟨26, [.i .i64 n, .i .i64 n, .sl Ac, .i .i64 n, .i .i64 m, .sl Bc]⟩)], 3⟩)
      leQ5
      ?_
    refine AX.cut (fun st => Le 0 id ⟨[(9, .own 2 0 n 3), (8, .i .i64 i), (6, .ptr 1 0), (5, .i .i64 n), (2, .ptr 0 0), (1, .sl Sv)], [(2, ⟨41, qrow (List.replicate n 0)⟩), (1, ⟨41, [.b (decide (q14.num < 0)), dg (digits q14.num.natAbs), dg (digits q14.den)]⟩), (0, ⟨26, [.i .i64 n, .i .i64 n, .sl Ac, .i .i64 n, .i .i64 m, .sl Bc]⟩)], 3⟩ st) ?_ ?_
    · refine AX.sregAV [1, 2, 5, 6, 8, 9, 66, 67] (hq := ?_)
      refine AX.weaken id (st' := ⟨[(67, .i .i64 (0 : Nat)), (66, .i .i64 n), (9, .own 2 0 n 3), (8, .i .i64 i), (6, .ptr 1 0), (5, .i .i64 n), (2, .ptr 0 0), (1, .sl Sv)], [(2, ⟨41, zrow n 0⟩), (1, ⟨41, [.b (decide (q14.num < 0)), dg (digits q14.num.natAbs), dg (digits q14.den)]⟩), (0, ⟨26, [.i .i64 n, .i .i64 n, .sl Ac, .i .i64 n, .i .i64 m, .sl Bc]⟩)], 3⟩)
        leQ5
        ?_
      refine AX.block ?_
      refine AX.loop (fun N st => ∃ j : Nat, j ≤ n ∧ N = n - j ∧ st = ⟨[(67, .i .i64 j), (66, .i .i64 n), (9, .own 2 0 n 3), (8, .i .i64 i), (6, .ptr 1 0), (5, .i .i64 n), (2, .ptr 0 0), (1, .sl Sv)], [(2, ⟨41, zrow n j⟩), (1, ⟨41, [.b (decide (q14.num < 0)), dg (digits q14.num.natAbs), dg (digits q14.den)]⟩), (0, ⟨26, [.i .i64 n, .i .i64 n, .sl Ac, .i .i64 n, .i .i64 m, .sl Bc]⟩)], 3⟩) n ⟨0, Nat.zero_le _, rfl, rfl⟩ ?_
      rintro N st ⟨j, hj, rfl, rfl⟩
      by_cases h2 : j < n
      · have hl := zrow_length hj
        have hset := zrow_set h2
        obtain ⟨zr1, hz1⟩ : ∃ z, zrow n (j + 1) = z := ⟨_, rfl⟩
        rw [hz1] at hset
        refine AX.sregAV [1, 2, 5, 6, 8, 9, 66, 67, 68] (hq := ?_)
        refine AX.seq ?_
        refine AX.condT (h := ?_)
        refine AX.keepA [1, 2, 5, 6, 8, 9, 66, 67] (h := ?_)
        refine AX.skip ?_
        try simp only [zn1,zn2,zn3,zn4,zn5,zn6,zn7,zn8,if_true]
        refine AX.seq ?_
        refine AX.block ?_
        refine AX.sregAV [1, 2, 5, 6, 8, 9, 10, 66, 67] (hq := ?_)
        refine AX.regWV [1, 2, 5, 6, 8, 9, 66, 67] (aI @hl oT) (aI czero oT) (hq := ?_)
        try simp only [zn1,zn2,zn3,zn4,zn5,zn6,zn7,zn8,if_true]
        rw [hset]
        refine AX.regWV [1, 2, 5, 6, 8, 9, 66, 67] (aI @lit_add oT) oT (hq := ?_)
        try simp only [zn1,zn2,zn3,zn4,zn5,zn6,zn7,zn8,if_true]
        refine ⟨_, _, id, ?_,
          (leQ5H hz1)
          , ⟨j + 1, by omega, rfl, rfl⟩⟩
        omega
      · have e : j = n := by omega
        subst e
        rw [zrow_full]
        refine AX.sregAV [1, 2, 5, 6, 8, 9, 66, 67, 68] (hq := ?_)
        refine AX.seq ?_
        refine AX.condF (h := ?_)
        refine AX.exit ?_
        try simp only [zn1,zn2,zn3,zn4,zn5,zn6,zn7,zn8,if_true]
        exact ⟨by first | exact trivial | rfl,
          leQ5
          ⟩
    · rintro st hle
      refine AX.weaken id hle ?_
      refine AX.sregWV [1, 2, 5, 6, 8, 9] (aI @hlz oT) (aI cone oT) (hq := ?_)
      rw [hset1]
      refine AX.frozen 9 U rfl rfl hfz1 hfz2 ?_
      refine AX.sregCV [1, 2, 5, 6, 8, 12] (aI cof (aI cra1 oT)) (hq := ?_)
      by_cases h3 : d2 < 0
      · refine AX.sdregCV [1, 2, 5, 6, 8, 92] (aI csu1 (aI k21 oT)) (hq := ?_)
        refine AX.condT (h := ?_)
        refine AX.sregCV [4] (aI cal oT) (hq := ?_)
        refine AX.ret (And.intro (Or.inl rfl) ?_)
        exact Done.one rfl rfl rfl rfl
      · have hPn := hPn h3
        refine AX.sdregCV [1, 2, 5, 6, 8, 92] (aI csu1 (aI k21 oT)) (hq := ?_)
        refine AX.condF (h := ?_)
        refine AX.keepA [1, 2, 5, 6, 8] (h := ?_)
        refine AX.skip ?_
        try simp only [zn1,zn2,zn3,zn4,zn5,zn6,zn7,zn8,if_true]
        refine AX.regWV [1, 2, 5, 6, 8] (aI @lit_add oT) oT (hq := ?_)
        try simp only [zn1,zn2,zn3,zn4,zn5,zn6,zn7,zn8,if_true]
        refine ⟨_, _, id, ?_,
          leQ5
          , ⟨i + 1, by omega, rfl, (fun i' hi' => by
            by_cases e : i' = i
            · subst e; exact hPn
            · exact hPi i' (by omega)), rfl⟩⟩
        omega
  · have e : i = n := by omega
    subst e
    have hng := hnear2 hPi
    clear cra csu k2 hP1 hnear2 k1 csv cw c14 hPi
    refine AX.seq ?_
    refine AX.sregAV [1, 2, 5, 6, 8, 60] (hq := ?_)
    refine AX.condF (h := ?_)
    refine AX.exit ?_
    try simp only [zn1,zn2,zn3,zn4,zn5,zn6,zn7,zn8,if_true]
    refine AX.sregCV [1, 2, 5, 14, 16] (aI ce oT) (hq := ?_)
    refine AX.sregWV [14, 16, 18, 19] (aI @et oT) (aI ca oT) (hq := ?_)
    refine AX.sregCV [14, 16, 18, 19, 20] (aI c900 oT) (hq := ?_)
    refine AX.seq ?_
    refine AX.sregWV [14, 18, 20, 126] (aI @m1 (aI @m2 oT)) oT (hq := ?_)
    refine AX.condF (h := ?_)
    refine AX.keepA [14, 18, 20] (h := ?_)
    refine AX.skip ?_
    try simp only [zn1,zn2,zn3,zn4,zn5,zn6,zn7,zn8,if_true]
    refine AX.seq ?_
    refine AX.sregWV [14, 18, 20, 128, 129] (aI @m1 oT) oT (hq := ?_)
    refine AX.weaken (fun k => if k = 0 then 3 else k) (st' := ⟨[(129, .i .i64 (0 : Nat)), (128, .i .i64 m), (20, .ptr 0 0), (18, .sl La), (14, .sl Le')], [(0, ⟨41, [.b (decide (q900.num < 0)), dg (digits q900.num.natAbs), dg (digits q900.den)]⟩)], 1⟩)
      leQ5
      ?_
    refine AX.block ?_
    refine AX.loop (fun N st => ∃ j : Nat, j ≤ m ∧ N = m - j ∧ st = ⟨[(129, .i .i64 j), (128, .i .i64 m), (20, .ptr 0 0), (18, .sl La), (14, .sl Le')], [(0, ⟨41, [.b (decide (q900.num < 0)), dg (digits q900.num.natAbs), dg (digits q900.den)]⟩)], 1⟩) m ⟨0, Nat.zero_le _, rfl, rfl⟩ ?_
    rintro N st ⟨j, hj, rfl, rfl⟩
    by_cases h2 : j < m
    · have j1 := i1 j h2
      have j2 := i2 j h2
      have p1 := k3 j h2
      have p2 := k4 j h2
      have p3 := hng j h2
      clear i1 i2 k3 k4 hng
      generalize cmpR (oe j - oa j) q900 = d3 at *
      generalize oe j - oa j = df at *
      generalize oe j = a at *
      generalize oa j = b at *
      refine AX.sregAV [14, 18, 20, 128, 129, 130] (hq := ?_)
      refine AX.seq ?_
      refine AX.condT (h := ?_)
      refine AX.keepA [14, 18, 20, 128, 129] (h := ?_)
      refine AX.skip ?_
      try simp only [zn1,zn2,zn3,zn4,zn5,zn6,zn7,zn8,if_true]
      refine AX.seq ?_
      refine AX.block ?_
      refine AX.sregAV [14, 18, 20, 22, 128, 129] (hq := ?_)
      refine AX.sdregEV [14, 18, 20, 128, 129, 143] oT (aI p1 (aI p2 oT)) (aI j1 (aI j2 oT)) (hq := ?_)
      refine AX.condF (h := ?_)
      refine AX.keepA [14, 18, 20, 128, 129] (h := ?_)
      refine AX.skip ?_
      try simp only [zn1,zn2,zn3,zn4,zn5,zn6,zn7,zn8,if_true]
      refine AX.regWV [14, 18, 20, 128, 129] (aI @lit_add oT) oT (hq := ?_)
      try simp only [zn1,zn2,zn3,zn4,zn5,zn6,zn7,zn8,if_true]
      refine ⟨_, _, id, ?_,
        leQ5
        , ⟨j + 1, by omega, rfl, rfl⟩⟩
      omega
    · have e : j = m := by omega
      subst e
      clear i1 i2 k3 k4 hng
      refine AX.sregAV [14, 18, 20, 128, 129, 130] (hq := ?_)
      refine AX.seq ?_
      refine AX.condF (h := ?_)
      refine AX.exit ?_
      try simp only [zn1,zn2,zn3,zn4,zn5,zn6,zn7,zn8,if_true]
      refine AX.sregCV [4] (aI cal oT) (hq := ?_)
      refine AX.ret (And.intro (Or.inl rfl) ?_)
      exact Done.one rfl rfl rfl rfl
theorem chainNear_ok (R1 C1 R2 C2 : Int) (xs ys ss : List RT) (h1 : bd R1) (h2 : bd C1) (h3 : bd R2) (h4 : bd C2) (hx : okRT xs) (hy : okRT ys) (hs : okRT ss) (lx : xs.length < 2 ^ 62) (ly : ys.length < 2 ^ 62) (ls : ss.length < 2 ^ 62) :
    PCall Tryz.prog 9 [.agg [.i .i64 R1, .i .i64 C1, .sl (xs.map fR), .i .i64 R2, .i .i64 C2, .sl (ys.map fR)], .sl (ss.map fR)] (.b true) [] := by
  obtain ⟨c', S', cf, hf, s1, s2, s3⟩ := few_all R1 C1 R2 C2 xs ys ss h1 h2 h3 h4 hx hy hs lx ly ls
  have nb : ∀ n : Nat, n ≤ 60 → bd (n : Int) := fun n h => by unfold bd; omega
  cases hf with
  | shape R1 C1 R2 C2 xs ys h1 h2 h3 h4 hx hy lx ly hno => exact near_not _ _ _ _ _ _ _ _ _ rfl _ _ _ _ _ _ h1 cf (r20right_not R1 C1 R2 C2 xs ys h1 h2 h3 h4 hx hy (by omega) (by omega) hno)
  | rows n m A B hn hm hA hB hC =>
    have c1 := r20right_ok n m 3 hn hm A B hA hB (by decide) (by decide)
    rw [hC] at c1
    exact near_not _ _ _ _ _ _ _ _ _ rfl _ _ _ _ _ _ (nb n hn) cf c1
  | ok n m A B hn hm hA hB hC =>
    have c1 := r20right_ok n m 38 (by omega) (by omega) A B hA hB (by decide) (by decide)
    rw [hC] at c1
    have w1 := rweights_ok n (by omega) S' (by omega) s1
    cases hW : isW n S' with
    | false =>
      rw [hW] at w1
      exact near_weights _ _ _ _ _ _ _ _ _ rfl _ _ _ _ _ _ (nb n (by omega)) cf c1 w1
    | true =>
      obtain ⟨v, rfl, hv⟩ := isW_vec (fun x hx => ⟨(s1 x hx).1, (s1 x hx).2.1⟩) hW
      rw [map_toRT] at cf
      refine near_ok _ _ _ _ _ _ _ _ rfl n m A B v ⟨hn, hm, hA, hB, hC, hv, fun i hi => ?_⟩ cf
      have hm : toRT (v i) ∈ (vl n v).map toRT := List.mem_map.2 ⟨v i, List.mem_map.2 ⟨i, by simpa using hi, rfl⟩, rfl⟩
      exact toRT_len (s3 _ hm).1 (s3 _ hm).2
end Go.Proofs.YtepkjfnffbdcoaaGreat
