/- What is right is in lowest terms; the reference's Weights and Right. -/
import Derived.Test.YtepkjfnffbdcoaaGreatRfB
set_option linter.unusedVariables false
set_option maxRecDepth 20000
set_option linter.unusedSimpArgs false
namespace Go.Proofs.YtepkjfnffbdcoaaGreat
open Go Go.Proofs.YtepkjfnffbdcoaaGreat.Lift
attribute [local irreducible] Lift.PCall Lift.HCall

/-! ### What is right stands for itself -/
theorem right_digits_val : ∀ {l : List Nat}, Dg l → right l = true → digits (val l) = l := by
  intro l
  induction l with
  | nil => intro _ _; exact digits_zero
  | cons d l ih =>
    intro hd hr
    obtain ⟨h1, h2⟩ := Dg_cons.1 hd
    have hr := of_decide_eq_true hr
    have e : val (d :: l) = d + 4294967296 * val l := rfl
    cases l with
    | nil =>
      have hd0 : d ≠ 0 := by
        rcases hr with h | h
        · simp at h
        · simpa using h
      rw [e, digits_pos (by omega)]
      have e0 : val ([] : List Nat) = 0 := rfl
      rw [e0, Nat.mul_zero, Nat.add_zero, Nat.mod_eq_of_lt h1, Nat.div_eq_of_lt h1, digits_zero]
    | cons d' l =>
      have hr' : right (d' :: l) = true := by
        refine decide_eq_true (.inr ?_)
        rcases hr with h | h
        · simp at h
        · simpa using h
      have hi := ih h2 hr'
      have hp : val (d' :: l) ≠ 0 := by
        intro h
        rw [h, digits_zero] at hi
        cases hi
      rw [e, digits_pos (by omega), show (d + 4294967296 * val (d' :: l)) % 4294967296 = d by omega, show (d + 4294967296 * val (d' :: l)) / 4294967296 = val (d' :: l) by omega, hi]
theorem isR_rat {s : Bool} {a b : List Nat} (ha : Dg a) (hb : Dg b) (h : isR s a b = true) : ∃ q : Rat, (s, a, b) = toRT q := by
  unfold isR at h
  simp only [Bool.and_eq_true, decide_eq_true_eq] at h
  obtain ⟨⟨⟨⟨h1, h2⟩, h3⟩, h4⟩, h5⟩ := h
  have ea := right_digits_val ha h1
  have eb := right_digits_val hb h2
  have hb0 : val b ≠ 0 := by
    intro h
    rw [h, digits_zero] at eb
    rw [← eb] at h3
    simp at h3
  have hg : Nat.gcd (val a) (val b) = 1 := of_decide_eq_true h4
  refine ⟨rq s (val a) (val b), ?_⟩
  have hn : (rq s (val a) (val b)).num = sg s (val a) := by rw [rq_num hb0, hg, Nat.div_one]
  have hd : (rq s (val a) (val b)).den = val b := by rw [rq_den hb0, hg, Nat.div_one]
  unfold toRT
  rw [hn, hd, sg_natAbs, sg_neg, ea, eb]
  have hs : (s && decide (val a ≠ 0)) = s := by
    cases s
    · rfl
    · have : 0 < a.length := by simpa using h5
      rw [Bool.true_and]
      exact decide_eq_true fun h => by
        rw [h, digits_zero] at ea
        rw [← ea] at this
        simp at this
  rw [hs]
theorem isR3_rat {x : RT} (ha : Dg x.2.1) (hb : Dg x.2.2) (h : isR3 x = true) : ∃ q : Rat, x = toRT q := by
  obtain ⟨s, a, b⟩ := x
  exact isR_rat ha hb h
theorem toRT_len {q : Rat} {L : Nat} (h1 : (toRT q).2.1.length ≤ L) (h2 : (toRT q).2.2.length ≤ L) : rL q ≤ L := Nat.max_le.2 ⟨h1, h2⟩
theorem all_rat {xs : List RT} (hd : ∀ x ∈ xs, Dg x.2.1 ∧ Dg x.2.2) (h : xs.all isR3 = true) : ∃ qs : List Rat, xs = qs.map toRT := by
  induction xs with
  | nil => exact ⟨[], rfl⟩
  | cons x xs ih =>
    rw [List.all_cons, Bool.and_eq_true] at h
    obtain ⟨qs, hq⟩ := ih (fun y hy => hd y (List.mem_cons_of_mem _ hy)) h.2
    obtain ⟨q, hx⟩ := isR3_rat (hd x List.mem_cons_self).1 (hd x List.mem_cons_self).2 h.1
    exact ⟨q :: qs, by rw [hx, hq]; rfl⟩
/-- A list is what a function tells. -/
theorem list_mcells {r c : Nat} {qs : List Rat} (h : qs.length = r * c) : ∃ A : Mx, qs = mcells c A (r * c) := by
  refine ⟨fun i k => qs.getD (i * c + k) 0, ?_⟩
  apply List.ext_getElem?
  intro j
  unfold mcells
  by_cases hj : j < r * c
  · have e : j / c * c + j % c = j := Nat.div_add_mod' j c
    simp only [List.getElem?_map, List.getElem?_range hj, Option.map_some, e]
    rw [List.getD_eq_getElem?_getD, List.getElem?_eq_getElem (by omega)]
    rfl
  · rw [List.getElem?_eq_none (by omega), List.getElem?_eq_none (by simp; omega)]
theorem list_vl {n : Nat} {qs : List Rat} (h : qs.length = n) : ∃ v : Nat → Rat, qs = vl n v := by
  refine ⟨fun i => qs.getD i 0, ?_⟩
  apply List.ext_getElem?
  intro j
  unfold vl
  by_cases hj : j < n
  · simp only [List.getElem?_map, List.getElem?_range hj, Option.map_some]
    rw [List.getD_eq_getElem?_getD, List.getElem?_eq_getElem (by omega)]
    rfl
  · rw [List.getElem?_eq_none (by omega), List.getElem?_eq_none (by simp; omega)]
theorem isM_mat {R C : Int} {xs : List RT} (hd : ∀ x ∈ xs, Dg x.2.1 ∧ Dg x.2.2) (h : isM R C xs = true) : ∃ (r c : Nat) (A : Mx), R = r ∧ C = c ∧ r ≤ 60 ∧ c ≤ 60 ∧ xs = (mcells c A (r * c)).map toRT := by
  unfold isM at h
  rw [Bool.and_eq_true, decide_eq_true_eq] at h
  obtain ⟨⟨h1, h2, h3, h4, h5⟩, h6⟩ := h
  obtain ⟨qs, rfl⟩ := all_rat hd h6
  obtain ⟨r, rfl⟩ := Int.eq_ofNat_of_zero_le h1
  obtain ⟨c, rfl⟩ := Int.eq_ofNat_of_zero_le h3
  rw [List.length_map, ← Int.natCast_mul] at h5
  obtain ⟨A, hA⟩ := list_mcells (r := r) (c := c) (qs := qs) (by omega)
  exact ⟨r, c, A, rfl, rfl, by omega, by omega, by rw [hA]⟩
theorem isW_vec {n : Nat} {ss : List RT} (hd : ∀ x ∈ ss, Dg x.2.1 ∧ Dg x.2.2) (h : isW n ss = true) : ∃ v : Nat → Rat, ss = (vl n v).map toRT ∧ ∀ i, i < n → 0 ≤ v i := by
  unfold isW at h
  rw [Bool.and_eq_true, decide_eq_true_eq, Bool.not_eq_true', List.any_eq_false] at h
  obtain ⟨h1, h2⟩ := h
  obtain ⟨qs, rfl⟩ := all_rat hd (List.all_eq_true.2 fun x hx => by
    have := h2 x hx
    cases h : isR3 x
    · simp [h] at this
    · rfl)
  rw [List.length_map] at h1
  obtain ⟨v, rfl⟩ := list_vl h1
  refine ⟨v, rfl, fun i hi => ?_⟩
  have hm : toRT (v i) ∈ (vl n v).map toRT := List.mem_map.2 ⟨v i, List.mem_map.2 ⟨i, by simpa using hi, rfl⟩, rfl⟩
  have := h2 _ hm
  have h3 : (toRT (v i)).1 = false := by
    cases h : (toRT (v i)).1
    · rfl
    · simp [h] at this
  exact num_nonneg.1 h3

/-! ### The reference's Weights -/
set_option maxHeartbeats 4000000 in
theorem rweights_ok (n : Nat) (hn : n ≤ 60) (ss : List RT) (hl : ss.length < 2 ^ 40) (hx : okX ss) : PCall Tryz.prog 44 [.sl (ss.map fR), .i .i64 n] (.b (isW n ss)) [] := by
  refine PCall.of_ax Tryz.call44 Tryz.func44 rfl (by simp [Tryz.ntmps44]) fun O w => ?_
  simp only [Tryz.ntmps44, Tryz.results44, argFr]
  have hml : (ss.map fR).length = ss.length := List.length_map ..
  by_cases hn' : ss.length = n
  · have hbad : ∀ x ∈ ss, (!isR3 x || x.1) = true → isW n ss = false := fun x hx h => by
      unfold isW
      rw [List.any_eq_true.2 ⟨x, hx, h⟩, Bool.not_true, Bool.and_false]
    have hgood : (∀ x ∈ ss, (!isR3 x || x.1) = false) → isW n ss = true := fun h => by
      unfold isW
      rw [decide_eq_true hn', List.any_eq_false.2 fun x hx => by rw [h x hx]; exact Bool.false_ne_true]
      rfl
    generalize isW n ss = res at *
    refine AX.sregAV [0, 1] (hq := ?_)
    refine AX.seq ?_
    refine AX.sregWV [0, 10] (aI @hml oT) oT (hq := ?_)
    refine AX.condF (h := ?_)
    refine AX.keepA [0] (h := ?_)
    refine AX.skip ?_
    try simp only [zn1,zn2,zn3,zn4,zn5,zn6,zn7,zn8,if_true]
    refine AX.seq ?_
    refine AX.sregWV [11, 12, 13] (aI @hml oT) oT (hq := ?_)
    refine AX.weaken id (st' := ⟨[(13, .i .i64 (0 : Nat)), (12, .i .i64 ss.length), (11, .sl (ss.map fR))], [], 0⟩)
      leQ4
      ?_
    refine AX.block ?_
    refine AX.loop (fun N st => ∃ j : Nat, j ≤ ss.length ∧ N = ss.length - j ∧ (∀ k, k < j → (!isR3 (ss.getD k d0) || (ss.getD k d0).1) = false) ∧ st = ⟨[(13, .i .i64 j), (12, .i .i64 ss.length), (11, .sl (ss.map fR))], [], 0⟩) ss.length ⟨0, Nat.zero_le _, rfl, fun k hk => absurd hk (Nat.not_lt_zero _), rfl⟩ ?_
    rintro N st ⟨j, hj, rfl, hno, rfl⟩
    by_cases h1 : j < ss.length
    · have hmem := getD_mem_RT h1
      have hix := fun x y => effIxR (x := x) (y := y) (els := ss.map fR) (j := j) (s := (ss.getD j d0).1) (a := (ss.getD j d0).2.1) (b := (ss.getD j d0).2.2) (by omega) (by rw [List.getD_eq_getElem?_getD, List.getElem?_map, List.getElem?_eq_getElem h1, List.getD_eq_getElem?_getD, List.getElem?_eq_getElem h1]; rfl)
      have hb := hbad _ hmem
      obtain ⟨g1, g2, g3, g4⟩ := hx _ hmem
      have hnext : (!isR3 (ss.getD j d0) || (ss.getD j d0).1) = false → ∀ k, k < j + 1 → (!isR3 (ss.getD k d0) || (ss.getD k d0).1) = false := by
        intro h k hk
        by_cases e : k = j
        · subst e; exact h
        · exact hno k (by omega)
      clear hmem hbad hgood
      generalize ss.getD j d0 = x at *
      obtain ⟨s, a, b⟩ := x
      dsimp only at g1 g2 g3 g4 hix
      have cr : PCall Tryz.prog 30 [.agg [.b s, dg a, dg b]] (.b (isR s a b)) [] := pright_ok s a b g1 g2 g3 g4
      generalize hsl : ss.map fR = sl at *
      by_cases hr : isR s a b = true
      · obtain ⟨q, hq⟩ := isR_rat g1 g2 hr
        simp only [toRT, Prod.mk.injEq] at hq
        obtain ⟨q1, q2, q3⟩ := hq
        have csg : PCall Tryz.prog 31 [.agg [.b s, dg a, dg b]] (.i .i64 (sgnR q)) [] := by
          rw [q1, q2, q3]
          exact psign_ok (L := 2 ^ 36 - 1) (IsQ.of (Nat.max_le.2 ⟨by rw [← q2]; omega, by rw [← q3]; omega⟩)) (by omega)
        have hsg : sgnR q < 0 ↔ q.num < 0 := by
          unfold sgnR
          have h0 : q.num = 0 ↔ q = 0 := Rat.num_eq_zero
          have h1 : q.num < 0 ↔ q < 0 := by
            rw [← Rat.not_le, ← Rat.num_nonneg]
            omega
          by_cases hlt : q < 0
          · simp [hlt, h1]
          · simp only [hlt, if_false, h1, iff_false]
            split <;> omega
        rw [hr] at cr
        cases s
        · have hneg : ¬ q.num < 0 := of_decide_eq_false q1.symm
          have hns : ¬ sgnR q < 0 := fun h => hneg (hsg.1 h)
          have hne := hnext (by show (!isR false a b || false) = false; rw [hr]; rfl)
          clear hsg hb hnext
          generalize sgnR q = sgq at *
          refine AX.sregAV [11, 12, 13, 14] (hq := ?_)
          refine AX.seq ?_
          refine AX.condT (h := ?_)
          refine AX.keepA [11, 12, 13] (h := ?_)
          refine AX.skip ?_
          try simp only [zn1,zn2,zn3,zn4,zn5,zn6,zn7,zn8,if_true]
          refine AX.seq ?_
          refine AX.block ?_
          refine AX.sregEV [6, 11, 12, 13] oT oT (aI hix oT) (hq := ?_)
          refine AX.sregCV [11, 12, 13, 24] (aI cr (aI csg oT)) (hq := ?_)
          refine AX.condF (h := ?_)
          refine AX.keepA [11, 12, 13] (h := ?_)
          refine AX.skip ?_
          try simp only [zn1,zn2,zn3,zn4,zn5,zn6,zn7,zn8,if_true]
          refine AX.regWV [11, 12, 13] (aI @lit_add oT) oT (hq := ?_)
          try simp only [zn1,zn2,zn3,zn4,zn5,zn6,zn7,zn8,if_true]
          refine ⟨_, _, id, ?_,
            leQ4
            , ⟨j + 1, by omega, rfl, hne, rfl⟩⟩
          omega
        · have hneg : q.num < 0 := of_decide_eq_true q1.symm
          have hns : sgnR q < 0 := hsg.2 hneg
          have er : res = false := hb (by show (!isR true a b || true) = true; rw [Bool.or_true])
          subst er
          clear hsg hb hnext
          generalize sgnR q = sgq at *
          refine AX.sregAV [11, 12, 13, 14] (hq := ?_)
          refine AX.seq ?_
          refine AX.condT (h := ?_)
          refine AX.keepA [11, 12, 13] (h := ?_)
          refine AX.skip ?_
          try simp only [zn1,zn2,zn3,zn4,zn5,zn6,zn7,zn8,if_true]
          refine AX.seq ?_
          refine AX.block ?_
          refine AX.sregEV [6, 11, 12, 13] oT oT (aI hix oT) (hq := ?_)
          refine AX.sregCV [11, 12, 13, 24] (aI cr (aI csg oT)) (hq := ?_)
          refine AX.condT (h := ?_)
          refine AX.sregAV [4] (hq := ?_)
          refine AX.ret (And.intro (Or.inl rfl) ?_)
          exact Done.one rfl rfl rfl rfl
      · have hr' : isR s a b = false := by simpa using hr
        have er : res = false := hb (by show (!isR s a b || s) = true; rw [hr']; rfl)
        subst er
        rw [hr'] at cr
        clear hb hnext
        refine AX.sregAV [11, 12, 13, 14] (hq := ?_)
        refine AX.seq ?_
        refine AX.condT (h := ?_)
        refine AX.keepA [11, 12, 13] (h := ?_)
        refine AX.skip ?_
        try simp only [zn1,zn2,zn3,zn4,zn5,zn6,zn7,zn8,if_true]
        refine AX.seq ?_
        refine AX.block ?_
        refine AX.sregEV [6, 11, 12, 13] oT oT (aI hix oT) (hq := ?_)
        refine AX.sregCV [11, 12, 13, 24] (aI cr oT) (hq := ?_)
        refine AX.condT (h := ?_)
        refine AX.sregAV [4] (hq := ?_)
        refine AX.ret (And.intro (Or.inl rfl) ?_)
        exact Done.one rfl rfl rfl rfl
    · have er : res = true := hgood fun x hx => by
        obtain ⟨k, hk, rfl⟩ := List.getElem_of_mem hx
        have := hno k (by omega)
        rwa [List.getD_eq_getElem?_getD, List.getElem?_eq_getElem hk] at this
      subst er
      refine AX.sregAV [11, 12, 13, 14] (hq := ?_)
      refine AX.seq ?_
      refine AX.condF (h := ?_)
      refine AX.exit ?_
      try simp only [zn1,zn2,zn3,zn4,zn5,zn6,zn7,zn8,if_true]
      refine AX.sregAV [4] (hq := ?_)
      refine AX.ret (And.intro (Or.inl rfl) ?_)
      exact Done.one rfl rfl rfl rfl
  · have e : isW n ss = false := by
      unfold isW
      rw [decide_eq_false hn']
      rfl
    rw [e]
    generalize ss.map fR = sl at *
    refine AX.sregAV [0, 1] (hq := ?_)
    refine AX.seq ?_
    refine AX.sregWV [0, 10] (aI @hml oT) oT (hq := ?_)
    refine AX.condT (h := ?_)
    refine AX.sregAV [4] (hq := ?_)
    refine AX.ret (And.intro (Or.inl rfl) ?_)
    exact Done.one rfl rfl rfl rfl

end Go.Proofs.YtepkjfnffbdcoaaGreat
