/- Statements about chains: ChainMoves behind the cut. -/
import Derived.Test.YtepkjfnffbdcoaaGreatChS
set_option linter.unusedVariables false
set_option maxRecDepth 20000
set_option linter.unusedSimpArgs false
namespace Go.Proofs.YtepkjfnffbdcoaaGreat
open Go Go.Proofs.YtepkjfnffbdcoaaGreat.Lift
attribute [local irreducible] Lift.PCall Lift.HCall

/-- Right and After of both answer alike. -/
def Agree (c : V) (S : List V) (z : Int) : Prop := ∃ (b : Bool) (us ws : List Rat) (e : Int), PCall Tryz.prog 41 [c] (.b b) [] ∧ PCall Tryz.prog 42 [c] (.b b) [] ∧
  PCall Tryz.prog 39 [c, .sl S, .i .i64 z] (.tup [.sl (us.map rV), .sl (ws.map rV), .i .i64 e]) [] ∧ PCall Tryz.prog 40 [c, .sl S, .i .i64 z] (.tup [.sl (us.map rV), .sl (ws.map rV), .i .i64 e]) [] ∧
  (∀ q ∈ us, rL q ≤ 60000) ∧ (∀ q ∈ ws, rL q ≤ 60000) ∧ us.length < 2 ^ 20 ∧ ws.length < 2 ^ 20
theorem nilL : ∀ q ∈ ([] : List Rat), rL q ≤ 60000 := fun q h => nomatch h
theorem agree_not (R1 C1 R2 C2 : Int) (xs ys : List RT) (S : List V) (z : Int) (hR1 : -9223372036854775808 ≤ R1 ∧ R1 ≤ 9223372036854775807) (hC1 : -9223372036854775808 ≤ C1 ∧ C1 ≤ 9223372036854775807) (hR2 : -9223372036854775808 ≤ R2 ∧ R2 ≤ 9223372036854775807) (hC2 : -9223372036854775808 ≤ C2 ∧ C2 ≤ 9223372036854775807)
    (hx : okX xs) (hy : okX ys) (hl : xs.length < 2 ^ 40) (hl2 : ys.length < 2 ^ 40) (hno : (isM R1 C1 xs && isM R2 C2 ys && decide (R1 = C1) && decide (R2 = R1)) = false) : Agree (.agg [.i .i64 R1, .i .i64 C1, .sl (xs.map fR), .i .i64 R2, .i .i64 C2, .sl (ys.map fR)]) S z := by
  have c1 := cright_not R1 C1 R2 C2 xs ys hR1 hC1 hR2 hC2 hx hy hl hl2 hno
  have c2 := r20right_not R1 C1 R2 C2 xs ys hR1 hC1 hR2 hC2 hx hy hl hl2 hno
  exact ⟨false, [], [], 1, c1, c2, cafter_not R1 C1 R2 C2 _ _ S z c1, rafter_not R1 C1 R2 C2 _ _ S z c2, nilL, nilL, by decide, by decide⟩
theorem agree_isC (n m : Nat) (hn : n ≤ 60) (hm : m ≤ 60) (A B : Mx) (hA : ∀ i k, i < n → k < n → rL (A i k) ≤ 3) (hB : ∀ i k, i < n → k < m → rL (B i k) ≤ 3) (hC : isC n m A B = false) (S : List V) (z : Int) : Agree (cV n m A B) S z := by
  have c1 := cright_ok n m 3 hn hm A B hA hB (by decide) (by decide)
  have c2 := r20right_ok n m 3 hn hm A B hA hB (by decide) (by decide)
  rw [hC] at c1 c2
  exact ⟨false, [], [], 1, c1, c2, cafter_not n n n m _ _ S z c1, rafter_not n n n m _ _ S z c2, nilL, nilL, by decide, by decide⟩
theorem agree_ok (n m : Nat) (hn : n ≤ 8) (hm : m ≤ 5) (A B : Mx) (hA : ∀ i k, i < n → k < n → rL (A i k) ≤ 38) (hB : ∀ i k, i < n → k < m → rL (B i k) ≤ 38) (hC : isC n m A B = true) (ss : List RT) (hs : okX ss) (hl : ss.length ≤ 100) (hs3 : ∀ x ∈ ss, x.2.1.length ≤ 3 ∧ x.2.2.length ≤ 3) (z : Int) (hz : z ≤ 14 ∨ 200 < z) : Agree (cV n m A B) (ss.map fR) z := by
  have c1 := cright_ok n m 38 (by omega) (by omega) A B hA hB (by decide) (by decide)
  have c2 := r20right_ok n m 38 (by omega) (by omega) A B hA hB (by decide) (by decide)
  rw [hC] at c1 c2
  have w1 := weights_ok n m A B (by omega) ss (by omega) hs
  have w2 := rweights_ok n (by omega) ss (by omega) hs
  by_cases hb : isW n ss = false ∨ z < 0
  · exact ⟨true, [], [], 1, c1, c2, cafter_arg n m A B _ z _ hb c1 w1, rafter_arg n m A B _ z _ hb c2 w2, nilL, nilL, by decide, by decide⟩
  · have hW : isW n ss = true := by
      cases h : isW n ss
      · exact absurd (.inl h) hb
      · rfl
    have hz0 : ¬ z < 0 := fun h => hb (.inr h)
    rw [hW] at w1 w2
    by_cases hz2 : 200 < z
    · exact ⟨true, [], [], 2, c1, c2, cafter_limit n m A B _ z hz2 c1 w1, rafter_limit n m A B _ z hz2 c2 w2, nilL, nilL, by decide, by decide⟩
    · obtain ⟨t, rfl⟩ := Int.eq_ofNat_of_zero_le (show 0 ≤ z by omega)
      have ht : t ≤ 14 := by omega
      obtain ⟨v, rfl, hv⟩ := isW_vec (fun x hx => ⟨(hs x hx).1, (hs x hx).2.1⟩) hW
      have hvL : ∀ i, i < n → rL (v i) ≤ 3 := fun i hi => by
        have hm : toRT (v i) ∈ (vl n v).map toRT := List.mem_map.2 ⟨v i, List.mem_map.2 ⟨i, by simpa using hi, rfl⟩, rfl⟩
        exact toRT_len (hs3 _ hm).1 (hs3 _ hm).2
      rw [map_toRT]
      have hml := fun (j : Nat) (hj : j ≤ t) => move_len hC hn hm hA hB hv hvL (t := j) (by omega)
      have a1 := after_ok n m 38 60000 t (by omega) (by omega) A B hC hA hB (by decide) (by decide) v hv (by omega) (fun j hj => (hml j hj).1) (fun j hj => (hml j hj).2) (by decide) (by decide)
      have a2 := rafter_ok n m 38 60000 t (by omega) (by omega) A B hC hA hB (by decide) (by decide) v hv (by omega) (fun j hj => (hml j hj).1) (fun j hj => (hml j hj).2) (by decide) (by decide)
      exact ⟨true, _, _, 0, c1, c2, a1, a2, vl_mem (hml t (Nat.le_refl _)).1, vl_mem (hml t (Nat.le_refl _)).2, by rw [vl_length]; omega, by rw [vl_length]; omega⟩

set_option maxHeartbeats 8000000 in
/-- The law, behind the cut. -/
theorem moves_rest (c c' : V) (S S' : List V) (z : Int) (R1 C1 R2 C2 : Int) (x y : List V) (hc : c = .agg [.i .i64 R1, .i .i64 C1, .sl x, .i .i64 R2, .i .i64 C2, .sl y]) (R1' C1' R2' C2' : Int) (x' y' : List V) (hc' : c' = .agg [.i .i64 R1', .i .i64 C1', .sl x', .i .i64 R2', .i .i64 C2', .sl y'])
    (cf : PCall Tryz.prog 14 [c, .sl S] (.tup [c', .sl S']) []) (hz : -9223372036854775808 ≤ z ∧ z ≤ 9223372036854775807) (hag : ∀ z, z ≤ 14 ∨ 200 < z → Agree c' S' z) : PCall Tryz.prog 7 [c, .sl S, .i .i64 z] (.b true) [] := by
  subst hc hc'
  have cof := lof_ok R1' C1' R2' C2' x' y'
  have cal := lalive_ok
  by_cases h : 14 < z ∧ z ≤ 200
  · obtain ⟨h1, h2⟩ := h
    obtain ⟨r, hr⟩ : ∃ r, Int.tmod z 14 = r := ⟨_, rfl⟩
    have hr1 : r < 14 := by rw [← hr]; exact Int.tmod_lt_of_pos z (by decide)
    obtain ⟨b, us, ws, e, a1, a2, a3, a4, l1, l2, l3, l4⟩ := hag r (.inl (by omega))
    have s1 := c20same_ok us us 60000 l1 l1 (by decide) (by decide) (by omega) (by omega)
    have s2 := c20same_ok ws ws 60000 l2 l2 (by decide) (by decide) (by omega) (by omega)
    rw [decide_eq_true rfl] at s1 s2
    clear l1 l2 l3 l4 hag
    refine PCall.of_ax Tryz.call7 Tryz.func7 rfl (by simp [Tryz.ntmps7]) fun O w0 => ?_
    simp only [Tryz.ntmps7, Tryz.results7, argFr]
    generalize us.map rV = U at *
    generalize ws.map rV = W at *
    refine AX.sregAV [1, 2, 3] (hq := ?_)
    refine AX.sregCV [1, 2, 3] (aI cf oT) (hq := ?_)
    refine AX.seq ?_
    refine AX.sregAV [1, 2, 3, 24] (hq := ?_)
    refine AX.condT (h := ?_)
    refine AX.regWV [1, 2, 3] (aI @hr oT) oT (hq := ?_)
    try simp only [zn1,zn2,zn3,zn4,zn5,zn6,zn7,zn8,if_true]
    refine AX.sregCV [1, 2, 3, 7, 8, 9] (aI a3 oT) (hq := ?_)
    refine AX.sregCV [3, 7, 8, 9, 10, 11, 12] (aI cof (aI a4 oT)) (hq := ?_)
    cases b
    · refine AX.sdregCV [6] (aI a1 (aI cof (aI a2 (aI s1 (aI s2 (aI cal oT)))))) (hq := ?_)
      refine AX.ret (And.intro (Or.inl rfl) ?_)
      exact Done.one rfl rfl rfl rfl
    · refine AX.sdregCV [6] (aI a1 (aI cof (aI a2 (aI s1 (aI s2 (aI cal oT)))))) (hq := ?_)
      refine AX.ret (And.intro (Or.inl rfl) ?_)
      exact Done.one rfl rfl rfl rfl
  · obtain ⟨b, us, ws, e, a1, a2, a3, a4, l1, l2, l3, l4⟩ := hag z (by omega)
    have s1 := c20same_ok us us 60000 l1 l1 (by decide) (by decide) (by omega) (by omega)
    have s2 := c20same_ok ws ws 60000 l2 l2 (by decide) (by decide) (by omega) (by omega)
    rw [decide_eq_true rfl] at s1 s2
    clear l1 l2 l3 l4 hag
    refine PCall.of_ax Tryz.call7 Tryz.func7 rfl (by simp [Tryz.ntmps7]) fun O w0 => ?_
    simp only [Tryz.ntmps7, Tryz.results7, argFr]
    generalize us.map rV = U at *
    generalize ws.map rV = W at *
    refine AX.sregAV [1, 2, 3] (hq := ?_)
    refine AX.sregCV [1, 2, 3] (aI cf oT) (hq := ?_)
    refine AX.cut (fun st => Le 0 id ⟨[(3, .ptr 0 0), (1, .sl S'), (2, .i .i64 z)], [(0, ⟨26, [.i .i64 R1', .i .i64 C1', .sl x', .i .i64 R2', .i .i64 C2', .sl y']⟩)], 1⟩ st) ?_ ?_
    · by_cases h1 : 14 < z
      · have h2 : 200 < z := by omega
        refine AX.sregAV [1, 2, 3, 24] (hq := ?_)
        refine AX.condF (h := ?_)
        refine AX.keepA [1, 2, 3] (h := ?_)
        refine AX.skip ⟨by first | exact trivial | rfl,
          leQ5
          ⟩
      · refine AX.sregAV [1, 2, 3, 24] (hq := ?_)
        refine AX.condF (h := ?_)
        refine AX.keepA [1, 2, 3] (h := ?_)
        refine AX.skip ⟨by first | exact trivial | rfl,
          leQ5
          ⟩
    rintro st hle
    refine AX.weaken id hle ?_
    refine AX.sregCV [1, 2, 3, 7, 8, 9] (aI a3 oT) (hq := ?_)
    refine AX.sregCV [3, 7, 8, 9, 10, 11, 12] (aI cof (aI a4 oT)) (hq := ?_)
    cases b
    · refine AX.sdregCV [6] (aI a1 (aI cof (aI a2 (aI s1 (aI s2 (aI cal oT)))))) (hq := ?_)
      refine AX.ret (And.intro (Or.inl rfl) ?_)
      exact Done.one rfl rfl rfl rfl
    · refine AX.sdregCV [6] (aI a1 (aI cof (aI a2 (aI s1 (aI s2 (aI cal oT)))))) (hq := ?_)
      refine AX.ret (And.intro (Or.inl rfl) ?_)
      exact Done.one rfl rfl rfl rfl

end Go.Proofs.YtepkjfnffbdcoaaGreat
