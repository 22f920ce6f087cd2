/- Statements about chains: ChainHolds. -/
import Derived.Test.YtepkjfnffbdcoaaGreatRfJ
import Derived.Test.YtepkjfnffbdcoaaGreatHN
set_option linter.unusedVariables false
set_option maxRecDepth 20000
set_option linter.unusedSimpArgs false
namespace Go.Proofs.YtepkjfnffbdcoaaGreat
open Go Go.Proofs.YtepkjfnffbdcoaaGreat.Lift
attribute [local irreducible] Lift.PCall Lift.HCall
def HoldsAgree (c x : V) : Prop := ∃ b, PCall Tryz.prog 53 [c, x] (.b b) [] ∧ PCall Tryz.prog 54 [c, x] (.b b) []
theorem Few.holds {c : V} (h : Few c) {R C : Int} {xs : List RT} (hR : bd R) (hC' : bd C) (hx : okX xs) (hl : xs.length ≤ 4000) (hx3 : ∀ x ∈ xs, x.2.1.length ≤ 3 ∧ x.2.2.length ≤ 3) : HoldsAgree c (mV R C (xs.map fR)) := by
  cases h with
  | shape R1 C1 R2 C2 ys zs h1 h2 h3 h4 hy hz ly lz hno =>
    have c1 := cright_not R1 C1 R2 C2 ys zs h1 h2 h3 h4 hy hz (by omega) (by omega) hno
    have c2 := r20right_not R1 C1 R2 C2 ys zs h1 h2 h3 h4 hy hz (by omega) (by omega) hno
    exact ⟨false, chold_not R1 C1 R2 C2 _ _ R C _ c1, rhold_not R1 C1 R2 C2 _ _ R C _ c2⟩
  | rows n m A B hn hm hA hB hC =>
    have c1 := cright_ok n m 3 hn hm A B hA hB (by decide) (by decide)
    have c2 := r20right_ok n m 3 hn hm A B hA hB (by decide) (by decide)
    rw [hC] at c1 c2
    exact ⟨false, chold_not n n n m _ _ R C _ c1, rhold_not n n n m _ _ R C _ c2⟩
  | ok n m A B hn hm hA hB hC =>
    have c1 := cright_ok n m 38 (by omega) (by omega) A B hA hB (by decide) (by decide)
    have c2 := r20right_ok n m 38 (by omega) (by omega) A B hA hB (by decide) (by decide)
    rw [hC] at c1 c2
    have d1 := mright_raw R C xs hR hC' hx (by omega)
    have d2 := wright_raw R C xs hR hC' hx (by omega)
    cases hM : isM R C xs with
    | false =>
      rw [hM] at d1 d2
      exact ⟨false, chold_x n n n m _ _ R C _ c1 d1, rhold_x n n n m _ _ R C _ c2 d2⟩
    | true =>
      rw [hM] at d1 d2
      by_cases hs : R ≠ n ∨ C ≠ m
      · exact ⟨false, chold_shape n n n m _ _ R C _ c1 d1 hs, rhold_shape n n n m _ _ R C _ c2 d2 hs⟩
      · obtain ⟨r, k, X, rfl, rfl, hr, hk, rfl⟩ := isM_mat (fun x h => ⟨(hx x h).1, (hx x h).2.1⟩) hM
        have e1 : r = n := by omega
        have e2 : k = m := by omega
        subst e1 e2
        have hX : ∀ i j, i < r → j < k → rL (X i j) ≤ 3 := fun i j hi hj => by
          have hm : toRT (X i j) ∈ (mcells k X (r * k)).map toRT := by
            refine List.mem_map.2 ⟨_, ?_, rfl⟩
            obtain ⟨h1, h2⟩ := mcells_get (r := r) (c := k) X hi hj
            rw [List.getD_eq_getElem?_getD, List.getElem?_eq_getElem (by rw [mcells_length]; exact h1)] at h2
            exact h2 ▸ List.getElem_mem _
          exact toRT_len (hx3 _ hm).1 (hx3 _ hm).2
        have hX38 : ∀ i j, i < r → j < k → rL (X i j) ≤ 38 := fun i j hi hj => Nat.le_trans (hX i j hi hj) (by decide)
        rw [map_toRT]
        exact ⟨_, chold_ok r k 38 (by omega) (by omega) A B X hC hA hB hX38 (by decide) (by decide), rhold_ok r k 38 (by omega) (by omega) A B X hC hA hB hX38 (by decide) (by decide)⟩
set_option maxHeartbeats 8000000 in
theorem holds_rest (c c' : V) (S' : List V) (R1 C1 R2 C2 : Int) (x y : List V) (hc : c = .agg [.i .i64 R1, .i .i64 C1, .sl x, .i .i64 R2, .i .i64 C2, .sl y]) (R1' C1' R2' C2' : Int) (x' y' : List V) (hc' : c' = .agg [.i .i64 R1', .i .i64 C1', .sl x', .i .i64 R2', .i .i64 C2', .sl y'])
    (cf : PCall Tryz.prog 14 [c, .sl []] (.tup [c', .sl S']) []) (R C : Int) (X X' : List V) (cl : PCall Tryz.prog 29 [.sl X, .i .i64 4000] (.sl X') []) (hm : HoldsAgree c' (mV R C X')) : PCall Tryz.prog 12 [c, mV R C X] (.b true) [] := by
  obtain ⟨b, c1, c2⟩ := hm
  subst hc hc'
  have cof := lof_ok R1' C1' R2' C2' x' y'
  have cal := lalive_ok
  unfold mV at *
  refine PCall.of_ax Tryz.call12 Tryz.func12 rfl (by simp [Tryz.ntmps12]) fun O w0 => ?_
  simp only [Tryz.ntmps12, Tryz.results12, argFr]
  refine AX.sregAV [2, 3] (hq := ?_)
  refine AX.sregCV [2, 3] (aI cf oT) (hq := ?_)
  refine AX.sregCV [2, 3] (aI cl oT) (hq := ?_)
  cases b
  · refine AX.sdregCV [4] (aI c1 (aI cof (aI c2 (aI cal oT)))) (hq := ?_)
    refine AX.ret (And.intro (Or.inl rfl) ?_)
    exact Done.one rfl rfl rfl rfl
  · refine AX.sdregCV [4] (aI c1 (aI cof (aI c2 (aI cal oT)))) (hq := ?_)
    refine AX.ret (And.intro (Or.inl rfl) ?_)
    exact Done.one rfl rfl rfl rfl
theorem chainHolds_ok (R1 C1 R2 C2 : Int) (xs ys : List RT) (R C : Int) (zs : List RT) (h1 : bd R1) (h2 : bd C1) (h3 : bd R2) (h4 : bd C2) (hx : okRT xs) (hy : okRT ys) (lx : xs.length < 2 ^ 62) (ly : ys.length < 2 ^ 62) (g1 : bd R) (g2 : bd C) (hz : okRT zs) (lz : zs.length < 2 ^ 62) :
    PCall Tryz.prog 12 [.agg [.i .i64 R1, .i .i64 C1, .sl (xs.map fR), .i .i64 R2, .i .i64 C2, .sl (ys.map fR)], .agg [.i .i64 R, .i .i64 C, .sl (zs.map fR)]] (.b true) [] := by
  obtain ⟨c', S', cf, hf, _, _, _⟩ := few_all R1 C1 R2 C2 xs ys [] h1 h2 h3 h4 hx hy (fun x h => nomatch h) lx ly (by decide)
  obtain ⟨R1', C1', R2', C2', x', y', e⟩ := hf.shaped
  obtain ⟨Z1, Z2, Z3⟩ := lcut_ok (most := 4000) (xs := zs) fun x h => ⟨(hz x h).1, (hz x h).2.1⟩
  have cl := llist_ok 4000 (by decide) zs lz fun x h => (hz x h).2.2
  exact holds_rest _ c' _ R1 C1 R2 C2 _ _ rfl R1' C1' R2' C2' x' y' e cf R C _ _ cl (hf.holds g1 g2 Z1 Z2 Z3)
end Go.Proofs.YtepkjfnffbdcoaaGreat
