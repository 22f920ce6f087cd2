/- The reference's chains: Visits (the walk up to the states met). -/
import Derived.Test.YtepkjfnffbdcoaaGreatRgV
import Derived.Test.YtepkjfnffbdcoaaGreatRgH
import Derived.Test.YtepkjfnffbdcoaaGreatLawD3
set_option linter.unusedVariables false
set_option maxRecDepth 20000
set_option linter.unusedSimpArgs false
namespace Go.Proofs.YtepkjfnffbdcoaaGreat
open Go Go.Proofs.YtepkjfnffbdcoaaGreat.Lift
attribute [local irreducible] Lift.PCall Lift.HCall
noncomputable def metP (n : Nat) (A : Mx) (v : Nat → Rat) (i0 k0 : Nat) (k : Nat) : Bool := @decide (∃ i, (i < i0 ∨ (i = i0 ∧ k < k0)) ∧ 0 < v i ∧ To n A i k) (Classical.propDecidable _)
theorem metP_iff {n : Nat} {A : Mx} {v : Nat → Rat} {i0 k0 k : Nat} : metP n A v i0 k0 k = true ↔ ∃ i, (i < i0 ∨ (i = i0 ∧ k < k0)) ∧ 0 < v i ∧ To n A i k := by
 unfold metP
 exact @decide_eq_true_iff _ (Classical.propDecidable _)
theorem metP_zero (n : Nat) (A : Mx) (v : Nat → Rat) (k : Nat) : metP n A v 0 0 k = false := by
 cases h : metP n A v 0 0 k
 ·rfl
 ·obtain ⟨i, hi, _⟩ := metP_iff.1 h
  omega
theorem metP_end (n : Nat) (A : Mx) (v : Nat → Rat) (k : Nat) : metP n A v n 0 k = metB n A v k := by
 rw [Bool.eq_iff_iff, metP_iff, metB_iff]
 constructor
 ·rintro ⟨i, hi, h1, h2⟩
  exact ⟨i, by omega, h1, h2⟩
 ·rintro ⟨i, hi, h1, h2⟩
  exact ⟨i, .inl hi, h1, h2⟩
theorem metP_next (n : Nat) (A : Mx) (v : Nat → Rat) (i k : Nat) : metP n A v i (k + 1) k = (metP n A v i k k || (decide (0 < v i) && toB n A i k)) := by
 rw [Bool.eq_iff_iff, metP_iff, Bool.or_eq_true, Bool.and_eq_true, metP_iff, decide_eq_true_eq, toB_iff]
 constructor
 ·rintro ⟨j, hj, h1, h2⟩
  rcases hj with h | h
  ·exact .inl ⟨j, .inl h, h1, h2⟩
  ·rw [h.1] at h1 h2
   exact .inr ⟨h1, h2⟩
 ·rintro (⟨j, hj, h1, h2⟩ | ⟨h1, h2⟩)
  ·exact ⟨j, by omega, h1, h2⟩
  ·exact ⟨i, .inr ⟨rfl, by omega⟩, h1, h2⟩
theorem metP_other (n : Nat) (A : Mx) (v : Nat → Rat) {i k b : Nat} (h : b ≠ k) : metP n A v i (k + 1) b = metP n A v i k b := by
 rw [Bool.eq_iff_iff, metP_iff, metP_iff]
 constructor
 ·rintro ⟨j, hj, h1, h2⟩
  exact ⟨j, by omega, h1, h2⟩
 ·rintro ⟨j, hj, h1, h2⟩
  exact ⟨j, by omega, h1, h2⟩
theorem metP_row (n : Nat) (A : Mx) (v : Nat → Rat) {i k : Nat} (h : k < n) : metP n A v i n k = metP n A v (i + 1) 0 k := by
 rw [Bool.eq_iff_iff, metP_iff, metP_iff]
 constructor
 ·rintro ⟨j, hj, h1, h2⟩
  exact ⟨j, by omega, h1, h2⟩
 ·rintro ⟨j, hj, h1, h2⟩
  exact ⟨j, by omega, h1, h2⟩
end Go.Proofs.YtepkjfnffbdcoaaGreat
/- The reference's chains: Visits. -/
set_option linter.unusedVariables false
set_option linter.unusedSimpArgs false
namespace Go.Proofs.YtepkjfnffbdcoaaGreat
open Go Go.Proofs.YtepkjfnffbdcoaaGreat.Lift
attribute [local irreducible] Lift.PCall Lift.HCall
set_option maxHeartbeats 64000000 in
theorem Small.rvisits {n m : Nat} {A B : Mx} {v : Nat → Rat} (h : Small n m A B v) (hnv : neverQ n m A B v = 0) (x : Nat → Rat) (hx : (chn n m A B).IsVis v x) :
  PCall Tryz.prog 25 [cV n m A B, .sl ((vl n v).map rV)] (.tup [.sl ((vl n x).map rV), .i .i64 0]) [] := by
 have hn := h.hn
 have hm := h.hm
 have ce := h.rends
 rw [hnv] at ce
 have c0 : PCall Tryz.prog 31 [.agg [.b (decide (((0 : Rat)).num < 0)), dg (digits ((0 : Rat)).num.natAbs), dg (digits ((0 : Rat)).den)]] (.i .i64 (sgnR 0)) [] := psign_ok (L := 1) (IsQ.of (by decide +kernel)) (by decide)
 rw [sgnR_eq_zero.2 rfl] at c0
 have crc := rreach_ok n m 38 (by omega) A B h.hA (by decide)
 have cs : ∀ i, i < n → PCall Tryz.prog 31 [.agg [.b (decide (((v i)).num < 0)), dg (digits ((v i)).num.natAbs), dg (digits ((v i)).den)]] (.i .i64 (sgnR (v i))) [] := fun i hi => psign_ok (IsQ.of (h.hvL i hi)) (by decide)
 have ixv := fun (i : Nat) (hi : i < n) => fun x y => effIxL (x := x) (y := y) v hi
 have ixA := fun (i j : Nat) (hi : i < n) (hj : j < n) => fun x y => effIxM (x := x) (y := y) A hi hj rfl
 have hbll := bll_length n (toB n A)
 have hblg := fun (i : Nat) (hi : i < n) => bll_get (toB n A) hi
 have hbl1 := fun (i : Nat) => bl_length n (toB n A i)
 have hbg1 := fun (i k : Nat) (hk : k < n) => bl_get (toB n A i) hk
 have hblm := fun (i k : Nat) => bl_length n (metP n A v i k)
 have cid := rident_own n (by omega)
 have czr := rzero_own n 1 (by omega) (by decide)
 have e1 : mcells n (idM n) (n * n) = mcells n (eqV (metB n A v) A 0 0) (n * n) := mcells_congr fun i k hi hk => by
  unfold idM eqV eqA dlt1
  rw [if_neg (fun h : (i < 0 ∨ _) ∧ _ => by omega)]
  by_cases e : i = k
  ·rw [if_pos ⟨e, hi⟩, if_pos e]
  ·rw [if_neg (fun h => e h.1), if_neg e]
 have e2 : mcells 1 (fun _ _ => (0 : Rat)) (n * 1) = mcells 1 (eqW (metB n A v) v 0) (n * 1) := mcells_congr fun i k hi hk => by
  unfold eqW
  rw [if_neg (fun h => by omega)]
 rw [e1] at cid
 rw [e2] at czr
 have hnv' : (chn n m A B).never (eachM n m A B) v = 0 := by rw [← hnv]; rfl
 have csv := rsolve_ok n 1 (38 + 2) (by omega) (by decide) (eqV (metB n A v) A n 0) (eqW (metB n A v) v n) (fun j _ => x j) (eqV_nonsing h.hC h.is h.hv hnv') (fun i j hi hj => eqA_len (fun i k hi hk => h.hA k i hk hi) i j hi hj) (fun i j hi hj => by
  unfold eqW
  split
  ·have := h.hvL i hi
   omega
  ·have : rL 0 ≤ 1 := by decide +kernel
   omega) (by decide) (five8 hn) (eqV_sol h.hC h.is h.hv hnv' h.hA (fun i hi => Nat.le_trans (h.hvL i hi) (by decide)) hx)
 have ckA : chunks 3 (n * n) (qrow (mcells n (eqV (metB n A v) A n 0) (n * n))) = (mcells n (eqV (metB n A v) A n 0) (n * n)).map rV := by
  have := chunks_q (mcells n (eqV (metB n A v) A n 0) (n * n))
  rwa [mcells_length] at this
 have ckB : chunks 3 (n * 1) (qrow (mcells 1 (eqW (metB n A v) v n) (n * 1))) = (mcells 1 (eqW (metB n A v) v n) (n * 1)).map rV := by
  have := chunks_q (mcells 1 (eqW (metB n A v) v n) (n * 1))
  rwa [mcells_length] at this
 have tkA : List.take (n * n * 3) (qrow (mcells n (eqV (metB n A v) A n 0) (n * n))) = qrow (mcells n (eqV (metB n A v) A n 0) (n * n)) := by rw [← qlen n n (eqV (metB n A v) A n 0)]; exact List.take_length
 have tkB : List.take (n * 1 * 3) (qrow (mcells 1 (eqW (metB n A v) v n) (n * 1))) = qrow (mcells 1 (eqW (metB n A v) v n) (n * 1)) := by rw [← qlen 1 n (eqW (metB n A v) v n)]; exact List.take_length
 have eX : (mcells 1 (fun j _ => x j) (n * 1)).map rV = (vl n x).map rV := by
  unfold mcells vl
  rw [Nat.mul_one]
  congr 1
  exact List.map_congr_left fun j _ => by rw [Nat.div_one]
 unfold qM mV at csv
 rw [eX] at csv
 refine PCall.of_ax Tryz.call25 Tryz.func25 rfl (by simp [Tryz.ntmps25]) fun O w0 => ?_
 simp only [Tryz.ntmps25, Tryz.results25, argFr]
 unfold cV at *
 generalize (mcells n A (n * n)).map rV = Ac at *
 generalize (mcells m B (n * m)).map rV = Bc at *
 obtain ⟨Vc, hVc⟩ : ∃ l, (vl n v).map rV = l := ⟨_, rfl⟩
 rw [hVc] at ce ixv ⊢
 generalize (vl m (thr n v (eachM n m A B))).map rV = Ec at *
 refine AX.sR (rgAV [1, 2]) ?_
 refine AX.sR (rgCV [1, 2, 7, 8] (aI ce oT)) ?_
 refine AX.seq ?_
 refine AX.block ?_
 refine AX.sR (rgAV [1, 2, 7, 8, 29]) ?_
 refine AX.condF (h := ?_)
 refine AX.sR (rgCV [1, 2, 33] (aI c0 oT)) ?_
 refine AX.condF (h := ?_)
 refine AX.keepA [1, 2] (h := ?_)
 refine AX.skip ?_
 refine nmZ (h := ?_)
 refine AX.sR (rgAV [1, 2, 9]) ?_
 refine AX.sR (rgCV [1, 2, 9, 10] (aI crc oT)) ?_
 refine AX.sR (rgAV [1, 2, 9, 10, 11]) ?_
 refine AX.seq ?_
 refine AX.sR (rgAV [1, 2, 9, 10, 11, 45, 46]) ?_
 have hb0 : List.replicate n (V.b false) = bl n (metP n A v 0 0) := by
  rw [bl_congr (g := fun _ => false) fun k hk => metP_zero n A v k]
  exact bl_zero n
 refine AX.weaken id (st' := ⟨[(46, .i .i64 (0 : Nat)), (45, .i .i64 n), (11, .own 2 0 n 1), (10, .sl (bll n (toB n A))), (9, .i .i64 n), (2, .ptr 0 0), (1, .sl Vc)], [(2, ⟨4, bl n (metP n A v 0 0)⟩), (0, ⟨36, [.i .i64 n, .i .i64 n, .sl Ac, .i .i64 n, .i .i64 m, .sl Bc]⟩)], 3⟩)
  (leQ8H hb0)
  ?_
 refine AX.block ?_
 refine AX.loop (fun N st => ∃ i : Nat, i ≤ n ∧ N = n - i ∧ st = ⟨[(46, .i .i64 i), (45, .i .i64 n), (11, .own 2 0 n 1), (10, .sl (bll n (toB n A))), (9, .i .i64 n), (2, .ptr 0 0), (1, .sl Vc)], [(2, ⟨4, bl n (metP n A v i 0)⟩), (0, ⟨36, [.i .i64 n, .i .i64 n, .sl Ac, .i .i64 n, .i .i64 m, .sl Bc]⟩)], 3⟩) n ⟨0, Nat.zero_le _, rfl, rfl⟩ ?_
 rintro N st ⟨i, hi, rfl, rfl⟩
 by_cases h1 : i < n
 ·refine AX.sR (rgAV [1, 2, 9, 10, 11, 45, 46, 47]) ?_
  refine AX.seq ?_
  refine AX.condT (h := ?_)
  refine AX.keepA [1, 2, 9, 10, 11, 45, 46] (h := ?_)
  refine AX.skip ?_
  refine nmZ (h := ?_)
  refine AX.seq ?_
  refine AX.block ?_
  refine AX.sR (rgAV [1, 2, 9, 10, 11, 12, 45, 46]) ?_
  refine AX.sR (rgAV [1, 2, 9, 10, 11, 12, 45, 46, 50, 51]) ?_
  refine AX.weaken id (st' := ⟨[(51, .i .i64 (0 : Nat)), (50, .i .i64 n), (46, .i .i64 i), (45, .i .i64 n), (12, .i .i64 i), (11, .own 2 0 n 1), (10, .sl (bll n (toB n A))), (9, .i .i64 n), (2, .ptr 0 0), (1, .sl Vc)], [(2, ⟨4, bl n (metP n A v i 0)⟩), (0, ⟨36, [.i .i64 n, .i .i64 n, .sl Ac, .i .i64 n, .i .i64 m, .sl Bc]⟩)], 3⟩)
   leQ8
   ?_
  refine AX.block ?_
  refine AX.loop (fun N st => ∃ k : Nat, k ≤ n ∧ N = n - k ∧ st = ⟨[(51, .i .i64 k), (50, .i .i64 n), (46, .i .i64 i), (45, .i .i64 n), (12, .i .i64 i), (11, .own 2 0 n 1), (10, .sl (bll n (toB n A))), (9, .i .i64 n), (2, .ptr 0 0), (1, .sl Vc)], [(2, ⟨4, bl n (metP n A v i k)⟩), (0, ⟨36, [.i .i64 n, .i .i64 n, .sl Ac, .i .i64 n, .i .i64 m, .sl Bc]⟩)], 3⟩) n ⟨0, Nat.zero_le _, rfl, rfl⟩ ?_
  rintro N st ⟨k, hk, rfl, rfl⟩
  by_cases h2 : k < n
  ·have hl := hblm i k
   have hg := bl_get (metP n A v i k) h2
   have hset := fun b => bl_set (metP n A v i k) b h2
   have hnx := metP_next n A v i k
   have hnext : ∀ b, b = metP n A v i (k + 1) k → bl n (updB (metP n A v i k) k b) = bl n (metP n A v i (k + 1)) := fun b hb => bl_congr fun j hj => by
    unfold updB
    by_cases e : j = k
    ·rw [if_pos e, hb, e]
    ·rw [if_neg e, metP_other n A v e]
   have c1 := cs i h1
   have ix := ixv i h1
   have b2 := hblg i h1
   have b3 := hbl1 i
   have b4 := hbg1 i k h2
   clear cs ixv hblg hbl1 hbg1 hblm
   cases hb : metP n A v i k k
   ·rw [hb] at hg hnx
    by_cases hp : 0 < v i
    ·have hps : 0 < sgnR (v i) := sgnR_pos.2 hp
     cases ht : toB n A i k
     ·rw [ht] at b4 hnx
      have hfin := hnext false (by rw [hnx]; simp)
      clear hnext hnx
      generalize v i = q at *
      refine AX.sR (rgAV [1, 2, 9, 10, 11, 12, 45, 46, 50, 51, 52]) ?_
      refine AX.seq ?_
      refine AX.condT (h := ?_)
      refine AX.keepA [1, 2, 9, 10, 11, 12, 45, 46, 50, 51] (h := ?_)
      refine AX.skip ?_
      refine nmZ (h := ?_)
      refine AX.seq ?_
      refine AX.block ?_
      refine AX.sR (rgAV [1, 2, 9, 10, 11, 12, 13, 45, 46, 50, 51]) ?_
      refine AX.rR (rgEV [1, 2, 9, 10, 11, 12, 45, 46, 50, 51] (aI @hl (aI @hg (aI @hbll (aI @b2 (aI @b3 (aI @b4 (aI @hps oT))))))) (aI c1 oT) (aI ix oT)) ?_
      refine nmZ (h := ?_)
      rw [hset, hfin]
      refine AX.rR (rgWV [1, 2, 9, 10, 11, 12, 45, 46, 50, 51] (aI @lit_add oT) oT) ?_
      refine nmZ (h := ?_)
      refine ⟨_, _, id, ?_,
       leQ8
       , ⟨k + 1, by omega, rfl, rfl⟩⟩
      omega
     ·rw [ht] at b4 hnx
      have hfin := hnext true (by rw [hnx]; simp [hp])
      clear hnext hnx
      generalize v i = q at *
      refine AX.sR (rgAV [1, 2, 9, 10, 11, 12, 45, 46, 50, 51, 52]) ?_
      refine AX.seq ?_
      refine AX.condT (h := ?_)
      refine AX.keepA [1, 2, 9, 10, 11, 12, 45, 46, 50, 51] (h := ?_)
      refine AX.skip ?_
      refine nmZ (h := ?_)
      refine AX.seq ?_
      refine AX.block ?_
      refine AX.sR (rgAV [1, 2, 9, 10, 11, 12, 13, 45, 46, 50, 51]) ?_
      refine AX.rR (rgEV [1, 2, 9, 10, 11, 12, 45, 46, 50, 51] (aI @hl (aI @hg (aI @hbll (aI @b2 (aI @b3 (aI @b4 (aI @hps oT))))))) (aI c1 oT) (aI ix oT)) ?_
      refine nmZ (h := ?_)
      rw [hset, hfin]
      refine AX.rR (rgWV [1, 2, 9, 10, 11, 12, 45, 46, 50, 51] (aI @lit_add oT) oT) ?_
      refine nmZ (h := ?_)
      refine ⟨_, _, id, ?_,
       leQ8
       , ⟨k + 1, by omega, rfl, rfl⟩⟩
      omega
    ·have hps : ¬ 0 < sgnR (v i) := fun h => hp (sgnR_pos.1 h)
     have hfin := hnext false (by rw [hnx]; simp [hp])
     clear hnext hnx
     generalize v i = q at *
     refine AX.sR (rgAV [1, 2, 9, 10, 11, 12, 45, 46, 50, 51, 52]) ?_
     refine AX.seq ?_
     refine AX.condT (h := ?_)
     refine AX.keepA [1, 2, 9, 10, 11, 12, 45, 46, 50, 51] (h := ?_)
     refine AX.skip ?_
     refine nmZ (h := ?_)
     refine AX.seq ?_
     refine AX.block ?_
     refine AX.sR (rgAV [1, 2, 9, 10, 11, 12, 13, 45, 46, 50, 51]) ?_
     refine AX.rR (rgEV [1, 2, 9, 10, 11, 12, 45, 46, 50, 51] (aI @hl (aI @hg (aI @hps oT))) (aI c1 oT) (aI ix oT)) ?_
     refine nmZ (h := ?_)
     rw [hset, hfin]
     refine AX.rR (rgWV [1, 2, 9, 10, 11, 12, 45, 46, 50, 51] (aI @lit_add oT) oT) ?_
     refine nmZ (h := ?_)
     refine ⟨_, _, id, ?_,
      leQ8
      , ⟨k + 1, by omega, rfl, rfl⟩⟩
     omega
   ·rw [hb] at hg hnx
    have hfin := hnext true (by rw [hnx]; simp)
    clear hnext hnx
    refine AX.sR (rgAV [1, 2, 9, 10, 11, 12, 45, 46, 50, 51, 52]) ?_
    refine AX.seq ?_
    refine AX.condT (h := ?_)
    refine AX.keepA [1, 2, 9, 10, 11, 12, 45, 46, 50, 51] (h := ?_)
    refine AX.skip ?_
    refine nmZ (h := ?_)
    refine AX.seq ?_
    refine AX.block ?_
    refine AX.sR (rgAV [1, 2, 9, 10, 11, 12, 13, 45, 46, 50, 51]) ?_
    refine AX.rR (rgWV [1, 2, 9, 10, 11, 12, 45, 46, 50, 51] (aI @hl (aI @hg oT)) oT) ?_
    refine nmZ (h := ?_)
    rw [hset, hfin]
    refine AX.rR (rgWV [1, 2, 9, 10, 11, 12, 45, 46, 50, 51] (aI @lit_add oT) oT) ?_
    refine nmZ (h := ?_)
    refine ⟨_, _, id, ?_,
     leQ8
     , ⟨k + 1, by omega, rfl, rfl⟩⟩
    omega
  ·obtain rfl : n = k := by omega
   have hrow : bl n (metP n A v i n) = bl n (metP n A v (i + 1) 0) := bl_congr fun k hk => metP_row n A v hk
   refine AX.sR (rgAV [1, 2, 9, 10, 11, 12, 45, 46, 50, 51, 52]) ?_
   refine AX.seq ?_
   refine AX.condF (h := ?_)
   refine AX.exit ?_
   refine nmZ (h := ?_)
   rw [hrow]
   refine AX.rR (rgWV [1, 2, 9, 10, 11, 45, 46] (aI @lit_add oT) oT) ?_
   refine nmZ (h := ?_)
   refine ⟨_, _, id, ?_,
    leQ8
    , ⟨i + 1, by omega, rfl, rfl⟩⟩
   omega
 ·obtain rfl : n = i := by omega
  have hend : bl n (metP n A v n 0) = bl n (metB n A v) := bl_congr fun k hk => metP_end n A v k
  refine AX.sR (rgAV [1, 2, 9, 10, 11, 45, 46, 47]) ?_
  refine AX.seq ?_
  refine AX.condF (h := ?_)
  refine AX.exit ?_
  refine nmZ (h := ?_)
  rw [hend]
  have nn1 : n * 1 = n := Nat.mul_one n
  rw [nn1] at czr csv ckB tkB
  obtain ⟨Kn, hKn⟩ : ∃ K, n * n = K := ⟨_, rfl⟩
  rw [hKn] at cid csv ckA tkA
  have hmb := bl_length n (metB n A v)
  have hmg := fun (i : Nat) (hi : i < n) => bl_get (metB n A v) hi
  have hmlt := fun k => (lt_bl k n (metB n A v))
  obtain ⟨bs, hbs⟩ : ∃ x, bl n (metB n A v) = x := ⟨_, rfl⟩
  rw [hbs] at hmb hmg ⊢
  refine AX.sR (rgCV [1, 2, 9, 11, 14] (aI cid oT)) ?_
  refine AX.sR (rgCV [1, 2, 9, 11, 14, 16] (aI czr oT)) ?_
  refine AX.seq ?_
  refine AX.sR (rgAV [1, 2, 9, 11, 14, 16, 18]) ?_
  have hl7 : V.ltL 7 bs = true := by rw [← hbs]; exact lt_bl ..
  refine AX.weaken id (st' := ⟨[(18, .i .i64 (0 : Nat)), (16, .ptr 6 0), (14, .ptr 4 0), (11, .own 2 0 n 1), (9, .i .i64 n), (2, .ptr 0 0), (1, .sl Vc)], [(6, ⟨32, [.i .i64 n, .i .i64 1, .own 5 0 n 3]⟩), (5, ⟨41, qrow (mcells 1 (eqW (metB n A v) v 0) n)⟩), (4, ⟨32, [.i .i64 n, .i .i64 n, .own 3 0 Kn 3]⟩), (3, ⟨41, qrow (mcells n (eqV (metB n A v) A 0 0) Kn)⟩), (2, ⟨4, bs⟩), (0, ⟨36, [.i .i64 n, .i .i64 n, .sl Ac, .i .i64 n, .i .i64 m, .sl Bc]⟩)], 7⟩)
   (leQ8H hl7)
   ?_
  refine AX.block ?_
  have qV := fun i k => qlen n n (eqV (metB n A v) A i k)
  have qW := fun i => qlen 1 n (eqW (metB n A v) v i)
  rw [hKn] at qV
  rw [nn1] at qW
  have hnn : Kn ≤ 60 * 60 := by rw [← hKn]; exact Nat.mul_le_mul (by omega) (by omega)
  refine AX.loop (fun N st => ∃ i : Nat, i ≤ n ∧ N = n - i ∧ st = ⟨[(18, .i .i64 i), (16, .ptr 6 0), (14, .ptr 4 0), (11, .own 2 0 n 1), (9, .i .i64 n), (2, .ptr 0 0), (1, .sl Vc)], [(6, ⟨32, [.i .i64 n, .i .i64 1, .own 5 0 n 3]⟩), (5, ⟨41, qrow (mcells 1 (eqW (metB n A v) v i) n)⟩), (4, ⟨32, [.i .i64 n, .i .i64 n, .own 3 0 Kn 3]⟩), (3, ⟨41, qrow (mcells n (eqV (metB n A v) A i 0) Kn)⟩), (2, ⟨4, bs⟩), (0, ⟨36, [.i .i64 n, .i .i64 n, .sl Ac, .i .i64 n, .i .i64 m, .sl Bc]⟩)], 7⟩) n ⟨0, Nat.zero_le _, rfl, rfl⟩ ?_
  rintro N st ⟨i, hi, rfl, rfl⟩
  refine AX.seq ?_
  by_cases h1 : i < n
  ·have hbi := hmg i h1
   refine AX.sR (rgAV [1, 2, 9, 11, 14, 16, 18, 92]) ?_
   refine AX.condT (h := ?_)
   refine AX.keepA [1, 2, 9, 11, 14, 16, 18] (h := ?_)
   refine AX.skip ?_
   refine nmZ (h := ?_)
   refine AX.seq ?_
   refine AX.block ?_
   refine AX.seq ?_
   cases hri : metB n A v i
   ·have n1 : mcells n (eqV (metB n A v) A i 0) Kn = mcells n (eqV (metB n A v) A (i + 1) 0) Kn := by
     rw [← hKn]
     refine mcells_congr fun a k ha hk => ?_
     unfold eqV eqA
     by_cases e : a = i
     ·rw [e, hri, if_neg (fun h => by cases h.2.1), if_neg (fun h => by cases h.2.1)]
     ·have e3 : (a < i ∨ a = i ∧ k < 0) = (a < i + 1 ∨ a = i + 1 ∧ k < 0) := by
       apply propext
       constructor <;> intro h <;> omega
      simp only [e3]
    have n2 : mcells 1 (eqW (metB n A v) v i) n = mcells 1 (eqW (metB n A v) v (i + 1)) n := by
     have := mcells_congr (r := n) (c := 1) (f := eqW (metB n A v) v i) (g := eqW (metB n A v) v (i + 1)) fun a k ha hk => by
      unfold eqW
      by_cases e : a = i
      ·rw [e, hri, if_neg (fun h => by cases h.2), if_neg (fun h => by cases h.2)]
      ·have e3 : (a < i) = (a < i + 1) := by
        apply propext
        constructor <;> intro h <;> omega
       simp only [e3]
     rwa [nn1] at this
    rw [hri] at hbi
    rw [n1, n2]
    refine AX.sR (rgWV [1, 2, 9, 11, 14, 16, 18, 99] (aI @hmb (aI @hbi oT)) oT) ?_
    refine AX.condT (h := ?_)
    refine AX.exit ?_
    refine nmZ (h := ?_)
    refine AX.rR (rgWV [1, 2, 9, 11, 14, 16, 18] (aI @lit_add oT) oT) ?_
    refine nmZ (h := ?_)
    refine ⟨_, _, id, ?_,
     (leQ8H hl7)
     , ⟨i + 1, by omega, rfl, rfl⟩⟩
    omega
   ·rw [hri] at hbi
    have c1 := ixv i h1
    have z1 : i * 1 + 0 = i := by omega
    have hlW := qW i
    have hsW := qset (n := n) (w := 1) (eqW (metB n A v) v i) (v i) h1 (show 0 < 1 by decide) z1
    have n2 : mcells 1 (updM (eqW (metB n A v) v i) i 0 (v i)) n = mcells 1 (eqW (metB n A v) v (i + 1)) n := by
     have := mcells_congr (r := n) (c := 1) (f := updM (eqW (metB n A v) v i) i 0 (v i)) (g := eqW (metB n A v) v (i + 1)) fun a k ha hk => by
      unfold updM eqW
      by_cases e : a = i
      ·rw [e, if_pos ⟨rfl, by omega⟩, if_pos ⟨by omega, hri⟩]
      ·rw [if_neg (fun h => e h.1)]
       have e3 : (a < i) = (a < i + 1) := by
        apply propext
        constructor <;> intro h <;> omega
       simp only [e3]
     rwa [nn1] at this
    rw [nn1, n2] at hsW
    generalize v i = q at c1 hsW
    refine AX.sR (rgWV [1, 2, 9, 11, 14, 16, 18, 99] (aI @hmb (aI @hbi oT)) oT) ?_
    refine AX.condF (h := ?_)
    refine AX.keepA [1, 2, 9, 11, 14, 16, 18] (h := ?_)
    refine AX.skip ?_
    refine nmZ (h := ?_)
    refine AX.sD (rgDEV [1, 2, 9, 11, 14, 16, 18] (aI @hlW oT) oT (aI c1 oT)) ?_
    rw [hsW]
    refine AX.sR (rgAV [1, 2, 9, 11, 14, 16, 18, 19]) ?_
    refine AX.block ?_
    refine AX.loop (fun N st => ∃ k : Nat, k ≤ n ∧ N = n - k ∧ st = ⟨[(19, .i .i64 k), (18, .i .i64 i), (16, .ptr 6 0), (14, .ptr 4 0), (11, .own 2 0 n 1), (9, .i .i64 n), (2, .ptr 0 0), (1, .sl Vc)], [(6, ⟨32, [.i .i64 n, .i .i64 1, .own 5 0 n 3]⟩), (5, ⟨41, qrow (mcells 1 (eqW (metB n A v) v (i + 1)) n)⟩), (4, ⟨32, [.i .i64 n, .i .i64 n, .own 3 0 Kn 3]⟩), (3, ⟨41, qrow (mcells n (eqV (metB n A v) A i k) Kn)⟩), (2, ⟨4, bs⟩), (0, ⟨36, [.i .i64 n, .i .i64 n, .sl Ac, .i .i64 n, .i .i64 m, .sl Bc]⟩)], 7⟩) n ⟨0, Nat.zero_le _, rfl, rfl⟩ ?_
    rintro N st ⟨k, hk, rfl, rfl⟩
    refine AX.seq ?_
    by_cases h2 : k < n
    ·have hbk := hmg k h2
     have ix := ixA k i h2 h1
     obtain ⟨z, hz⟩ : ∃ z, i * n + k = z := ⟨_, rfl⟩
     obtain ⟨y, hy⟩ : ∃ y, k * n + i = y := ⟨_, rfl⟩
     rw [hy] at ix
     have m1 : (i : Int) * (n : Int) = ((i * n : Nat) : Int) := (Int.natCast_mul i n).symm
     have a1 : ((i * n : Nat) : Int) + (k : Int) = (z : Int) := by rw [← Int.natCast_add, hz]
     have m2 : (k : Int) * (n : Int) = ((k * n : Nat) : Int) := (Int.natCast_mul k n).symm
     have a2 : ((k * n : Nat) : Int) + (i : Int) = (y : Int) := by rw [← Int.natCast_add, hy]
     have hzK : z < Kn := by
      rw [← hz, ← hKn]
      have : (i + 1) * n ≤ n * n := Nat.mul_le_mul_right _ h1
      rw [Nat.succ_mul] at this
      omega
     have hyK : y < Kn := by
      rw [← hy, ← hKn]
      have : (k + 1) * n ≤ n * n := Nat.mul_le_mul_right _ h2
      rw [Nat.succ_mul] at this
      omega
     have bz : i * n ≤ 60 * 60 := by
      have : i * n ≤ n * n := Nat.mul_le_mul_right _ hi
      omega
     have by' : k * n ≤ 60 * 60 := by
      have : k * n ≤ n * n := Nat.mul_le_mul_right _ hk
      omega
     have hl := qV i k
     have hg := qget (n := n) (eqV (metB n A v) A i k) h1 h2 hz
     have ev : eqV (metB n A v) A i k i k = dlt1 i k := by
      unfold eqV eqA
      rw [if_neg (fun h => by omega)]
     rw [ev] at hg
     have hset := qset (n := n) (eqV (metB n A v) A i k) (dlt1 i k - A k i) h1 h2 hz
     rw [hKn] at hg hset
     refine AX.sR (rgAV [1, 2, 9, 11, 14, 16, 18, 19, 110]) ?_
     refine AX.condT (h := ?_)
     refine AX.keepA [1, 2, 9, 11, 14, 16, 18, 19] (h := ?_)
     refine AX.skip ?_
     refine nmZ (h := ?_)
     refine AX.seq ?_
     refine AX.block ?_
     cases hrk : metB n A v k
     ·have hnext : mcells n (eqV (metB n A v) A i k) Kn = mcells n (eqV (metB n A v) A i (k + 1)) Kn := by
       rw [← hKn]
       refine mcells_congr fun a b ha hb => ?_
       unfold eqV eqA
       by_cases e : a = i ∧ b = k
       ·rw [if_neg (fun h => by rw [e.2, hrk] at h; cases h.2.2), if_neg (fun h => by rw [e.2, hrk] at h; cases h.2.2)]
       ·have e3 : (a < i ∨ a = i ∧ b < k) = (a < i ∨ a = i ∧ b < k + 1) := by
         apply propext
         constructor <;> intro h <;> omega
        simp only [e3]
      rw [hrk] at hbk
      rw [hnext]
      refine AX.sR (rgWV [1, 2, 9, 11, 14, 16, 18, 19, 116] (aI @hmb (aI @hbk oT)) oT) ?_
      refine AX.condF (h := ?_)
      refine AX.keepA [1, 2, 9, 11, 14, 16, 18, 19] (h := ?_)
      refine AX.skip ?_
      refine nmZ (h := ?_)
      refine AX.rR (rgWV [1, 2, 9, 11, 14, 16, 18, 19] (aI @lit_add oT) oT) ?_
      refine nmZ (h := ?_)
      refine ⟨_, _, id, ?_,
       (leQ8H hl7)
       , ⟨k + 1, by omega, rfl, rfl⟩⟩
      omega
     ·have hnext : mcells n (updM (eqV (metB n A v) A i k) i k (dlt1 i k - A k i)) Kn = mcells n (eqV (metB n A v) A i (k + 1)) Kn := by
       rw [← hKn]
       refine mcells_congr fun a b ha hb => ?_
       unfold updM eqV eqA
       by_cases e : a = i ∧ b = k
       ·rw [if_pos e, if_pos ⟨.inr ⟨e.1, by omega⟩, by rw [e.1]; exact hri, by rw [e.2]; exact hrk⟩, e.1, e.2]
       ·rw [if_neg e]
        have e3 : (a < i ∨ a = i ∧ b < k) = (a < i ∨ a = i ∧ b < k + 1) := by
         apply propext
         constructor <;> intro h <;> omega
        simp only [e3]
      rw [hnext] at hset
      rw [hrk] at hbk
      have cb : PCall Tryz.prog 48 [.agg [.b (decide (((dlt1 i k)).num < 0)), dg (digits ((dlt1 i k)).num.natAbs), dg (digits ((dlt1 i k)).den)], .agg [.b (decide (((A k i)).num < 0)), dg (digits ((A k i)).num.natAbs), dg (digits ((A k i)).den)]] (.agg [.b (decide (((dlt1 i k - A k i)).num < 0)), dg (digits ((dlt1 i k - A k i)).num.natAbs), dg (digits ((dlt1 i k - A k i)).den)]) [] := psub_ok (L := 40) (IsQ.of (Nat.le_trans (dlt1_len i k) (by decide))) (IsQ.of (Nat.le_trans (h.hA k i h2 h1) (by decide))) (by decide) (by decide)
      clear hnext ev
      generalize dlt1 i k - A k i = q1 at *
      generalize dlt1 i k = q2 at *
      generalize A k i = q3 at *
      refine AX.sR (rgWV [1, 2, 9, 11, 14, 16, 18, 19, 116] (aI @hmb (aI @hbk oT)) oT) ?_
      refine AX.condT (h := ?_)
      refine AX.rD (rgDEV [1, 2, 9, 11, 14, 16, 18, 19] (aI @m1 (aI @a1 (aI @m2 (aI @a2 (aI @hl (aI @hg oT)))))) (aI cb oT) (aI ix oT)) ?_
      refine nmZ (h := ?_)
      rw [hset]
      refine AX.rR (rgWV [1, 2, 9, 11, 14, 16, 18, 19] (aI @lit_add oT) oT) ?_
      refine nmZ (h := ?_)
      refine ⟨_, _, id, ?_,
       (leQ8H hl7)
       , ⟨k + 1, by omega, rfl, rfl⟩⟩
      omega
    ·obtain rfl : n = k := by omega
     have n3 : mcells n (eqV (metB n A v) A i n) Kn = mcells n (eqV (metB n A v) A (i + 1) 0) Kn := by
      rw [← hKn]
      refine mcells_congr fun a b ha hb => ?_
      unfold eqV eqA
      have e3 : (a < i ∨ a = i ∧ b < n) = (a < i + 1 ∨ a = i + 1 ∧ b < 0) := by
       apply propext
       constructor <;> intro h <;> omega
      simp only [e3]
     refine AX.sR (rgAV [1, 2, 9, 11, 14, 16, 18, 19, 110]) ?_
     refine AX.condF (h := ?_)
     refine AX.exit ?_
     refine nmZ (h := ?_)
     rw [n3]
     refine AX.rR (rgWV [1, 2, 9, 11, 14, 16, 18] (aI @lit_add oT) oT) ?_
     refine nmZ (h := ?_)
     refine ⟨_, _, id, ?_,
      (leQ8H hl7)
      , ⟨i + 1, by omega, rfl, rfl⟩⟩
     omega
  ·obtain rfl : n = i := by omega
   have lA := qV n 0
   have lB := qW n
   refine AX.sR (rgAV [1, 2, 9, 11, 14, 16, 18, 92]) ?_
   refine AX.condF (h := ?_)
   refine AX.exit ?_
   refine nmZ (h := ?_)
   clear hmb hmg ixA ixv
   generalize mcells n (eqV (metB n A v) A n 0) Kn = xs at *
   generalize mcells 1 (eqW (metB n A v) v n) n = ys at *
   have f1 := flat_q xs
   have f2 := hf_q xs
   have f3 := flat_q ys
   have f4 := hf_q ys
   apply AX.sreg [20] (by simp only [pq]; rfl)
   ·repeat (first
   |(apply RunO.op rfl; · rfl
     ·(simp only [opsOf, valsOf, valOf, lkp, ofConst, ofCell, Array.toList, Option.toList, List.map_cons, List.map_nil, List.cons_append, List.nil_append, List.append_nil, Nat.reduceEqDiff, Nat.reducePow, Nat.reduceLT, Nat.reduceLeDiff, reduceIte, if_true, if_false, IntKind.min, IntKind.max, IntKind.bits, IntKind.signed, Int.reduceLE, Int.reduceNeg, Int.reducePow, Int.reduceSub, and_self, Bool.false_eq_true, Nat.reduceSub]; rfl)
     iterate 2 (· (simp (disch := omega) only [go_sem, i64_of, u32_of, u64_of, Nat.reduceLT, Nat.reduceLeDiff, Nat.reduceEqDiff, Nat.reduceAdd, Nat.reduceSub, Nat.reduceMul, Nat.reducePow, Nat.reduceBEq, Int.reduceLE, Int.reduceLT, Int.reduceToNat, Int.reduceEq, Int.reduceNeg, reduceIte, reduceCtorEq, lA, tkA, ckA, f1, f2, lB, tkB, ckB, f3, f4, nleQ, List.not_mem_nil]; rfl))
     ·(simp only [pb, Nat.reduceLT, Nat.reduceAdd, reduceIte]; rfl))
   |(apply RunO.call rfl; · rfl
     ·(simp only [opsOf, valsOf, valOf, lkp, ofConst, ofCell, Array.toList, Option.toList, List.map_cons, List.map_nil, List.cons_append, List.nil_append, List.append_nil, Nat.reduceEqDiff, Nat.reducePow, Nat.reduceLT, Nat.reduceLeDiff, reduceIte, if_true, if_false, IntKind.min, IntKind.max, IntKind.bits, IntKind.signed, Int.reduceLE, Int.reduceNeg, Int.reducePow, Int.reduceSub, and_self, Bool.false_eq_true, Nat.reduceSub]; rfl)
     ·(simp (disch := omega) only [go_sem, i64_of, u32_of, u64_of, Nat.reduceLT, Nat.reduceLeDiff, Nat.reduceEqDiff, Nat.reduceAdd, Nat.reduceSub, Nat.reduceMul, Nat.reducePow, Nat.reduceBEq, Int.reduceLE, Int.reduceLT, Int.reduceToNat, Int.reduceEq, Int.reduceNeg, reduceIte, reduceCtorEq, lA, tkA, ckA, f1, f2, lB, tkB, ckB, f3, f4, nleQ, List.not_mem_nil]; rfl)
     ·rfl
     ·(first | exact csv)
     ·(simp (disch := omega) only [go_sem, i64_of, u32_of, u64_of, Nat.reduceLT, Nat.reduceLeDiff, Nat.reduceEqDiff, Nat.reduceAdd, Nat.reduceSub, Nat.reduceMul, Nat.reducePow, Nat.reduceBEq, Int.reduceLE, Int.reduceLT, Int.reduceToNat, Int.reduceEq, Int.reduceNeg, reduceIte, reduceCtorEq, lA, tkA, ckA, f1, f2, lB, tkB, ckB, f3, f4, nleQ, List.not_mem_nil]; rfl)
     ·(simp only [pb, Nat.reduceLT, Nat.reduceAdd, reduceIte]; rfl))
   |(apply RunO.skip; · rfl
     ·(simp only [pb, Nat.reduceLT, Nat.reduceAdd, reduceIte]; rfl)))
    exact RunO.nil
   ·repeat (first | exact Keep.nil | (apply Keep.take; · rfl) | (apply Keep.drop; · rfl))
   refine AX.sR (rgAV [4, 5]) ?_
   refine AX.ret ⟨.inl rfl, ?_⟩
   exact dnQ8
end Go.Proofs.YtepkjfnffbdcoaaGreat
/- Statements about chains: ChainVisits. -/
set_option linter.unusedVariables false
set_option linter.unusedSimpArgs false
namespace Go.Proofs.YtepkjfnffbdcoaaGreat
open Go Go.Proofs.YtepkjfnffbdcoaaGreat.Lift
attribute [local irreducible] Lift.PCall Lift.HCall
theorem csteps_err (c : V) (e : Int) (R1 C1 R2 C2 : Int) (x y sl : List V) (hc : c = .agg [.i .i64 R1, .i .i64 C1, .sl x, .i .i64 R2, .i .i64 C2, .sl y]) (he : e ≠ 0) (cv : PCall Tryz.prog 24 [c, .sl sl] (.tup [.sl [], .i .i64 e]) []) : PCall Tryz.prog 26 [c, .sl sl] (.tup [zR, .i .i64 e]) [] := by
 subst hc
 refine PCall.of_ax Tryz.call26 Tryz.func26 rfl (by simp [Tryz.ntmps26]) fun O w => ?_
 simp only [Tryz.ntmps26, Tryz.results26, argFr]
 refine AX.sR (rgAV [1, 2, 4]) ?_
 refine AX.sR (rgCV [4, 6, 7] (aI cv oT)) ?_
 refine AX.seq ?_
 refine AX.sR (rgWV [4, 6, 7, 15] (aI @he oT) oT) ?_
 refine AX.condT (h := ?_)
 refine AX.sR (rgAV [4, 5]) ?_
 refine AX.ret ⟨.inl rfl, ?_⟩
 exact dnQ8
theorem rsteps_err (c : V) (e : Int) (R1 C1 R2 C2 : Int) (x y sl : List V) (hc : c = .agg [.i .i64 R1, .i .i64 C1, .sl x, .i .i64 R2, .i .i64 C2, .sl y]) (he : e ≠ 0) (cv : PCall Tryz.prog 25 [c, .sl sl] (.tup [.sl [], .i .i64 e]) []) : PCall Tryz.prog 27 [c, .sl sl] (.tup [zR, .i .i64 e]) [] := by
 subst hc
 refine PCall.of_ax Tryz.call27 Tryz.func27 rfl (by simp [Tryz.ntmps27]) fun O w => ?_
 simp only [Tryz.ntmps27, Tryz.results27, argFr]
 refine AX.sR (rgAV [1, 2, 4]) ?_
 refine AX.sR (rgCV [4, 6, 7] (aI cv oT)) ?_
 refine AX.seq ?_
 refine AX.sR (rgWV [4, 6, 7, 15] (aI @he oT) oT) ?_
 refine AX.condT (h := ?_)
 refine AX.sR (rgAV [4, 5]) ?_
 refine AX.ret ⟨.inl rfl, ?_⟩
 exact dnQ8
theorem rvisits_err (c : V) (R1 C1 R2 C2 : Int) (x y sl : List V) (hc : c = .agg [.i .i64 R1, .i .i64 C1, .sl x, .i .i64 R2, .i .i64 C2, .sl y]) (ce : PCall Tryz.prog 19 [c, .sl sl] (.tup [.sl [], zR, .i .i64 1]) []) : PCall Tryz.prog 25 [c, .sl sl] (.tup [.sl [], .i .i64 1]) [] := by
 subst hc
 refine PCall.of_ax Tryz.call25 Tryz.func25 rfl (by simp [Tryz.ntmps25]) fun O w => ?_
 simp only [Tryz.ntmps25, Tryz.results25, argFr]
 refine AX.sR (rgAV [1, 2]) ?_
 refine AX.sR (rgCV [1, 2, 7, 8] (aI ce oT)) ?_
 refine AX.seq ?_
 refine AX.block ?_
 refine AX.sR (rgAV [1, 2, 7, 8, 29]) ?_
 refine AX.condT (h := ?_)
 refine AX.sR (rgAV [4, 5]) ?_
 refine AX.ret ⟨.inl rfl, ?_⟩
 exact dnQ8
theorem rvisits_zero {n m : Nat} {A B : Mx} {v : Nat → Rat} (h : Small n m A B v) (h0 : neverQ n m A B v ≠ 0) : PCall Tryz.prog 25 [cV n m A B, .sl ((vl n v).map rV)] (.tup [.sl [], .i .i64 31]) [] := by
 have ce := h.rends
 have c0 : PCall Tryz.prog 31 [.agg [.b (decide ((neverQ n m A B v).num < 0)), dg (digits (neverQ n m A B v).num.natAbs), dg (digits (neverQ n m A B v).den)]] (.i .i64 (sgnR (neverQ n m A B v))) [] := psign_ok (IsQ.of h.neverL) (by decide)
 have hne : sgnR (neverQ n m A B v) ≠ 0 := fun e => h0 (sgnR_eq_zero.1 e)
 refine PCall.of_ax Tryz.call25 Tryz.func25 rfl (by simp [Tryz.ntmps25]) fun O w => ?_
 simp only [Tryz.ntmps25, Tryz.results25, argFr]
 unfold cV at *
 generalize (mcells n A (n * n)).map rV = Ac at *
 generalize (mcells m B (n * m)).map rV = Bc at *
 generalize (vl m (thr n v (eachM n m A B))).map rV = Ec at *
 generalize (vl n v).map rV = Vc at *
 generalize neverQ n m A B v = q at *
 refine AX.sR (rgAV [1, 2]) ?_
 refine AX.sR (rgCV [1, 2, 7, 8] (aI ce oT)) ?_
 refine AX.seq ?_
 refine AX.block ?_
 refine AX.sR (rgAV [1, 2, 7, 8, 29]) ?_
 refine AX.condF (h := ?_)
 refine AX.sR (rgWV [1, 2, 33] (aI @hne oT) (aI c0 oT)) ?_
 refine AX.condT (h := ?_)
 refine AX.sR (rgAV [4, 5]) ?_
 refine AX.ret ⟨.inl rfl, ?_⟩
 exact dnQ8
theorem Small.csteps {n m : Nat} {A B : Mx} {v : Nat → Rat} (h : Small n m A B v) (h0 : neverQ n m A B v = 0) : PCall Tryz.prog 26 [cV n m A B, .sl ((vl n v).map rV)] (.tup [rV (sumN n (visV n m A B v)), .i .i64 0]) [] :=
 steps_ok' n m 38 100000 (by have := h.hn; omega) (by have := h.hm; omega) A B h.hC h.hA h.hB (by decide) (bigL8 h.hn) (by decide) v h.hv (fun i hi => Nat.le_trans (h.hvL i hi) (by decide)) h.hX (by decide) (by decide) (by
  have := h.hn
  have := h.hm
  have h1 : (n + m + 1) * (60 * (2 * 100000 + 1) + 1 + 1) ≤ 14 * (60 * (2 * 100000 + 1) + 1 + 1) := Nat.mul_le_mul_right _ (by omega)
  omega) h0 h.visL
theorem Small.rsteps {n m : Nat} {A B : Mx} {v : Nat → Rat} (h : Small n m A B v) (h0 : neverQ n m A B v = 0) : PCall Tryz.prog 27 [cV n m A B, .sl ((vl n v).map rV)] (.tup [rV (sumN n (visV n m A B v)), .i .i64 0]) [] := by
 have cv := h.rvisits h0 _ h.isVis
 have hn := h.hn
 have cs := pvsum h.visL (by decide) (by
  have h3 : n * (100000 + 1) ≤ 8 * (100000 + 1) := Nat.mul_le_mul_right _ hn
  omega)
 refine PCall.of_ax Tryz.call27 Tryz.func27 rfl (by simp [Tryz.ntmps27]) fun O w0 => ?_
 simp only [Tryz.ntmps27, Tryz.results27, argFr]
 clear h
 generalize sumN n (visV n m A B v) = q at *
 unfold cV at *
 generalize (mcells n A (n * n)).map rV = Ac at *
 generalize (mcells m B (n * m)).map rV = Bc at *
 generalize (vl n (visV n m A B v)).map rV = wc at *
 generalize (vl n v).map rV = vs at *
 refine AX.sR (rgAV [1, 2, 4]) ?_
 refine AX.sR (rgCV [4, 6, 7] (aI cv oT)) ?_
 refine AX.seq ?_
 refine AX.sR (rgAV [4, 6, 7, 15]) ?_
 refine AX.condF (h := ?_)
 refine AX.keepA [4, 6] (h := ?_)
 refine AX.skip ?_
 refine nmZ (h := ?_)
 refine AX.sR (rgCV [4, 5] (aI cs oT)) ?_
 refine AX.ret ⟨.inl rfl, ?_⟩
 exact Done.cellE rfl rfl rfl
def VisitsAgree (c : V) (S : List V) : Prop := ∃ (e : Int) (a : List V) (p : V), PCall Tryz.prog 24 [c, .sl S] (.tup [.sl a, .i .i64 e]) [] ∧ PCall Tryz.prog 25 [c, .sl S] (.tup [.sl a, .i .i64 e]) [] ∧
 PCall Tryz.prog 26 [c, .sl S] (.tup [p, .i .i64 e]) [] ∧ PCall Tryz.prog 27 [c, .sl S] (.tup [p, .i .i64 e]) [] ∧
 PCall Tryz.prog 21 [.sl a, .sl a] (.b true) [] ∧ PCall Tryz.prog 22 [p, p] (.b true) [] ∧ ∃ (s : Bool) (d1 d2 : List Nat), p = rR s d1 d2
theorem visits_agree_err {c : V} {R1 C1 R2 C2 : Int} {x y sl : List V} (hc : c = .agg [.i .i64 R1, .i .i64 C1, .sl x, .i .i64 R2, .i .i64 C2, .sl y]) (e1 : PCall Tryz.prog 18 [c, .sl sl] (.tup [.sl [], zR, .i .i64 1]) []) (e2 : PCall Tryz.prog 19 [c, .sl sl] (.tup [.sl [], zR, .i .i64 1]) []) : VisitsAgree c sl := by
 have c1 := cvisits_err c R1 C1 R2 C2 x y sl hc e1
 have c2 := rvisits_err c R1 C1 R2 C2 x y sl hc e2
 exact ⟨1, [], zR, c1, c2, csteps_err c 1 R1 C1 R2 C2 x y sl hc (by decide) c1, rsteps_err c 1 R1 C1 R2 C2 x y sl hc (by decide) c2, same_nil, psame_z, false, [], [], rfl⟩
theorem Small.visitsAgree {n m : Nat} {A B : Mx} {v : Nat → Rat} (h : Small n m A B v) : VisitsAgree (cV n m A B) ((vl n v).map rV) := by
 have hn := h.hn
 have c1 := h.visits
 by_cases h0 : neverQ n m A B v = 0
 ·rw [if_pos h0] at c1
  have hq : ∀ q ∈ vl n (visV n m A B v), rL q ≤ 100000 := vl_mem h.visL
  have sm := c20same_ok (vl n (visV n m A B v)) (vl n (visV n m A B v)) 100000 hq hq (by decide) (by decide) (by rw [vl_length]; omega) (by rw [vl_length]; omega)
  rw [decide_eq_true rfl] at sm
  have hs := sumN_len h.visL n (Nat.le_refl _)
  have h3 : n * (100000 + 1) ≤ 8 * (100000 + 1) := Nat.mul_le_mul_right _ hn
  exact ⟨0, _, _, c1, h.rvisits h0 _ h.isVis, h.csteps h0, h.rsteps h0, sm, psame_q (L := 2000000) (by omega) (by decide) (by decide), _, _, _, rfl⟩
 ·rw [if_neg h0] at c1
  have c2 := rvisits_zero h h0
  exact ⟨31, [], zR, c1, c2, csteps_err _ 31 n n n m _ _ _ rfl (by decide) c1, rsteps_err _ 31 n n n m _ _ _ rfl (by decide) c2, same_nil, psame_z, false, [], [], rfl⟩
theorem Few.visitsAgree {c : V} (h : Few c) {ss : List RT} (hs : okX ss) (hl : ss.length ≤ 100) (hs3 : ∀ x ∈ ss, x.2.1.length ≤ 3 ∧ x.2.2.length ≤ 3) : VisitsAgree c (ss.map fR) := by
 cases h with
 | shape R1 C1 R2 C2 xs ys h1 h2 h3 h4 hx hy lx ly hno =>
  have c1 := cright_not R1 C1 R2 C2 xs ys h1 h2 h3 h4 hx hy (by omega) (by omega) hno
  have c2 := r20right_not R1 C1 R2 C2 xs ys h1 h2 h3 h4 hx hy (by omega) (by omega) hno
  exact visits_agree_err rfl (cends_not R1 C1 R2 C2 _ _ _ c1) (rends_not R1 C1 R2 C2 _ _ _ c2)
 | rows n m A B hn hm hA hB hC =>
  have c1 := cright_ok n m 3 hn hm A B hA hB (by decide) (by decide)
  have c2 := r20right_ok n m 3 hn hm A B hA hB (by decide) (by decide)
  rw [hC] at c1 c2
  exact visits_agree_err rfl (cends_not n n n m _ _ _ c1) (rends_not n n n m _ _ _ c2)
 | ok n m A B hn hm hA hB hC =>
  have c1 := cright_ok n m 38 (by omega) (by omega) A B hA hB (by decide) (by decide)
  have c2 := r20right_ok n m 38 (by omega) (by omega) A B hA hB (by decide) (by decide)
  rw [hC] at c1 c2
  have w1 := weights_ok n m A B (by omega) ss (by omega) hs
  have w2 := rweights_ok n (by omega) ss (by omega) hs
  cases hW : isW n ss with
  | false =>
   rw [hW] at w1 w2
   exact visits_agree_err rfl (cends_arg n m A B _ c1 w1) (rends_arg n m A B _ c2 w2)
  | true =>
   obtain ⟨v, rfl, hv⟩ := isW_vec (fun x hx => ⟨(hs x hx).1, (hs x hx).2.1⟩) hW
   have hS : Small n m A B v := ⟨hn, hm, hA, hB, hC, hv, fun i hi => by
    have hm : toRT (v i) ∈ (vl n v).map toRT := List.mem_map.2 ⟨v i, List.mem_map.2 ⟨i, by simpa using hi, rfl⟩, rfl⟩
    exact toRT_len (hs3 _ hm).1 (hs3 _ hm).2⟩
   rw [map_toRT]
   exact hS.visitsAgree
set_option maxHeartbeats 8000000 in
theorem visits_rest (c c' : V) (S S' : List V) (R1 C1 R2 C2 : Int) (x y : List V) (hc : c = .agg [.i .i64 R1, .i .i64 C1, .sl x, .i .i64 R2, .i .i64 C2, .sl y]) (R1' C1' R2' C2' : Int) (x' y' : List V) (hc' : c' = .agg [.i .i64 R1', .i .i64 C1', .sl x', .i .i64 R2', .i .i64 C2', .sl y'])
  (cf : PCall Tryz.prog 14 [c, .sl S] (.tup [c', .sl S']) []) (hm : VisitsAgree c' S') : PCall Tryz.prog 4 [c, .sl S] (.b true) [] := by
 obtain ⟨e, a, p, c1, c2, c3, c4, c5, c6, s, d1, d2, hp⟩ := hm
 subst hp hc hc'
 have cof := lof_ok R1' C1' R2' C2' x' y'
 have cal := lalive_ok
 unfold rR at *
 refine PCall.of_ax Tryz.call4 Tryz.func4 rfl (by simp [Tryz.ntmps4]) fun O w0 => ?_
 simp only [Tryz.ntmps4, Tryz.results4, argFr]
 refine AX.sR (rgAV [1, 2]) ?_
 refine AX.sR (rgCV [1, 2] (aI cf oT)) ?_
 refine AX.sR (rgCV [1, 2, 5, 6] (aI c1 oT)) ?_
 refine AX.sR (rgCV [1, 2, 5, 6, 7, 8] (aI cof (aI c2 oT))) ?_
 refine AX.sR (rgCV [1, 2, 5, 6, 7, 8, 9, 10] (aI c3 oT)) ?_
 refine AX.sR (rgCV [5, 6, 7, 8, 9, 10, 11, 12] (aI cof (aI c4 oT))) ?_
 refine AX.sR (rgCV [4] (aI c5 (aI c6 (aI cal oT)))) ?_
 refine AX.ret ⟨.inl rfl, ?_⟩
 exact Done.one rfl rfl rfl rfl
theorem chainVisits_ok (R1 C1 R2 C2 : Int) (xs ys ss : List RT) (h1 : bd R1) (h2 : bd C1) (h3 : bd R2) (h4 : bd C2) (hx : okRT xs) (hy : okRT ys) (hs : okRT ss) (lx : xs.length < 2 ^ 62) (ly : ys.length < 2 ^ 62) (ls : ss.length < 2 ^ 62) :
  PCall Tryz.prog 4 [.agg [.i .i64 R1, .i .i64 C1, .sl (xs.map fR), .i .i64 R2, .i .i64 C2, .sl (ys.map fR)], .sl (ss.map fR)] (.b true) [] := by
 obtain ⟨c', S', cf, hf, s1, s2, s3⟩ := few_all R1 C1 R2 C2 xs ys ss h1 h2 h3 h4 hx hy hs lx ly ls
 obtain ⟨R1', C1', R2', C2', x', y', e⟩ := hf.shaped
 exact visits_rest _ c' _ _ R1 C1 R2 C2 _ _ rfl R1' C1' R2' C2' x' y' e cf (hf.visitsAgree s1 s2 s3)
end Go.Proofs.YtepkjfnffbdcoaaGreat
