/- The reference's chains: Reaches; the program's Reaches. -/
import Derived.Test.YtepkjfnffbdcoaaGreatRfF
set_option linter.unusedVariables false
set_option maxRecDepth 20000
set_option linter.unusedSimpArgs false
namespace Go.Proofs.YtepkjfnffbdcoaaGreat
open Go Go.Proofs.YtepkjfnffbdcoaaGreat.Lift
attribute [local irreducible] Lift.PCall Lift.HCall
noncomputable def rsN (n m : Nat) (A B : Mx) (i : Nat) : Nat → Bool
 | 0 => false
 | k + 1 => rsN n m A B i k || (toB n A i k && exN B k m)
theorem rsN_iff {n m : Nat} {A B : Mx} {i : Nat} (k : Nat) : rsN n m A B i k = true ↔ ∃ k', k' < k ∧ To n A i k' ∧ exN B k' m = true := by
 induction k with
 | zero => simp [rsN]
 | succ k ih =>
  rw [rsN, Bool.or_eq_true, ih, Bool.and_eq_true, toB_iff]
  constructor
  ·rintro (⟨k', h1, h2, h3⟩ | ⟨h2, h3⟩)
   ·exact ⟨k', by omega, h2, h3⟩
   ·exact ⟨k, by omega, h2, h3⟩
  ·rintro ⟨k', h1, h2, h3⟩
   by_cases e : k' = k
   ·subst e; exact .inr ⟨h2, h3⟩
   ·exact .inl ⟨k', by omega, h2, h3⟩
theorem Chn.Rch.from {n m : Nat} {A B : Mx} {i k : Nat} (h : To n A i k) (hr : (chn n m A B).Rch k) : i < n → (chn n m A B).Rch i := by
 intro hi
 induction h with
 | self _ => exact hr
 | move h1 h2 h3 ih => exact ih (.move h1.lt h2 h3 hr)
theorem rch_to {n m : Nat} {A B : Mx} {i : Nat} (h : (chn n m A B).Rch i) : ∃ k, To n A i k ∧ ∃ j, j < m ∧ 0 < B k j := by
 induction h with
 | exit h1 h2 h3 => exact ⟨_, .self h1, _, h2, h3⟩
 | move h1 h2 h3 _ ih =>
  obtain ⟨k, h5, h6⟩ := ih
  exact ⟨k, (To.move (.self h1) h2 h3).trans h5, h6⟩
theorem rsN_rch {n m : Nat} {A B : Mx} (hC : isC n m A B = true) {i : Nat} (hi : i < n) : rsN n m A B i n = rchB n m A B i := by
 have hOk := isC_ok hC
 have key : rsN n m A B i n = true ↔ rchB n m A B i = true := by
  rw [rsN_iff, rchB_iff]
  constructor
  ·rintro ⟨k, h1, h2, h3⟩
   obtain ⟨j, h4, h5⟩ := (exN_iff _ _ _).1 h3
   exact Chn.Rch.from h2 (.exit h1 h4 (pos_of (hOk.E0 k j h1 h4) h5)) hi
  ·intro h
   obtain ⟨k, h2, j, h3, h4⟩ := rch_to h
   exact ⟨k, h2.lt, h2, (exN_iff _ _ _).2 ⟨j, h3, fun e => by rw [e] at h4; exact absurd h4 (by decide)⟩⟩
 cases h1 : rsN n m A B i n
 ·cases h2 : rchB n m A B i
  ·rfl
  ·rw [key.2 h2] at h1; cases h1
 ·exact (key.1 h1).symm
set_option maxHeartbeats 16000000 in
theorem rreaches_ok (n m L : Nat) (hn : n ≤ 60) (hm : m ≤ 60) (A B : Mx) (hC : isC n m A B = true) (hA : ∀ i k, i < n → k < n → rL (A i k) ≤ L) (hB : ∀ i k, i < n → k < m → rL (B i k) ≤ L) (hL1 : 1 ≤ L) (hL : 120 * (L + 1) + 1 < 2 ^ 33) :
  PCall Tryz.prog 51 [cV n m A B] (.sl (bl n (rchB n m A B))) [] := by
 have hOk := isC_ok hC
 have cr := r20right_ok n m L hn hm A B hA hB hL1 hL
 rw [hC] at cr
 have crr := rreach_ok n m L hn A B hA (by omega)
 have cs : ∀ i k, i < n → k < m → PCall Tryz.prog 31 [.agg [.b (decide ((B i k).num < 0)), dg (digits (B i k).num.natAbs), dg (digits (B i k).den)]] (.i .i64 (sgnR (B i k))) [] := fun i k hi hk => psign_ok (IsQ.of (hB i k hi hk)) (by omega)
 have ixB := fun (i j : Nat) (hi : i < n) (hj : j < m) => fun x y => effIxM (x := x) (y := y) B hi hj rfl
 have hsg : ∀ i k, i < n → k < m → (decide (B i k ≠ 0) = true ↔ 0 < sgnR (B i k)) := fun i k hi hk => by
  rw [decide_eq_true_eq, sgnR_pos]
  exact ⟨fun h => pos_of (hOk.E0 i k hi hk) h, fun h e => by rw [e] at h; exact absurd h (by decide)⟩
 have hnn : n * m ≤ 60 * 60 := Nat.mul_le_mul hn hm
 have hfin : bl n (fun i => rsN n m A B i n) = bl n (rchB n m A B) := bl_congr fun i hi => rsN_rch hC hi
 have hlw := bll_length n (toB n A)
 have hgw := fun i (hi : i < n) => bll_get (toB n A) hi
 have hs1 : ∀ i k, rsN n m A B i (k + 1) = (rsN n m A B i k || (toB n A i k && exN B k m)) := fun _ _ => rfl
 have hs0 : ∀ i, rsN n m A B i 0 = false := fun _ => rfl
 rw [← hfin]
 clear hA hB hfin hC hOk
 obtain ⟨r, hr⟩ : ∃ r : Nat → Nat → Bool, rsN n m A B = r := ⟨_, rfl⟩
 rw [hr] at hs1 hs0 ⊢
 refine PCall.of_ax Tryz.call51 Tryz.func51 rfl (by simp [Tryz.ntmps51]) fun O w => ?_
 simp only [Tryz.ntmps51, Tryz.results51, argFr]
 unfold cV at *
 generalize (mcells n A (n * n)).map rV = Ac at *
 generalize (mcells m B (n * m)).map rV = Bc at *
 generalize bll n (toB n A) = Tw at *
 refine AX.sR (rgAV [1]) ?_
 refine AX.seq ?_
 refine AX.sR (rgCV [1, 10] (aI cr oT)) ?_
 refine AX.condF (h := ?_)
 refine AX.keepA [1] (h := ?_)
 refine AX.skip ?_
 refine nmZ (h := ?_)
 refine AX.sR (rgCV [1, 3] (aI crr oT)) ?_
 refine AX.sR (rgWV [1, 3, 4] (aI @bl_zero oT) oT) ?_
 refine AX.seq ?_
 refine AX.sR (rgAV [1, 3, 4, 18, 19]) ?_
 refine AX.weaken id (st' := ⟨[(19, .i .i64 (0 : Nat)), (18, .i .i64 n), (4, .own 1 0 n 1), (3, .sl Tw), (1, .ptr 0 0)], [(1, ⟨4, bl n fun _ => false⟩), (0, ⟨36, [.i .i64 n, .i .i64 n, .sl Ac, .i .i64 n, .i .i64 m, .sl Bc]⟩)], 2⟩)
  leQ8
  ?_
 refine AX.block ?_
 refine AX.loop (fun N st => ∃ (i : Nat) (f : Nat → Bool), i ≤ n ∧ N = n - i ∧ (∀ i', f i' = if i' < i then r i' n else false) ∧ st = ⟨[(19, .i .i64 i), (18, .i .i64 n), (4, .own 1 0 n 1), (3, .sl Tw), (1, .ptr 0 0)], [(1, ⟨4, bl n f⟩), (0, ⟨36, [.i .i64 n, .i .i64 n, .sl Ac, .i .i64 n, .i .i64 m, .sl Bc]⟩)], 2⟩) n ⟨0, _, Nat.zero_le _, rfl, fun i' => by rw [if_neg (Nat.not_lt_zero _)], rfl⟩ ?_
 rintro N st ⟨i, f, hi, rfl, hf, rfl⟩
 by_cases h1 : i < n
 ·refine AX.sR (rgAV [1, 3, 4, 18, 19, 20]) ?_
  refine AX.seq ?_
  refine AX.condT (h := ?_)
  refine AX.keepA [1, 3, 4, 18, 19] (h := ?_)
  refine AX.skip ?_
  refine nmZ (h := ?_)
  refine AX.seq ?_
  refine AX.block ?_
  refine AX.sR (rgAV [1, 3, 4, 5, 18, 19]) ?_
  refine AX.sR (rgAV [1, 3, 4, 5, 18, 19, 23, 24]) ?_
  refine AX.weaken id (st' := ⟨[(24, .i .i64 (0 : Nat)), (23, .i .i64 n), (19, .i .i64 i), (18, .i .i64 n), (5, .i .i64 i), (4, .own 1 0 n 1), (3, .sl Tw), (1, .ptr 0 0)], [(1, ⟨4, bl n f⟩), (0, ⟨36, [.i .i64 n, .i .i64 n, .sl Ac, .i .i64 n, .i .i64 m, .sl Bc]⟩)], 2⟩)
   leQ8
   ?_
  refine AX.block ?_
  refine AX.loop (fun N st => ∃ (k : Nat) (f : Nat → Bool), k ≤ n ∧ N = n - k ∧ (∀ i', f i' = if i' < i then r i' n else if i' = i then r i k else false) ∧ st = ⟨[(24, .i .i64 k), (23, .i .i64 n), (19, .i .i64 i), (18, .i .i64 n), (5, .i .i64 i), (4, .own 1 0 n 1), (3, .sl Tw), (1, .ptr 0 0)], [(1, ⟨4, bl n f⟩), (0, ⟨36, [.i .i64 n, .i .i64 n, .sl Ac, .i .i64 n, .i .i64 m, .sl Bc]⟩)], 2⟩) n ⟨0, f, Nat.zero_le _, rfl, fun i' => by
   rw [hf i', hs0]
   split
   ·rfl
   ·split <;> rfl, rfl⟩ ?_
  clear hf f
  rintro N st ⟨k, f, hk, rfl, hf, rfl⟩
  by_cases h2 : k < n
  ·have hgk := hgw i h1
   refine AX.sR (rgAV [1, 3, 4, 5, 18, 19, 23, 24, 25]) ?_
   refine AX.seq ?_
   refine AX.condT (h := ?_)
   refine AX.keepA [1, 3, 4, 5, 18, 19, 23, 24] (h := ?_)
   refine AX.skip ?_
   refine nmZ (h := ?_)
   refine AX.seq ?_
   refine AX.block ?_
   refine AX.sR (rgAV [1, 3, 4, 5, 6, 18, 19, 23, 24]) ?_
   refine AX.sR (rgAV [1, 3, 4, 5, 6, 7, 18, 19, 23, 24]) ?_
   refine AX.weaken id (st' := ⟨[(24, .i .i64 k), (23, .i .i64 n), (19, .i .i64 i), (18, .i .i64 n), (7, .i .i64 (0 : Nat)), (6, .i .i64 k), (5, .i .i64 i), (4, .own 1 0 n 1), (3, .sl Tw), (1, .ptr 0 0)], [(1, ⟨4, bl n f⟩), (0, ⟨36, [.i .i64 n, .i .i64 n, .sl Ac, .i .i64 n, .i .i64 m, .sl Bc]⟩)], 2⟩)
    leQ8
    ?_
   refine AX.block ?_
   refine AX.loop (fun N st => ∃ (j : Nat) (f : Nat → Bool), j ≤ m ∧ N = m - j ∧ (∀ i', f i' = if i' < i then r i' n else if i' = i then r i k || (toB n A i k && exN B k j) else false) ∧ st = ⟨[(24, .i .i64 k), (23, .i .i64 n), (19, .i .i64 i), (18, .i .i64 n), (7, .i .i64 j), (6, .i .i64 k), (5, .i .i64 i), (4, .own 1 0 n 1), (3, .sl Tw), (1, .ptr 0 0)], [(1, ⟨4, bl n f⟩), (0, ⟨36, [.i .i64 n, .i .i64 n, .sl Ac, .i .i64 n, .i .i64 m, .sl Bc]⟩)], 2⟩) m ⟨0, f, Nat.zero_le _, rfl, fun i' => by
    rw [hf i']
    split
    ·rfl
    ·split
     ·show r i k = (r i k || (toB n A i k && false))
      rw [Bool.and_false, Bool.or_false]
     ·rfl, rfl⟩ ?_
   clear hf f
   rintro N st ⟨j, f, hj, rfl, hf, rfl⟩
   refine AX.seq ?_
   by_cases h3 : j < m
   ·have hl := bl_length n f
    have hg := bl_get f h1
    have hbk := bl_get (toB n A i) h2
    have hbl := bl_length n (toB n A i)
    have hfi : f i = (r i k || (toB n A i k && exN B k j)) := by rw [hf i, if_neg (Nat.lt_irrefl _), if_pos rfl]
    rw [hfi] at hg
    have hc := cs k j h2 h3
    have ix := ixB k j h2 h3
    have hd := hsg k j h2 h3
    have m1 : (k : Int) * (m : Int) = ((k * m : Nat) : Int) := (Int.natCast_mul k m).symm
    have a1 : ((k * m : Nat) : Int) + (j : Int) = ((k * m + j : Nat) : Int) := (Int.natCast_add _ _).symm
    have b1 : k * m ≤ 60 * 60 := Nat.mul_le_mul (by omega) hm
    have hset := fun b => bl_set f b h1
    have hf' : ∀ b, b = (r i k || (toB n A i k && exN B k (j + 1))) → ∀ i', updB f i b i' = if i' < i then r i' n else if i' = i then r i k || (toB n A i k && exN B k (j + 1)) else false := by
     intro b hb i'
     unfold updB
     by_cases e : i' = i
     ·subst e
      rw [if_pos rfl, if_neg (Nat.lt_irrefl _), if_pos rfl]
      exact hb
     ·rw [if_neg e, hf i', if_neg e, if_neg e]
    have hex : exN B k (j + 1) = (exN B k j || decide (B k j ≠ 0)) := rfl
    clear cs ixB hsg hgw hs1 hs0
    generalize bl n (toB n A i) = Ti at *
    cases hv : (r i k || (toB n A i k && exN B k j))
    ·rw [hv] at hg
     cases ht : toB n A i k
     ·rw [ht] at hbk
      have hfb := hf' false (by rw [ht] at hv ⊢; simpa using hv)
      have hset := hset false
      clear hf hfi hf' hex
      generalize updB f i false = f2 at *
      refine AX.sR (rgAV [1, 3, 4, 5, 6, 7, 18, 19, 23, 24, 31]) ?_
      refine AX.condT (h := ?_)
      refine AX.keepA [1, 3, 4, 5, 6, 7, 18, 19, 23, 24] (h := ?_)
      refine AX.skip ?_
      refine nmZ (h := ?_)
      refine AX.seq ?_
      refine AX.block ?_
      refine AX.rR (rgWV [1, 3, 4, 5, 6, 7, 18, 19, 23, 24] (aI @hl (aI @hg (aI @hlw (aI @hgk (aI @hbl (aI @hbk oT)))))) oT) ?_
      refine nmZ (h := ?_)
      rw [hset]
      refine AX.rR (rgWV [1, 3, 4, 5, 6, 7, 18, 19, 23, 24] (aI @lit_add oT) oT) ?_
      refine nmZ (h := ?_)
      refine ⟨_, _, id, ?_,
       leQ8
       , ⟨j + 1, f2, by omega, rfl, (fun i' => by rw [hfb i', ht]), rfl⟩⟩
      omega
     ·rw [ht] at hbk
      have hv1 : r i k = false ∧ exN B k j = false := by rw [ht] at hv; simpa using hv
      by_cases hz : 0 < sgnR (B k j)
      ·have hfb := hf' true (by rw [ht, hex, hd.2 hz]; simp)
       have hset := hset true
       clear hf hfi hf' hex hd hv hv1
       generalize updB f i true = f2 at *
       generalize sgnR (B k j) = sg at *
       generalize B k j = p at *
       generalize k * m + j = z at *
       generalize k * m = x1 at *
       refine AX.sR (rgAV [1, 3, 4, 5, 6, 7, 18, 19, 23, 24, 31]) ?_
       refine AX.condT (h := ?_)
       refine AX.keepA [1, 3, 4, 5, 6, 7, 18, 19, 23, 24] (h := ?_)
       refine AX.skip ?_
       refine nmZ (h := ?_)
       refine AX.seq ?_
       refine AX.block ?_
       refine AX.rR (rgEV [1, 3, 4, 5, 6, 7, 18, 19, 23, 24] (aI @hl (aI @hg (aI @hlw (aI @hgk (aI @hbl (aI @hbk (aI @m1 (aI @a1 oT)))))))) (aI hc oT) (aI ix oT)) ?_
       refine nmZ (h := ?_)
       rw [hset]
       refine AX.rR (rgWV [1, 3, 4, 5, 6, 7, 18, 19, 23, 24] (aI @lit_add oT) oT) ?_
       refine nmZ (h := ?_)
       refine ⟨_, _, id, ?_,
        leQ8
        , ⟨j + 1, f2, by omega, rfl, (fun i' => by rw [hfb i', ht]), rfl⟩⟩
       omega
      ·have hdf : decide (B k j ≠ 0) = false := by
        cases h : decide (B k j ≠ 0)
        ·rfl
        ·exact absurd (hd.1 h) hz
       have hfb := hf' false (by rw [ht, hex, hdf, hv1.1, hv1.2]; rfl)
       have hset := hset false
       clear hf hfi hf' hex hd hv hv1 hdf
       generalize updB f i false = f2 at *
       generalize sgnR (B k j) = sg at *
       generalize B k j = p at *
       generalize k * m + j = z at *
       generalize k * m = x1 at *
       refine AX.sR (rgAV [1, 3, 4, 5, 6, 7, 18, 19, 23, 24, 31]) ?_
       refine AX.condT (h := ?_)
       refine AX.keepA [1, 3, 4, 5, 6, 7, 18, 19, 23, 24] (h := ?_)
       refine AX.skip ?_
       refine nmZ (h := ?_)
       refine AX.seq ?_
       refine AX.block ?_
       refine AX.rR (rgEV [1, 3, 4, 5, 6, 7, 18, 19, 23, 24] (aI @hl (aI @hg (aI @hlw (aI @hgk (aI @hbl (aI @hbk (aI @m1 (aI @a1 (aI @hz oT))))))))) (aI hc oT) (aI ix oT)) ?_
       refine nmZ (h := ?_)
       rw [hset]
       refine AX.rR (rgWV [1, 3, 4, 5, 6, 7, 18, 19, 23, 24] (aI @lit_add oT) oT) ?_
       refine nmZ (h := ?_)
       refine ⟨_, _, id, ?_,
        leQ8
        , ⟨j + 1, f2, by omega, rfl, (fun i' => by rw [hfb i', ht]), rfl⟩⟩
       omega
    ·rw [hv] at hg
     have hfb := hf' true (by
      rw [hex]
      cases h1 : r i k
      ·rw [h1] at hv
       have h2 : toB n A i k = true ∧ exN B k j = true := by simpa using hv
       rw [h2.1, h2.2]
       rfl
      ·rfl)
     have hset := hset true
     clear hf hfi hf' hex hd
     generalize updB f i true = f2 at *
     refine AX.sR (rgAV [1, 3, 4, 5, 6, 7, 18, 19, 23, 24, 31]) ?_
     refine AX.condT (h := ?_)
     refine AX.keepA [1, 3, 4, 5, 6, 7, 18, 19, 23, 24] (h := ?_)
     refine AX.skip ?_
     refine nmZ (h := ?_)
     refine AX.seq ?_
     refine AX.block ?_
     refine AX.rR (rgWV [1, 3, 4, 5, 6, 7, 18, 19, 23, 24] (aI @hl (aI @hg oT)) oT) ?_
     refine nmZ (h := ?_)
     rw [hset]
     refine AX.rR (rgWV [1, 3, 4, 5, 6, 7, 18, 19, 23, 24] (aI @lit_add oT) oT) ?_
     refine nmZ (h := ?_)
     refine ⟨_, _, id, ?_,
      leQ8
      , ⟨j + 1, f2, by omega, rfl, hfb, rfl⟩⟩
     omega
   ·have e : j = m := by omega
    subst e
    refine AX.sR (rgAV [1, 3, 4, 5, 6, 7, 18, 19, 23, 24, 31]) ?_
    refine AX.condF (h := ?_)
    refine AX.exit ?_
    refine nmZ (h := ?_)
    refine AX.rR (rgWV [1, 3, 4, 5, 18, 19, 23, 24] (aI @lit_add oT) oT) ?_
    refine nmZ (h := ?_)
    refine ⟨_, _, id, ?_,
     leQ8
     , ⟨k + 1, f, by omega, rfl, (fun i' => by rw [hf i', hs1]), rfl⟩⟩
    omega
  ·have e : k = n := by omega
   subst e
   refine AX.sR (rgAV [1, 3, 4, 5, 18, 19, 23, 24, 25]) ?_
   refine AX.seq ?_
   refine AX.condF (h := ?_)
   refine AX.exit ?_
   refine nmZ (h := ?_)
   refine AX.rR (rgWV [1, 3, 4, 18, 19] (aI @lit_add oT) oT) ?_
   refine nmZ (h := ?_)
   refine ⟨_, _, id, ?_,
    leQ8
    , ⟨i + 1, f, by omega, rfl, (fun i' => by
      rw [hf i']
      by_cases h : i' < i
      ·rw [if_pos h, if_pos (by omega)]
      ·rw [if_neg h]
       by_cases e : i' = i
       ·subst e
        rw [if_pos rfl, if_pos (by omega)]
       ·rw [if_neg e, if_neg (by omega)]), rfl⟩⟩
   omega
 ·have hbl : bl n f = bl n fun i => r i n := bl_congr fun i' hi' => by rw [hf i', if_pos (by omega)]
  rw [hbl]
  refine AX.sR (rgAV [1, 3, 4, 18, 19, 20]) ?_
  refine AX.seq ?_
  refine AX.condF (h := ?_)
  refine AX.exit ?_
  refine nmZ (h := ?_)
  refine AX.sR (rgAV [2]) ?_
  refine AX.ret ⟨.inl rfl, ?_⟩
  exact Done.slB rfl rfl
end Go.Proofs.YtepkjfnffbdcoaaGreat
