/- The reference's chains: Each. -/
import Derived.Test.YtepkjfnffbdcoaaGreatRgD
import Derived.Test.YtepkjfnffbdcoaaGreatRgE
import Derived.Test.YtepkjfnffbdcoaaGreatRfG
set_option linter.unusedVariables false
set_option maxRecDepth 20000
set_option linter.unusedSimpArgs false
namespace Go.Proofs.YtepkjfnffbdcoaaGreat
open Go Go.Proofs.YtepkjfnffbdcoaaGreat.Lift
attribute [local irreducible] Lift.PCall Lift.HCall
def dlt1 (i k : Nat) : Rat := if i = k then 1 else 0
def eqA (r : Nat → Bool) (A : Mx) (i0 k0 : Nat) : Mx := fun i k => if (i < i0 ∨ (i = i0 ∧ k < k0)) ∧ r i = true ∧ r k = true then dlt1 i k - A i k else dlt1 i k
def eqB (r : Nat → Bool) (B : Mx) (i0 k0 : Nat) : Mx := fun i k => if (i < i0 ∨ (i = i0 ∧ k < k0)) ∧ r i = true then B i k else 0
theorem nleQ (a : Nat) : (a ≤ a) = True := eq_true (Nat.le_refl a)
theorem dlt1_len (i k : Nat) : rL (dlt1 i k) ≤ 1 := by
 unfold dlt1
 split
 ·decide +kernel
 ·decide +kernel
theorem eqA_len {n L : Nat} {r : Nat → Bool} {A : Mx} {i0 k0 : Nat} (hA : ∀ i k, i < n → k < n → rL (A i k) ≤ L) : ∀ i k, i < n → k < n → rL (eqA r A i0 k0 i k) ≤ L + 2 := fun i k hi hk => by
 unfold eqA
 split
 ·have := rL_sub _ _ (dlt1_len i k) (hA i k hi hk)
  omega
 ·have := dlt1_len i k
  omega
theorem eqB_len {n m L : Nat} {r : Nat → Bool} {B : Mx} {i0 k0 : Nat} (hB : ∀ i k, i < n → k < m → rL (B i k) ≤ L) : ∀ i k, i < n → k < m → rL (eqB r B i0 k0 i k) ≤ L + 2 := fun i k hi hk => by
 unfold eqB
 split
 ·have := hB i k hi hk
  omega
 ·have : rL 0 ≤ 1 := by decide +kernel
  omega
theorem eq_rowA {n m : Nat} {A : Mx} {r : Nat → Bool} {y : Nat → Rat} (i : Nat) (hi : i < n) (h0 : ∀ k, k < n → r k = false → y k = 0) : (sumN n fun k => eqA r A n 0 i k * y k) = if r i = true then y i - sumN n fun k => A i k * y k else y i := by
 have hd : (sumN n fun k => dlt1 i k * y k) = y i := by
  rw [sumN_single hi fun k hk hne => by unfold dlt1; rw [if_neg (fun e => hne e.symm), Rat.zero_mul]]
  unfold dlt1
  rw [if_pos rfl, Rat.one_mul]
 split
 ·rename_i hr
  rw [← hd, ← sumN_sub]
  refine sumN_congr fun k hk => ?_
  unfold eqA
  cases hk' : r k
  ·rw [if_neg (fun h => by cases h.2.2), h0 k hk hk', Rat.mul_zero, Rat.mul_zero]
   grind
  ·rw [if_pos ⟨.inl hi, hr, rfl⟩]
   grind
 ·rename_i hr
  rw [← hd]
  refine sumN_congr fun k hk => ?_
  unfold eqA
  rw [if_neg (fun h => hr h.2.1)]
theorem eq_nonsing {n m : Nat} {A B : Mx} (hC : isC n m A B = true) : NonSing n (eqA (rchB n m A B) A n 0) := by
 intro y hy
 have h0 : ∀ k, k < n → rchB n m A B k = false → y k = 0 := fun k hk hr => by
  have h1 := hy k hk
  rw [sumN_congr (g := fun j => dlt1 k j * y j) (fun j hj => by unfold eqA; rw [if_neg (fun h => by rw [hr] at h; cases h.2.1)])] at h1
  rw [sumN_single hk fun j hj hne => by unfold dlt1; rw [if_neg (fun e => hne e.symm), Rat.zero_mul]] at h1
  unfold dlt1 at h1
  rwa [if_pos rfl, Rat.one_mul] at h1
 refine (chn n m A B).only (isC_ok hC) (x := y) (fun i hi hr => ?_) (fun i hi hr => ?_)
 ·have hi : i < n := hi
  have h1 := hy i hi
  rw [eq_rowA (m := m) i hi h0, if_pos (rchB_iff.2 hr)] at h1
  show y i = sumN n fun k => A i k * y k
  grind
 ·refine h0 i hi ?_
  cases hb : rchB n m A B i
  ·rfl
  ·exact absurd (rchB_iff.1 hb) hr
theorem eq_solX {n m : Nat} {A B X : Mx} (hX : (chn n m A B).IsEach X) : ∀ i c, i < n → c < m → (sumN n fun j => eqA (rchB n m A B) A n 0 i j * X j c) = eqB (rchB n m A B) B n 0 i c := by
 intro i c hi hc
 have hz : ∀ k, k < n → rchB n m A B k = false → X k c = 0 := fun k hk hr => hX.z k c hk hc fun h => by rw [rchB_iff.2 h] at hr; cases hr
 rw [eq_rowA (m := m) (y := fun j => X j c) i hi hz]
 unfold eqB
 cases hr : rchB n m A B i
 ·rw [if_neg (by decide), if_neg (fun h => by cases h.2)]
  exact hz i hi hr
 ·rw [if_pos rfl, if_pos ⟨.inl hi, rfl⟩]
  have := hX.eq i c hi hc (rchB_iff.1 hr)
  have e : (sumN (chn n m A B).n fun k => (chn n m A B).M i k * X k c) = sumN n fun k => A i k * X k c := rfl
  rw [e] at this
  have e2 : (chn n m A B).E i c = B i c := rfl
  rw [e2] at this
  grind
set_option maxHeartbeats 64000000 in
theorem r20each_ok (n m L : Nat) (hn : n ≤ 60) (hm : m ≤ 60) (A B X : Mx) (hC : isC n m A B = true) (hX : (chn n m A B).IsEach X) (hA : ∀ i k, i < n → k < n → rL (A i k) ≤ L) (hB : ∀ i k, i < n → k < m → rL (B i k) ≤ L) (hL1 : 1 ≤ L) (hL : 120 * (L + 1) + 1 < 2 ^ 33) (hL2 : 5 ^ n * (L + 2) < 2 ^ 30) :
  PCall Tryz.prog 16 [cV n m A B] (.tup [qM n m X, .i .i64 0]) [] := by
 have cr := r20right_ok n m L hn hm A B hA hB hL1 (by omega)
 rw [hC] at cr
 have crch := rreaches_ok n m L hn hm A B hC hA hB hL1 hL
 have cid := rident_own n hn
 have czr := rzero_own n m hn hm
 have csv := rsolve_ok n m (L + 2) hn hm _ _ X (eq_nonsing hC) (eqA_len hA) (eqB_len hB) (by omega) hL2 (eq_solX hX)
 generalize rchB n m A B = r at *
 have e1 : mcells n (idM n) (n * n) = mcells n (eqA r A 0 0) (n * n) := mcells_congr fun i k hi hk => by
  unfold idM eqA dlt1
  rw [if_neg (fun h : (i < 0 ∨ _) ∧ _ => by omega)]
  by_cases e : i = k
  ·rw [if_pos ⟨e, hi⟩, if_pos e]
  ·rw [if_neg (fun h => e h.1), if_neg e]
 have e2 : mcells m (fun _ _ => (0 : Rat)) (n * m) = mcells m (eqB r B 0 0) (n * m) := mcells_congr fun i k hi hk => by
  unfold eqB
  rw [if_neg (fun h => by omega)]
 rw [e1] at cid
 rw [e2] at czr
 have hnn : n * n ≤ 60 * 60 := Nat.mul_le_mul hn hn
 have hnm : n * m ≤ 60 * 60 := Nat.mul_le_mul hn hm
 have ixA := fun (i j : Nat) (hi : i < n) (hj : j < n) => fun x y => effIxM (x := x) (y := y) A hi hj rfl
 have ixB := fun (i j : Nat) (hi : i < n) (hj : j < m) => fun x y => effIxM (x := x) (y := y) B hi hj rfl
 refine PCall.of_ax Tryz.call16 Tryz.func16 rfl (by simp [Tryz.ntmps16]) fun O w0 => ?_
 simp only [Tryz.ntmps16, Tryz.results16, argFr]
 unfold cV qM mV at *
 generalize (mcells n A (n * n)).map rV = Ac at *
 generalize (mcells m B (n * m)).map rV = Bc at *
 generalize (mcells m X (n * m)).map rV = Xc at *
 have qA := fun i k => qlen n n (eqA r A i k)
 have qB := fun i k => qlen m n (eqB r B i k)
 have ckA : chunks 3 (n * n) (qrow (mcells n (eqA r A n 0) (n * n))) = (mcells n (eqA r A n 0) (n * n)).map rV := by
  have := chunks_q (mcells n (eqA r A n 0) (n * n))
  rwa [mcells_length] at this
 have ckB : chunks 3 (n * m) (qrow (mcells m (eqB r B n 0) (n * m))) = (mcells m (eqB r B n 0) (n * m)).map rV := by
  have := chunks_q (mcells m (eqB r B n 0) (n * m))
  rwa [mcells_length] at this
 have tkA : List.take (n * n * 3) (qrow (mcells n (eqA r A n 0) (n * n))) = qrow (mcells n (eqA r A n 0) (n * n)) := by rw [← qA n 0]; exact List.take_length
 have tkB : List.take (n * m * 3) (qrow (mcells m (eqB r B n 0) (n * m))) = qrow (mcells m (eqB r B n 0) (n * m)) := by rw [← qB n 0]; exact List.take_length
 obtain ⟨Kn, hKn⟩ : ∃ K, n * n = K := ⟨_, rfl⟩
 obtain ⟨Km, hKm⟩ : ∃ K, n * m = K := ⟨_, rfl⟩
 rw [hKn] at cid csv qA ckA tkA hnn
 rw [hKm] at czr csv qB ckB tkB hnm
 have hbl := bl_length n r
 have hbg := fun (i : Nat) (hi : i < n) => bl_get r hi
 obtain ⟨bs, hbs⟩ : ∃ x, bl n r = x := ⟨_, rfl⟩
 rw [hbs] at hbl hbg crch
 refine AX.sR (rgAV [1, 2]) ?_
 refine AX.seq ?_
 refine AX.sR (rgCV [1, 2, 15] (aI cr oT)) ?_
 refine AX.condF (h := ?_)
 refine AX.keepA [1, 2] (h := ?_)
 refine AX.skip ?_
 refine nmZ (h := ?_)
 refine AX.sR (rgCV [1, 2, 4] (aI crch oT)) ?_
 refine AX.sR (rgAV [1, 2, 4, 5]) ?_
 refine AX.sR (rgCV [1, 2, 4, 5, 6] (aI cid oT)) ?_
 refine AX.sR (rgCV [1, 2, 4, 5, 6, 8] (aI czr oT)) ?_
 refine AX.seq ?_
 refine AX.sR (rgAV [1, 2, 4, 5, 6, 8, 10]) ?_
 refine AX.weaken id (st' := ⟨[(10, .i .i64 (0 : Nat)), (8, .ptr 5 0), (6, .ptr 3 0), (5, .i .i64 n), (4, .sl bs), (2, .ptr 1 0), (1, .ptr 0 0)], [(5, ⟨32, [.i .i64 n, .i .i64 m, .own 4 0 Km 3]⟩), (4, ⟨41, qrow (mcells m (eqB r B 0 0) Km)⟩), (3, ⟨32, [.i .i64 n, .i .i64 n, .own 2 0 Kn 3]⟩), (2, ⟨41, qrow (mcells n (eqA r A 0 0) Kn)⟩), (1, ⟨32, [.i .i64 0, .i .i64 0, .nl]⟩), (0, ⟨36, [.i .i64 n, .i .i64 n, .sl Ac, .i .i64 n, .i .i64 m, .sl Bc]⟩)], 6⟩)
  leQ8
  ?_
 refine AX.block ?_
 refine AX.loop (fun N st => ∃ i : Nat, i ≤ n ∧ N = n - i ∧ st = ⟨[(10, .i .i64 i), (8, .ptr 5 0), (6, .ptr 3 0), (5, .i .i64 n), (4, .sl bs), (2, .ptr 1 0), (1, .ptr 0 0)], [(5, ⟨32, [.i .i64 n, .i .i64 m, .own 4 0 Km 3]⟩), (4, ⟨41, qrow (mcells m (eqB r B i 0) Km)⟩), (3, ⟨32, [.i .i64 n, .i .i64 n, .own 2 0 Kn 3]⟩), (2, ⟨41, qrow (mcells n (eqA r A i 0) Kn)⟩), (1, ⟨32, [.i .i64 0, .i .i64 0, .nl]⟩), (0, ⟨36, [.i .i64 n, .i .i64 n, .sl Ac, .i .i64 n, .i .i64 m, .sl Bc]⟩)], 6⟩) n ⟨0, Nat.zero_le _, rfl, rfl⟩ ?_
 rintro N st ⟨i, hi, rfl, rfl⟩
 refine AX.seq ?_
 by_cases h1 : i < n
 ·have hbi := hbg i h1
  have nxtA : ∀ Z : Nat, (r i = false ∨ Z = n) → mcells n (eqA r A i (if r i = true then Z else 0)) Kn = mcells n (eqA r A (i + 1) 0) Kn := fun Z hZ => by
   rw [← hKn]
   refine mcells_congr fun a k ha hk => ?_
   unfold eqA
   by_cases e : a = i
   ·subst e
    cases hr : r a
    ·rw [if_neg (fun h => by cases h.2.1), if_neg (fun h => by cases h.2.1)]
    ·rcases hZ with h | h
     ·rw [hr] at h; cases h
     ·rw [if_pos rfl, h]
      have z1 : (a < a ∨ a = a ∧ k < n) := .inr ⟨rfl, hk⟩
      have z2 : (a < a + 1 ∨ a = a + 1 ∧ k < 0) := .inl (Nat.lt_succ_self a)
      cases hrk : r k
      ·rw [if_neg (fun h => by cases h.2.2), if_neg (fun h => by cases h.2.2)]
      ·rw [if_pos ⟨z1, rfl, rfl⟩, if_pos ⟨z2, rfl, rfl⟩]
   ·have e3 : (a < i ∨ a = i ∧ k < (if r i = true then Z else 0)) = (a < i + 1 ∨ a = i + 1 ∧ k < 0) := by
     apply propext
     constructor <;> intro h <;> omega
    simp only [e3]
  have nxtB : ∀ Z : Nat, (r i = false ∨ Z = m) → mcells m (eqB r B i (if r i = true then Z else 0)) Km = mcells m (eqB r B (i + 1) 0) Km := fun Z hZ => by
   rw [← hKm]
   refine mcells_congr fun a k ha hk => ?_
   unfold eqB
   by_cases e : a = i
   ·subst e
    cases hr : r a
    ·rw [if_neg (fun h => by cases h.2), if_neg (fun h => by cases h.2)]
    ·rcases hZ with h | h
     ·rw [hr] at h; cases h
     ·rw [if_pos rfl, h]
      rw [if_pos ⟨.inr ⟨rfl, hk⟩, rfl⟩, if_pos ⟨.inl (Nat.lt_succ_self a), rfl⟩]
   ·have e3 : (a < i ∨ a = i ∧ k < (if r i = true then Z else 0)) = (a < i + 1 ∨ a = i + 1 ∧ k < 0) := by
     apply propext
     constructor <;> intro h <;> omega
    simp only [e3]
  refine AX.sR (rgAV [1, 2, 4, 5, 6, 8, 10, 37]) ?_
  refine AX.condT (h := ?_)
  refine AX.keepA [1, 2, 4, 5, 6, 8, 10] (h := ?_)
  refine AX.skip ?_
  refine nmZ (h := ?_)
  refine AX.seq ?_
  refine AX.block ?_
  refine AX.seq ?_
  cases hri : r i
  ·have n1 := nxtA 0 (.inl hri)
   have n2 := nxtB 0 (.inl hri)
   rw [hri, if_neg (by decide)] at n1 n2
   rw [hri] at hbi
   rw [n1, n2]
   clear nxtA nxtB
   refine AX.sR (rgWV [1, 2, 4, 5, 6, 8, 10, 44] (aI @hbl (aI @hbi oT)) oT) ?_
   refine AX.condT (h := ?_)
   refine AX.exit ?_
   refine nmZ (h := ?_)
   refine AX.rR (rgWV [1, 2, 4, 5, 6, 8, 10] (aI @lit_add oT) oT) ?_
   refine nmZ (h := ?_)
   refine ⟨_, _, id, ?_,
    leQ8
    , ⟨i + 1, by omega, rfl, rfl⟩⟩
   omega
  ·have n1 := nxtA n (.inr rfl)
   have n2 := nxtB m (.inr rfl)
   rw [hri, if_pos rfl] at n1 n2
   rw [hri] at hbi
   clear nxtA nxtB
   refine AX.sR (rgWV [1, 2, 4, 5, 6, 8, 10, 44] (aI @hbl (aI @hbi oT)) oT) ?_
   refine AX.condF (h := ?_)
   refine AX.keepA [1, 2, 4, 5, 6, 8, 10] (h := ?_)
   refine AX.skip ?_
   refine nmZ (h := ?_)
   refine AX.seq ?_
   refine AX.sR (rgAV [1, 2, 4, 5, 6, 8, 10, 11]) ?_
   refine AX.block ?_
   refine AX.loop (fun N st => ∃ k : Nat, k ≤ n ∧ N = n - k ∧ st = ⟨[(11, .i .i64 k), (10, .i .i64 i), (8, .ptr 5 0), (6, .ptr 3 0), (5, .i .i64 n), (4, .sl bs), (2, .ptr 1 0), (1, .ptr 0 0)], [(5, ⟨32, [.i .i64 n, .i .i64 m, .own 4 0 Km 3]⟩), (4, ⟨41, qrow (mcells m (eqB r B i 0) Km)⟩), (3, ⟨32, [.i .i64 n, .i .i64 n, .own 2 0 Kn 3]⟩), (2, ⟨41, qrow (mcells n (eqA r A i k) Kn)⟩), (1, ⟨32, [.i .i64 0, .i .i64 0, .nl]⟩), (0, ⟨36, [.i .i64 n, .i .i64 n, .sl Ac, .i .i64 n, .i .i64 m, .sl Bc]⟩)], 6⟩) n ⟨0, Nat.zero_le _, rfl, rfl⟩ ?_
   rintro N st ⟨k, hk, rfl, rfl⟩
   refine AX.seq ?_
   by_cases h2 : k < n
   ·have hbk := hbg k h2
    have ix := ixA i k h1 h2
    obtain ⟨z, hz⟩ : ∃ z, i * n + k = z := ⟨_, rfl⟩
    rw [hz] at ix
    have m1 : (i : Int) * (n : Int) = ((i * n : Nat) : Int) := (Int.natCast_mul i n).symm
    have a1 : ((i * n : Nat) : Int) + (k : Int) = (z : Int) := by rw [← Int.natCast_add, hz]
    have hzK : z < Kn := by
     rw [← hz, ← hKn]
     have : (i + 1) * n ≤ n * n := Nat.mul_le_mul_right _ h1
     rw [Nat.succ_mul] at this
     omega
    have bz : i * n ≤ 60 * 60 := by
     have : i * n ≤ n * n := Nat.mul_le_mul_right _ hi
     omega
    have hl := qA i k
    have hg := qget (n := n) (eqA r A i k) h1 h2 hz
    have ev : eqA r A i k i k = dlt1 i k := by
     unfold eqA
     rw [if_neg (fun h => by omega)]
    rw [ev] at hg
    have hset := qset (n := n) (eqA r A i k) (dlt1 i k - A i k) h1 h2 hz
    rw [hKn] at hg hset
    refine AX.sR (rgAV [1, 2, 4, 5, 6, 8, 10, 11, 47]) ?_
    refine AX.condT (h := ?_)
    refine AX.keepA [1, 2, 4, 5, 6, 8, 10, 11] (h := ?_)
    refine AX.skip ?_
    refine nmZ (h := ?_)
    refine AX.seq ?_
    refine AX.block ?_
    cases hrk : r k
    ·have hnext : mcells n (eqA r A i k) Kn = mcells n (eqA r A i (k + 1)) Kn := by
      rw [← hKn]
      refine mcells_congr fun a b ha hb => ?_
      unfold eqA
      by_cases e : a = i ∧ b = k
      ·rw [if_neg (fun h => by rw [e.2, hrk] at h; cases h.2.2), if_neg (fun h => by rw [e.2, hrk] at h; cases h.2.2)]
      ·have e3 : (a < i ∨ a = i ∧ b < k) = (a < i ∨ a = i ∧ b < k + 1) := by
        apply propext
        constructor <;> intro h <;> omega
       simp only [e3]
     rw [hrk] at hbk
     rw [hnext]
     refine AX.sR (rgWV [1, 2, 4, 5, 6, 8, 10, 11, 53] (aI @hbl (aI @hbk oT)) oT) ?_
     refine AX.condF (h := ?_)
     refine AX.keepA [1, 2, 4, 5, 6, 8, 10, 11] (h := ?_)
     refine AX.skip ?_
     refine nmZ (h := ?_)
     refine AX.rR (rgWV [1, 2, 4, 5, 6, 8, 10, 11] (aI @lit_add oT) oT) ?_
     refine nmZ (h := ?_)
     refine ⟨_, _, id, ?_,
      leQ8
      , ⟨k + 1, by omega, rfl, rfl⟩⟩
     omega
    ·have hnext : mcells n (updM (eqA r A i k) i k (dlt1 i k - A i k)) Kn = mcells n (eqA r A i (k + 1)) Kn := by
      rw [← hKn]
      refine mcells_congr fun a b ha hb => ?_
      unfold updM eqA
      by_cases e : a = i ∧ b = k
      ·rw [if_pos e, if_pos ⟨.inr ⟨e.1, by omega⟩, by rw [e.1]; exact hri, by rw [e.2]; exact hrk⟩, e.1, e.2]
      ·rw [if_neg e]
       have e3 : (a < i ∨ a = i ∧ b < k) = (a < i ∨ a = i ∧ b < k + 1) := by
        apply propext
        constructor <;> intro h <;> omega
       simp only [e3]
     rw [hnext] at hset
     rw [hrk] at hbk
     have cb : PCall Tryz.prog 48 [.agg [.b (decide (((dlt1 i k)).num < 0)), dg (digits ((dlt1 i k)).num.natAbs), dg (digits ((dlt1 i k)).den)], .agg [.b (decide (((A i k)).num < 0)), dg (digits ((A i k)).num.natAbs), dg (digits ((A i k)).den)]] (.agg [.b (decide (((dlt1 i k - A i k)).num < 0)), dg (digits ((dlt1 i k - A i k)).num.natAbs), dg (digits ((dlt1 i k - A i k)).den)]) [] := psub_ok (L := L + 1) (IsQ.of (Nat.le_trans (dlt1_len i k) (by omega))) (IsQ.of (Nat.le_trans (hA i k h1 h2) (by omega))) (by omega) (by omega)
     clear hnext ev
     generalize dlt1 i k - A i k = q1 at *
     generalize dlt1 i k = q2 at *
     generalize A i k = q3 at *
     refine AX.sR (rgWV [1, 2, 4, 5, 6, 8, 10, 11, 53] (aI @hbl (aI @hbk oT)) oT) ?_
     refine AX.condT (h := ?_)
     refine AX.rD (rgDEV [1, 2, 4, 5, 6, 8, 10, 11] (aI @m1 (aI @a1 (aI @hl (aI @hg oT)))) (aI cb oT) (aI ix oT)) ?_
     refine nmZ (h := ?_)
     rw [hset]
     refine AX.rR (rgWV [1, 2, 4, 5, 6, 8, 10, 11] (aI @lit_add oT) oT) ?_
     refine nmZ (h := ?_)
     refine ⟨_, _, id, ?_,
      leQ8
      , ⟨k + 1, by omega, rfl, rfl⟩⟩
     omega
   ·obtain rfl : n = k := by omega
    refine AX.sR (rgAV [1, 2, 4, 5, 6, 8, 10, 11, 47]) ?_
    refine AX.condF (h := ?_)
    refine AX.exit ?_
    refine nmZ (h := ?_)
    rw [n1]
    refine AX.sR (rgAV [1, 2, 4, 5, 6, 8, 10, 12]) ?_
    refine AX.block ?_
    refine AX.loop (fun N st => ∃ k : Nat, k ≤ m ∧ N = m - k ∧ st = ⟨[(12, .i .i64 k), (10, .i .i64 i), (8, .ptr 5 0), (6, .ptr 3 0), (5, .i .i64 n), (4, .sl bs), (2, .ptr 1 0), (1, .ptr 0 0)], [(5, ⟨32, [.i .i64 n, .i .i64 m, .own 4 0 Km 3]⟩), (4, ⟨41, qrow (mcells m (eqB r B i k) Km)⟩), (3, ⟨32, [.i .i64 n, .i .i64 n, .own 2 0 Kn 3]⟩), (2, ⟨41, qrow (mcells n (eqA r A (i + 1) 0) Kn)⟩), (1, ⟨32, [.i .i64 0, .i .i64 0, .nl]⟩), (0, ⟨36, [.i .i64 n, .i .i64 n, .sl Ac, .i .i64 n, .i .i64 m, .sl Bc]⟩)], 6⟩) m ⟨0, Nat.zero_le _, rfl, rfl⟩ ?_
    rintro N st ⟨k, hk, rfl, rfl⟩
    refine AX.seq ?_
    by_cases h3 : k < m
    ·have ix := ixB i k h1 h3
     obtain ⟨z, hz⟩ : ∃ z, i * m + k = z := ⟨_, rfl⟩
     rw [hz] at ix
     have m1 : (i : Int) * (m : Int) = ((i * m : Nat) : Int) := (Int.natCast_mul i m).symm
     have a1 : ((i * m : Nat) : Int) + (k : Int) = (z : Int) := by rw [← Int.natCast_add, hz]
     have hzK : z < Km := by
      rw [← hz, ← hKm]
      have : (i + 1) * m ≤ n * m := Nat.mul_le_mul_right _ h1
      rw [Nat.succ_mul] at this
      omega
     have bz : i * m ≤ 60 * 60 := by
      have : i * m ≤ n * m := Nat.mul_le_mul_right _ hi
      omega
     have hl := qB i k
     have hset := qset (n := n) (eqB r B i k) (B i k) h1 h3 hz
     have hnext : mcells m (updM (eqB r B i k) i k (B i k)) Km = mcells m (eqB r B i (k + 1)) Km := by
      rw [← hKm]
      refine mcells_congr fun a b ha hb => ?_
      unfold updM eqB
      by_cases e : a = i ∧ b = k
      ·rw [if_pos e, if_pos ⟨.inr ⟨e.1, by omega⟩, by rw [e.1]; exact hri⟩, e.1, e.2]
      ·rw [if_neg e]
       have e3 : (a < i ∨ a = i ∧ b < k) = (a < i ∨ a = i ∧ b < k + 1) := by
        apply propext
        constructor <;> intro h <;> omega
       simp only [e3]
     rw [hKm] at hset
     rw [hnext] at hset
     clear hnext
     generalize B i k = q3 at *
     refine AX.sR (rgAV [1, 2, 4, 5, 6, 8, 10, 12, 86]) ?_
     refine AX.condT (h := ?_)
     refine AX.keepA [1, 2, 4, 5, 6, 8, 10, 12] (h := ?_)
     refine AX.skip ?_
     refine nmZ (h := ?_)
     refine AX.seq ?_
     refine AX.block ?_
     refine AX.rD (rgDEV [1, 2, 4, 5, 6, 8, 10, 12] (aI @m1 (aI @a1 (aI @hl oT))) oT (aI ix oT)) ?_
     refine nmZ (h := ?_)
     rw [hset]
     refine AX.rR (rgWV [1, 2, 4, 5, 6, 8, 10, 12] (aI @lit_add oT) oT) ?_
     refine nmZ (h := ?_)
     refine ⟨_, _, id, ?_,
      leQ8
      , ⟨k + 1, by omega, rfl, rfl⟩⟩
     omega
    ·obtain rfl : m = k := by omega
     refine AX.sR (rgAV [1, 2, 4, 5, 6, 8, 10, 12, 86]) ?_
     refine AX.condF (h := ?_)
     refine AX.exit ?_
     refine nmZ (h := ?_)
     rw [n2]
     refine AX.rR (rgWV [1, 2, 4, 5, 6, 8, 10] (aI @lit_add oT) oT) ?_
     refine nmZ (h := ?_)
     refine ⟨_, _, id, ?_,
      leQ8
      , ⟨i + 1, by omega, rfl, rfl⟩⟩
     omega
 ·obtain rfl : n = i := by omega
  have lA := qA n 0
  have lB := qB n 0
  refine AX.sR (rgAV [1, 2, 4, 5, 6, 8, 10, 37]) ?_
  refine AX.condF (h := ?_)
  refine AX.exit ?_
  refine nmZ (h := ?_)
  clear hbl hbg
  generalize mcells n (eqA r A n 0) Kn = xs at *
  generalize mcells m (eqB r B n 0) Km = ys at *
  have f1 := flat_q xs
  have f2 := hf_q xs
  have f3 := flat_q ys
  have f4 := hf_q ys
  apply AX.sreg [2, 3] (by simp only [pq]; rfl)
  ·repeat (first
  |(apply RunO.op rfl; · rfl
    ·(simp only [opsOf, valsOf, valOf, lkp, ofConst, ofCell, Array.toList, Option.toList, List.map_cons, List.map_nil, List.cons_append, List.nil_append, List.append_nil, Nat.reduceEqDiff, Nat.reducePow, Nat.reduceLT, Nat.reduceLeDiff, reduceIte, if_true, if_false, IntKind.min, IntKind.max, IntKind.bits, IntKind.signed, Int.reduceLE, Int.reduceNeg, Int.reducePow, Int.reduceSub, and_self, Bool.false_eq_true, Nat.reduceSub]; rfl)
    iterate 2 (· (simp (disch := omega) only [go_sem, i64_of, u32_of, u64_of, Nat.reduceLT, Nat.reduceLeDiff, Nat.reduceEqDiff, Nat.reduceAdd, Nat.reduceSub, Nat.reduceMul, Nat.reducePow, Nat.reduceBEq, Int.reduceLE, Int.reduceLT, Int.reduceToNat, Int.reduceEq, Int.reduceNeg, reduceIte, reduceCtorEq, lA, tkA, ckA, f1, f2, lB, tkB, ckB, f3, f4, nleQ, List.not_mem_nil]; rfl))
    ·(simp only [pb, Nat.reduceLT, Nat.reduceAdd, reduceIte]; rfl))
  |(apply RunO.call rfl; · rfl
    ·(simp only [opsOf, valsOf, valOf, lkp, ofConst, ofCell, Array.toList, Option.toList, List.map_cons, List.map_nil, List.cons_append, List.nil_append, List.append_nil, Nat.reduceEqDiff, Nat.reducePow, Nat.reduceLT, Nat.reduceLeDiff, reduceIte, if_true, if_false, IntKind.min, IntKind.max, IntKind.bits, IntKind.signed, Int.reduceLE, Int.reduceNeg, Int.reducePow, Int.reduceSub, and_self, Bool.false_eq_true, Nat.reduceSub]; rfl)
    ·(simp (disch := omega) only [go_sem, i64_of, u32_of, u64_of, Nat.reduceLT, Nat.reduceLeDiff, Nat.reduceEqDiff, Nat.reduceAdd, Nat.reduceSub, Nat.reduceMul, Nat.reducePow, Nat.reduceBEq, Int.reduceLE, Int.reduceLT, Int.reduceToNat, Int.reduceEq, Int.reduceNeg, reduceIte, reduceCtorEq, lA, tkA, ckA, f1, f2, lB, tkB, ckB, f3, f4, nleQ, List.not_mem_nil]; rfl)
    ·rfl
    ·(first | exact csv)
    ·(simp (disch := omega) only [go_sem, i64_of, u32_of, u64_of, Nat.reduceLT, Nat.reduceLeDiff, Nat.reduceEqDiff, Nat.reduceAdd, Nat.reduceSub, Nat.reduceMul, Nat.reducePow, Nat.reduceBEq, Int.reduceLE, Int.reduceLT, Int.reduceToNat, Int.reduceEq, Int.reduceNeg, reduceIte, reduceCtorEq, lA, tkA, ckA, f1, f2, lB, tkB, ckB, f3, f4, nleQ, List.not_mem_nil]; rfl)
    ·(simp only [pb, Nat.reduceLT, Nat.reduceAdd, reduceIte]; rfl))
  |(apply RunO.skip; · rfl
    ·(simp only [pb, Nat.reduceLT, Nat.reduceAdd, reduceIte]; rfl)))
   exact RunO.nil
  ·repeat (first | exact Keep.nil | (apply Keep.take; · rfl) | (apply Keep.drop; · rfl))
  refine AX.ret ⟨.inl rfl, ?_⟩
  exact dnQ8
end Go.Proofs.YtepkjfnffbdcoaaGreat
