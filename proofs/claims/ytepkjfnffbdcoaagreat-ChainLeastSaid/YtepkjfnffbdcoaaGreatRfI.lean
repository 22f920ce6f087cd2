/- The reference's matrices: Add. -/
import Derived.Test.YtepkjfnffbdcoaaGreatHB
import Derived.Test.YtepkjfnffbdcoaaGreatHJ
set_option linter.unusedVariables false
set_option maxRecDepth 20000
set_option linter.unusedSimpArgs false
namespace Go.Proofs.YtepkjfnffbdcoaaGreat
open Go Go.Proofs.YtepkjfnffbdcoaaGreat.Lift
attribute [local irreducible] Lift.PCall Lift.HCall
theorem Lift.Done.matS {st : St} {t t' : Tmp} {h h2 : Nat} {T T' T2 : TypeId} {z : List V} {K : Nat} {xs : List Rat} {k1 k2 : IntKind} {n1 n2 e : Int} (hL : lay Tryz.prog T' = some ⟨3, true, 40, z⟩) (h1 : lkp st.fr t = some (.ptr h 0)) (g1 : lkp st.hp h = some ⟨T, [.i k1 n1, .i k2 n2, .own h2 0 K 3]⟩) (g2 : lkp st.hp h2 = some ⟨T2, qrow xs⟩) (g3 : lkp st.fr t' = some (.i .i64 e)) (hK : K = xs.length) :
  Done Tryz.prog #[.cell t T', .tmp t'] (.tup [.agg [.i k1 n1, .i k2 n2, .sl (xs.map rV)], .i .i64 e]) [] st := by
 subst hK
 refine Done.of (vs := [.agg [.i k1 n1, .i k2 n2, .own h2 0 xs.length 3], .i .i64 e]) (hp := dlt st.hp h2) ?_ ?_ rfl ?_ ?_
 ·simp only [resVs, resV, h1, g1, hL, g3]; rfl
 ·simp only [packV, frz, frzL, g2, List.not_mem_nil, if_false, take_q, flat_q, hf_q, qrow_length, Nat.zero_add, Nat.le_refl, and_self, if_true, chunks_q, Nat.zero_lt_succ, true_and]
 ·simp only [V.lt, V.ltL]; rfl
 ·simp only [V.ren, V.renL]
set_option maxHeartbeats 8000000 in
theorem wadd_ok (r c L : Nat) (hr : r ≤ 60) (hc : c ≤ 60) (A B : Mx) (hA : ∀ i k, i < r → k < c → rL (A i k) ≤ L) (hB : ∀ i k, i < r → k < c → rL (B i k) ≤ L) (hL1 : 1 ≤ L) (hL : L < 2 ^ 34) :
  PCall Tryz.prog 37 [qM r c A, qM r c B] (.tup [qM r c (addM A B), .i .i64 0]) [] := by
 have c1 := wright_q r c hr hc A (fun i k hi hk => by have := hA i k hi hk; omega)
 have c2 := wright_q r c hr hc B (fun i k hi hk => by have := hB i k hi hk; omega)
 have cz := wzeros_own r c hr hc
 have hrc : r * c ≤ 60 * 60 := Nat.mul_le_mul hr hc
 have e1 : ∀ j, (j < r * c) → j / c < r ∧ j % c < c := fun j hj => by
  have hc0 : 0 < c := Nat.pos_of_ne_zero fun e => by subst e; simp at hj
  exact ⟨(Nat.div_lt_iff_lt_mul hc0).2 hj, Nat.mod_lt _ hc0⟩
 obtain ⟨fa, hfa⟩ : ∃ f : Nat → Rat, f = fun j => A (j / c) (j % c) := ⟨_, rfl⟩
 obtain ⟨fb, hfb⟩ : ∃ f : Nat → Rat, f = fun j => B (j / c) (j % c) := ⟨_, rfl⟩
 obtain ⟨g, hg⟩ : ∃ g : Nat → Rat, g = fun j => addM A B (j / c) (j % c) := ⟨_, rfl⟩
 have ca : ∀ j, j < r * c → PCall Tryz.prog 33 [.agg [.b (decide ((fa j).num < 0)), dg (digits (fa j).num.natAbs), dg (digits (fa j).den)], .agg [.b (decide ((fb j).num < 0)), dg (digits (fb j).num.natAbs), dg (digits (fb j).den)]] (.agg [.b (decide ((g j).num < 0)), dg (digits (g j).num.natAbs), dg (digits (g j).den)]) [] := fun j hj => by
  rw [hfa, hfb, hg]
  exact padd_ok (IsQ.of (hA _ _ (e1 j hj).1 (e1 j hj).2)) (IsQ.of (hB _ _ (e1 j hj).1 (e1 j hj).2)) hL1 hL
 have vA : mcells c A (r * c) = vl (r * c) fa := by rw [hfa]; rfl
 have vB : mcells c B (r * c) = vl (r * c) fb := by rw [hfb]; rfl
 have vS : mcells c (addM A B) (r * c) = vl (r * c) g := by rw [hg]; rfl
 have vZ : mcells c (fun _ _ => 0) (r * c) = vl (r * c) fun j => if j < 0 then g j else 0 := by
  show vl (r * c) (fun _ => 0) = _
  exact vl_congr fun j _ => by rw [if_neg (Nat.not_lt_zero _)]
 unfold qM mV at *
 rw [vZ] at cz
 rw [vA] at c1
 rw [vB] at c2
 rw [vA, vB, vS]
 clear hA hB e1 vA vB vS vZ hfa hfb hg
 generalize r * c = K at *
 have ixA := fun (j : Nat) (hj : j < K) => fun x y => effIxL (x := x) (y := y) fa hj
 have ixB := fun (j : Nat) (hj : j < K) => fun x y => effIxL (x := x) (y := y) fb hj
 have hml : ((vl K fa).map rV).length = K := by rw [List.length_map, vl_length]
 generalize (vl K fa).map rV = Ac at *
 generalize (vl K fb).map rV = Bc at *
 refine PCall.of_ax Tryz.call37 Tryz.func37 rfl (by simp [Tryz.ntmps37]) fun O w0 => ?_
 simp only [Tryz.ntmps37, Tryz.results37, argFr]
 refine AX.sR (rgAV [2, 3, 4]) ?_
 refine AX.seq ?_
 refine AX.block ?_
 refine AX.sR (rgCV [2, 3, 4, 8] (aI c1 (aI c2 oT))) ?_
 refine AX.condF ?_
 refine AX.sR (rgAV [2, 3, 4, 18]) ?_
 refine AX.condF ?_
 refine AX.keepA [2, 3, 4] ?_
 refine AX.skip ?_
 refine nmZ ?_
 refine AX.sR (rgCV [2, 3, 4, 6] (aI cz oT)) ?_
 refine AX.seq ?_
 refine AX.sR (rgAV [2, 3, 4, 6, 39, 40]) ?_
 refine AX.weaken id (st' := ⟨[(40, .i .i64 (0 : Nat)), (39, .i .i64 K), (6, .ptr 4 0), (4, .ptr 2 0), (3, .ptr 1 0), (2, .ptr 0 0)], [(0, ⟨32, [.i .i64 r, .i .i64 c, .sl Ac]⟩), (1, ⟨32, [.i .i64 r, .i .i64 c, .sl Bc]⟩), (2, ⟨32, [.i .i64 0, .i .i64 0, .nl]⟩), (3, ⟨41, qrow (vl K fun j => if j < 0 then g j else 0)⟩), (4, ⟨32, [.i .i64 r, .i .i64 c, .own 3 0 K 3]⟩)], 5⟩)
  leQ4
  ?_
 refine AX.block ?_
 refine AX.loop (fun N st => ∃ (i : Nat) (z : Nat → Rat), i ≤ K ∧ N = K - i ∧ (∀ j, z j = if j < i then g j else 0) ∧ st = ⟨[(40, .i .i64 i), (39, .i .i64 K), (6, .ptr 4 0), (4, .ptr 2 0), (3, .ptr 1 0), (2, .ptr 0 0)], [(0, ⟨32, [.i .i64 r, .i .i64 c, .sl Ac]⟩), (1, ⟨32, [.i .i64 r, .i .i64 c, .sl Bc]⟩), (2, ⟨32, [.i .i64 0, .i .i64 0, .nl]⟩), (3, ⟨41, qrow (vl K z)⟩), (4, ⟨32, [.i .i64 r, .i .i64 c, .own 3 0 K 3]⟩)], 5⟩) K ⟨0, _, Nat.zero_le _, rfl, (fun j => rfl), rfl⟩ ?_
 rintro N st ⟨i, z, hi, rfl, hz, rfl⟩
 by_cases h1 : i < K
 ·have ix1 := ixA i h1
  have ix2 := ixB i h1
  have ca1 := ca i h1
  have hl3 := vl_len3 K z
  have hset := vl_set3 z (g i) h1
  have hz' : ∀ j, (fun k' => if k' = i then g i else z k') j = if j < i + 1 then g j else 0 := fun j => by
   show (if j = i then g i else z j) = _
   by_cases e : j = i
   ·subst e
    rw [if_pos rfl, if_pos (by omega)]
   ·rw [if_neg e, hz j]
    by_cases h : j < i
    ·rw [if_pos h, if_pos (by omega)]
    ·rw [if_neg h, if_neg (by omega)]
  generalize (fun k' => if k' = i then g i else z k') = z2 at *
  clear ixA ixB ca cz c1 c2
  generalize fa i = p at *
  generalize fb i = q at *
  generalize g i = s at *
  refine AX.sR (rgAV [2, 3, 4, 6, 39, 40, 41]) ?_
  refine AX.seq ?_
  refine AX.condT ?_
  refine AX.keepA [2, 3, 4, 6, 39, 40] ?_
  refine AX.skip ?_
  refine nmZ ?_
  refine AX.seq ?_
  refine AX.block ?_
  refine AX.sR (rgAV [2, 3, 4, 6, 7, 39, 40]) ?_
  refine AX.rD (rgDEV [2, 3, 4, 6, 39, 40] (aI @hl3 oT) (aI ca1 oT) (aI ix1 (aI ix2 oT))) ?_
  refine nmZ ?_
  rw [hset]
  refine AX.rR (rgWV [2, 3, 4, 6, 39, 40] (aI @lit_add oT) oT) ?_
  refine nmZ ?_
  refine ⟨_, _, id, ?_,
   leQ4
   , ⟨i + 1, z2, by omega, rfl, hz', rfl⟩⟩
  omega
 ·have e : i = K := by omega
  subst e
  have hv : vl i z = vl i g := vl_congr fun j hj => by rw [hz j, if_pos hj]
  rw [hv]
  refine AX.sR (rgAV [2, 3, 4, 6, 39, 40, 41]) ?_
  refine AX.seq ?_
  refine AX.condF ?_
  refine AX.exit ?_
  refine nmZ ?_
  refine AX.sR (rgAV [4, 5]) ?_
  refine AX.ret ⟨.inl rfl, ?_⟩
  exact Done.matS lay_mat19 rfl rfl rfl rfl (vl_length _ _).symm
end Go.Proofs.YtepkjfnffbdcoaaGreat
