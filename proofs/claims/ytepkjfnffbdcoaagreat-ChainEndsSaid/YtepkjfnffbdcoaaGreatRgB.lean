/- The reference's matrices: rows that nobody writes. -/
import Derived.Test.YtepkjfnffbdcoaaGreatRgA
set_option linter.unusedVariables false
set_option maxRecDepth 20000
set_option linter.unusedSimpArgs false
namespace Go.Proofs.YtepkjfnffbdcoaaGreat
open Go Go.Proofs.YtepkjfnffbdcoaaGreat.Lift
attribute [local irreducible] Lift.PCall Lift.HCall
def sgR (n c i : Nat) (X : Mx) : List V := gl n fun a => if a < i then .sl ((vl c (X a)).map rV) else .nl
theorem sgR_length (n c i : Nat) (X : Mx) : (sgR n c i X).length = n := gl_length ..
theorem sgR_zero (n c : Nat) (X : Mx) : List.replicate n V.nl = sgR n c 0 X := by
 rw [gl_rep]
 exact gl_congr fun i hi => (if_neg (Nat.not_lt_zero _)).symm
theorem sgR_lt (n c i k : Nat) (X : Mx) : V.ltL k (sgR n c i X) = true := ltL_gln n fun a ha => by split <;> simp only [V.lt]
theorem sgR_fz {n c i : Nat} {X : Mx} (hi : i < n) : ∀ k, k < (sgR n c (i + 1) X).length → FzV 3 (qrow (vl c (X i))) (((sgR n c i X).set i (.own 3 0 c 3)).getD k .junk) ((sgR n c (i + 1) X).getD k .junk) := by
 intro k hk
 rw [sgR_length] at hk
 unfold sgR
 rw [gl_set _ _ hi, gl_get _ hk, gl_get _ hk]
 unfold updG
 by_cases h2 : k = i
 ·subst h2
  rw [if_pos rfl, if_pos (by omega)]
  refine .own (by have := okFrz_q (vl c (X k)); rw [vl_length] at this; exact this) ?_
  have h1 := take_q (vl c (X k))
  have h2 := chunks_q (vl c (X k))
  rw [vl_length] at h1 h2
  rw [h1, h2]
 ·rw [if_neg h2]
  dsimp only
  by_cases h1 : k < i
  ·rw [if_pos h1, if_pos (by omega)]
   exact .same
  ·rw [if_neg h1, if_neg (by omega)]
   exact .same
def slRows (n c : Nat) (X : Mx) : List V := gl n fun a => .sl ((vl c (X a)).map rV)
theorem sgR_end (n c : Nat) (X : Mx) : sgR n c n X = slRows n c X := gl_congr fun a ha => if_pos ha
theorem slRows_length (n c : Nat) (X : Mx) : (slRows n c X).length = n := gl_length ..
theorem slRows_hf (n c : Nat) (X : Mx) : V.hfL (slRows n c X) = true ∧ (slRows n c X).all V.flat = true := hfL_map _ (fun j => ⟨by simp only [V.hf], rfl⟩) _
theorem Lift.Done.slR {P : Program} {st : St} {t : Tmp} {h n c : Nat} {X : Mx} {T : TypeId} (h1 : lkp st.fr t = some (.own h 0 n 1)) (h2 : lkp st.hp h = some ⟨T, slRows n c X⟩) : Done P #[.tmp t] (.sl (slRows n c X)) [] st := by
 have e : List.take n (List.drop 0 (slRows n c X)) = slRows n c X := by rw [List.drop_zero]; exact List.take_of_length_le (by rw [slRows_length]; exact Nat.le_refl _)
 refine Done.of (vs := [.own h 0 n 1]) (hp := dlt st.hp h) ?_ ?_ rfl ?_ ?_
 ·simp only [resVs, resV, h1]
 ·simp only [packV, frz, h2, List.not_mem_nil, if_false, Nat.mul_one, Nat.zero_add, slRows_length, Nat.le_refl, e, (slRows_hf n c X).1, (slRows_hf n c X).2, and_self, if_true, Nat.lt_succ_self, Nat.zero_lt_one, true_and, chunks_one]
 ·simp only [V.lt]
 ·simp only [V.ren]
set_option maxHeartbeats 8000000 in
theorem rrows_sl (n c : Nat) (hn : n ≤ 60) (hc : c ≤ 60) (X : Mx) : PCall Tryz.prog 107 [qM n c X] (.sl (slRows n c X)) [] := by
 refine PCall.of_ax Tryz.call107 Tryz.func107 rfl (by simp [Tryz.ntmps107]) fun O w => ?_
 simp only [Tryz.ntmps107, Tryz.results107, argFr]
 have hsl := fun (i : Nat) (hi : i < n) => effSliceSeg (p := n) (m := c) (i := i) (o := 0) (t := c) X hi (by omega) (Nat.mul_le_mul hn hc)
 have hnc : n * c ≤ 60 * 60 := Nat.mul_le_mul hn hc
 have hlt := fun i k => sgR_lt n c i k X
 unfold qM mV
 generalize (mcells c X (n * c)).map rV = Xc at *
 refine AX.sR (rgAV [1]) ?_
 refine AX.sR (rgAV [1, 3]) ?_
 refine AX.seq ?_
 refine AX.sR (rgAV [1, 3, 9, 10]) ?_
 have e0 := sgR_zero n c X
 have hl0 := hlt 0 2
 refine AX.weaken id (st' := ⟨[(10, .i .i64 (0 : Nat)), (9, .i .i64 n), (3, .own 1 0 n 1), (1, .ptr 0 0)], [(1, ⟨22, sgR n c 0 X⟩), (0, ⟨32, [.i .i64 n, .i .i64 c, .sl Xc]⟩)], 2⟩)
  (leQ8H (And.intro e0 hl0))
  ?_
 refine AX.block ?_
 refine AX.loop (fun N st => ∃ i : Nat, i ≤ n ∧ N = n - i ∧ st = ⟨[(10, .i .i64 i), (9, .i .i64 n), (3, .own 1 0 n 1), (1, .ptr 0 0)], [(1, ⟨22, sgR n c i X⟩), (0, ⟨32, [.i .i64 n, .i .i64 c, .sl Xc]⟩)], 2⟩) n ⟨0, Nat.zero_le _, rfl, rfl⟩ ?_
 rintro N st ⟨i, hi, rfl, rfl⟩
 by_cases h1 : i < n
 ·have hs := hsl i h1
  have eA : (vl c fun k => X i (0 + k)) = vl c (X i) := vl_congr fun k _ => by rw [Nat.zero_add]
  rw [eA] at hs
  have m1 : (i : Int) * (c : Int) = ((i * c : Nat) : Int) := (Int.natCast_mul i c).symm
  have m2 : ((i + 1 : Nat) : Int) * (c : Int) = ((i * c + c : Nat) : Int) := by rw [← Int.natCast_mul, Nat.succ_mul]
  have hs := fun x lo hi' => hs x lo hi' (a := ((i * c : Nat) : Int)) (b := ((i * c + c : Nat) : Int)) rfl rfl
  have bn : i * c ≤ 60 * 60 := Nat.mul_le_mul (by omega) hc
  have hol := sgR_length n c i X
  have hfz := sgR_fz (c := c) (X := X) h1
  have hl2 := sgR_length n c (i + 1) X
  have hll := hlt (i + 1) 2
  obtain ⟨z, hz⟩ : ∃ z, i * c = z := ⟨_, rfl⟩
  rw [hz] at m1 m2 hs bn
  refine AX.sR (rgAV [1, 3, 9, 10, 11]) ?_
  refine AX.seq ?_
  refine AX.condT (h := ?_)
  refine AX.keepA [1, 3, 9, 10] (h := ?_)
  refine AX.skip ?_
  refine nmZ (h := ?_)
  refine AX.seq ?_
  refine AX.block ?_
  refine AX.sR (rgAV [1, 3, 4, 9, 10]) ?_
  refine AX.rR (rgEV [1, 3, 9, 10] (aI @lit_add (aI @m1 (aI @m2 (aI @hol (aI @vl_mlen (aI @flatCells_q (aI @vl_len3 (aI @flat_q (aI @vl_one oT))))))))) oT (aI (hs _) oT)) ?_
  refine nmZ (h := ?_)
  refine AX.fz 3 (fr' := [(10, .i .i64 i), (9, .i .i64 n), (3, .own 1 0 n 1), (1, .ptr 0 0)]) (hp' := [(1, ⟨22, sgR n c (i + 1) X⟩), (0, ⟨32, [.i .i64 n, .i .i64 c, .sl Xc]⟩)]) rfl (hf_q _) (.cons rfl .same (.cons rfl .same (.cons rfl .same (.cons rfl .same .nil)))) (.cons (by decide) rfl rfl (by rw [hl2, List.length_set, hol]) hfz (.keep (by decide) rfl .nil)) ?_
  refine AX.rR (rgWV [1, 3, 9, 10] (aI @lit_add oT) oT) ?_
  refine nmZ (h := ?_)
  refine ⟨_, _, id, ?_,
   (leQ8H hll)
   , ⟨i + 1, by omega, rfl, rfl⟩⟩
  omega
 ·obtain rfl : n = i := by omega
  refine AX.sR (rgAV [1, 3, 9, 10, 11]) ?_
  refine AX.seq ?_
  refine AX.condF (h := ?_)
  refine AX.exit ?_
  refine nmZ (h := ?_)
  rw [sgR_end]
  refine AX.sR (rgAV [2]) ?_
  refine AX.ret ⟨.inl rfl, ?_⟩
  exact Done.slR rfl rfl
end Go.Proofs.YtepkjfnffbdcoaaGreat
