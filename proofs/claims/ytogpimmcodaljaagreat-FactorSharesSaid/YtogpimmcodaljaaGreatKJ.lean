/- Factors: the program's less, Sum, Most. -/
import Derived.Test.YtogpimmcodaljaaGreatKI
set_option linter.unusedVariables false
set_option maxRecDepth 20000
set_option linter.unusedSimpArgs false
namespace Go.Proofs.YtogpimmcodaljaaGreat
open Go Go.Proofs.YtogpimmcodaljaaGreat.Lift
attribute [local irreducible] Lift.PCall Lift.HCall
theorem pw_ci {l : List Nat} (h : l.Pairwise (· < ·)) : (ci l).Pairwise (· < ·) := List.pairwise_map.2 (h.imp fun {a b} hab => by omega)
theorem tz_mem {t : Nat → Nat} {v : Int} {j : Nat} (hj : j < (vsT t).length) (h : (((vsT t).getD j 0 : Nat) : Int) = v) : tz t v ≠ 0 := by
 rw [← h, tz_at hj]
 exact (vsT_get hj).2
theorem bs_none {t : Nat → Nat} {v : Int} (h : tz t v = 0) (R : Nat) : decide (R < (ci (vsT t)).length ∧ (ci (vsT t)).getD R 0 = v) = false := decide_eq_false fun ⟨h1, h2⟩ => by
 rw [ci_length] at h1
 rw [cast_get] at h2
 exact tz_mem h1 h2 h
theorem bs_some {t : Nat → Nat} {v : Nat} (hv : v < 64) (h0 : t v ≠ 0) : ∃ i, i < (vsT t).length ∧ (vsT t).getD i 0 = v ∧ bsN (ci (vsT t)) v (ci (vsT t)).length 0 (ci (vsT t)).length = i := by
 obtain ⟨s1, s2⟩ := bsN_spec (v := v) (pw_ci (vsT_asc t)) (ci (vsT t)).length 0 (ci (vsT t)).length (by omega) (Nat.zero_le _) (Nat.le_refl _) (fun k hk => absurd hk (Nat.not_lt_zero _)) (fun k h1 h2 => absurd h2 (by omega))
 obtain ⟨i, hi, e⟩ := mem_getD0 (vsT_mem.2 ⟨hv, h0⟩)
 generalize bsN (ci (vsT t)) v (ci (vsT t)).length 0 (ci (vsT t)).length = R at *
 refine ⟨i, hi, e, ?_⟩
 have h1 : ¬ i < R := fun h => by
  have := s1 i h
  rw [cast_get, e] at this
  omega
 have h2 : ¬ R < i := fun h => by
  have h3 := s2 R (Nat.le_refl _) (by rw [ci_length]; omega)
  have h4 := asc_get (vsT_asc t) h hi
  rw [cast_get] at h3
  omega
 omega
theorem bs_dec {t : Nat → Nat} {v i : Nat} (hi : i < (vsT t).length) (e : (vsT t).getD i 0 = v) : decide (i < (ci (vsT t)).length ∧ (ci (vsT t)).getD i 0 = (v : Int)) = true := decide_eq_true ⟨by rw [ci_length]; exact hi, by rw [cast_get, e]⟩
set_option maxHeartbeats 8000000 in
theorem fless_some (arm : Int) (F : Nat) (t : Nat → Nat) (q : Nat → Rat) (ht : okT t) (hq : ∀ k, k < szT t → rL (q k) ≤ 2 ^ 30) (v : Nat) (hv : v < 64) (h0 : t v ≠ 0) (r : Nat → Rat) (hop : ∀ n, n < szT (updT t v 0) → PCall Tryz.prog F ([.sl ((ql (t v) fun k => q (enT t (updT (deT (updT t v 0) n) v k))).map rV)] ++ []) (rV (r n)) []) :
  PCall Tryz.prog 24 [FV t q, .i .i64 v, .fn F []] (.tup [FV (updT t v 0) r, .i .i64 0]) [] := by
 have hm := vsT_len t
 have cr := fright_ok (ci (vsT t)) (ci (asT t)) (xsT t q) (by rw [ci_length]; omega) (by rw [ci_length, asT_len]; omega) (by rw [xsT_length]; have := ht.2; omega) (xsT_okY hq).x
 rw [isF_T ht q] at cr
 have cb := fbs_ok (ci (vsT t)) v (by rw [ci_length]; omega) (ci_bd (M := 64) (fun j hj => by have := (vsT_get hj).1; omega) (by omega)) (by omega)
 obtain ⟨i, hi, e, hbs⟩ := bs_some hv h0
 rw [hbs, bs_dec hi e] at cb
 have cw := fwithout_ok arm t q ht i hi v e F r hop
 clear hbs e hop
 unfold FV fV at *
 generalize zl (ci (vsT t)) = V1 at *
 generalize zl (ci (asT t)) = V2 at *
 generalize (xsT t q).map fR = V3 at *
 generalize zl (ci (vsT (updT t v 0))) = V4 at *
 generalize zl (ci (asT (updT t v 0))) = V5 at *
 generalize (xsT (updT t v 0) r).map fR = V6 at *
 refine PCall.of_ax Tryz.call24 Tryz.func24 rfl (by simp [Tryz.ntmps24]) fun O w0 => ?_
 simp only [Tryz.ntmps24, Tryz.results24, argFr]
 refine AX.sR (rgAV [1, 2, 3, 6]) ?_
 refine AX.seq ?_
 refine AX.sR (rgCV [1, 2, 3, 6, 12] (aI cr oT)) ?_
 refine AX.condF ?_
 refine AX.keepA [1, 2, 3, 6] ?_
 refine AX.skip ?_
 refine nmZ ?_
 refine AX.sR (rgCV [2, 3, 6, 8, 9] (aI cb oT)) ?_
 refine AX.seq ?_
 refine AX.sR (rgAV [2, 3, 6, 8, 22]) ?_
 refine AX.condF ?_
 refine AX.keepA [2, 3, 6, 8] ?_
 refine AX.skip ?_
 refine nmZ ?_
 refine AX.sR (rgCV [6, 7] (aI cw oT)) ?_
 refine AX.ret ⟨.inl rfl, ?_⟩
 exact dnQ5
set_option maxHeartbeats 8000000 in
theorem flessr_some (arm : Int) (F : Nat) (t : Nat → Nat) (q : Nat → Rat) (ht : okT t) (hq : ∀ k, k < szT t → rL (q k) ≤ 2 ^ 30) (v : Nat) (hv : v < 64) (h0 : t v ≠ 0) (r : Nat → Rat) (hop : ∀ n, n < szT (updT t v 0) → PCall Tryz.prog F ([.sl ((ql (t v) fun k => q (enT t (updT (deT (updT t v 0) n) v k))).map rV)] ++ [.rp [.i .i64 arm]]) (rV (r n)) []) :
  PCall Tryz.prog 24 [FV t q, .i .i64 v, .fn F [.rp [.i .i64 arm]]] (.tup [FV (updT t v 0) r, .i .i64 0]) [] := by
 have hm := vsT_len t
 have cr := fright_ok (ci (vsT t)) (ci (asT t)) (xsT t q) (by rw [ci_length]; omega) (by rw [ci_length, asT_len]; omega) (by rw [xsT_length]; have := ht.2; omega) (xsT_okY hq).x
 rw [isF_T ht q] at cr
 have cb := fbs_ok (ci (vsT t)) v (by rw [ci_length]; omega) (ci_bd (M := 64) (fun j hj => by have := (vsT_get hj).1; omega) (by omega)) (by omega)
 obtain ⟨i, hi, e, hbs⟩ := bs_some hv h0
 rw [hbs, bs_dec hi e] at cb
 have cw := fwithoutr_ok arm t q ht i hi v e F r hop
 clear hbs e hop
 unfold FV fV at *
 generalize zl (ci (vsT t)) = V1 at *
 generalize zl (ci (asT t)) = V2 at *
 generalize (xsT t q).map fR = V3 at *
 generalize zl (ci (vsT (updT t v 0))) = V4 at *
 generalize zl (ci (asT (updT t v 0))) = V5 at *
 generalize (xsT (updT t v 0) r).map fR = V6 at *
 refine PCall.of_ax Tryz.call24 Tryz.func24 rfl (by simp [Tryz.ntmps24]) fun O w0 => ?_
 simp only [Tryz.ntmps24, Tryz.results24, argFr]
 refine AX.sR (rgAV [1, 2, 3, 6]) ?_
 refine AX.seq ?_
 refine AX.sR (rgCV [1, 2, 3, 6, 12] (aI cr oT)) ?_
 refine AX.condF ?_
 refine AX.keepA [1, 2, 3, 6] ?_
 refine AX.skip ?_
 refine nmZ ?_
 refine AX.sR (rgCV [2, 3, 6, 8, 9] (aI cb oT)) ?_
 refine AX.seq ?_
 refine AX.sR (rgAV [2, 3, 6, 8, 22]) ?_
 refine AX.condF ?_
 refine AX.keepA [2, 3, 6, 8] ?_
 refine AX.skip ?_
 refine nmZ ?_
 refine AX.sR (rgCV [6, 7] (aI cw oT)) ?_
 refine AX.ret ⟨.inl rfl, ?_⟩
 exact dnQ5
end Go.Proofs.YtogpimmcodaljaaGreat
/- Factors: the program's Sum, Most, Restrict. -/
set_option linter.unusedVariables false
set_option linter.unusedSimpArgs false
namespace Go.Proofs.YtogpimmcodaljaaGreat
open Go Go.Proofs.YtogpimmcodaljaaGreat.Lift
attribute [local irreducible] Lift.PCall Lift.HCall
theorem sumTo_woX {N : Nat} (arm : Int) (f : Nat → Rat) : ∀ k, k ≤ N → sumTo (ql N f) k = woX 0 arm f k
 | 0, _ => rfl
 | k + 1, h => by
  show sumTo (ql N f) k + (ql N f).getD k 0 = if k = 0 ∨ 0 = 2 ∧ (k : Int) = arm then f k else if 0 = 0 then woX 0 arm f k + f k else _
  rw [ql_get f (by omega), sumTo_woX arm f k (by omega)]
  by_cases h0 : k = 0
  ·subst h0
   rw [if_pos (.inl rfl)]
   exact Rat.zero_add _
  ·rw [if_neg (by omega), if_pos rfl]
theorem hopSum (n : Nat) (f : Nat → Rat) (hn : 1 ≤ n) (hn2 : n ≤ 64) (L : Nat) (hL1 : 1 ≤ L) (hL : L ≤ 2 ^ 26) (hf : ∀ k, k < n → rL (f k) ≤ L) : PCall Tryz.prog 25 ([.sl ((ql n f).map rV)] ++ []) (rV (woX 0 0 f n)) [] := by
 have e : ((ql n f).map rV).length = n := by rw [List.length_map, ql_length]
 have cs := qsum_ok (isQs_ql hf) (by
  rw [e]
  have h2 : n * (L + 1) ≤ 64 * (L + 1) := Nat.mul_le_mul_right _ hn2
  omega) hL1
 rw [e, sumTo_woX 0 f n (Nat.le_refl _)] at cs
 exact cs
set_option maxHeartbeats 4000000 in
theorem hopRestrict (n : Nat) (f : Nat → Rat) (hn : 1 ≤ n) (hn2 : n ≤ 64) (L : Nat) (hL1 : 1 ≤ L) (hL : L ≤ 2 ^ 26) (hf : ∀ k, k < n → rL (f k) ≤ L) (a : Nat) (ha : a < n) : PCall Tryz.prog 33 ([.sl ((ql n f).map rV)] ++ [.rp [.i .i64 (a : Nat)]]) (rV (woX 2 (a : Int) f n)) [] := by
 have e : ((ql n f).map rV).length = n := by rw [List.length_map, ql_length]
 have hix := fun x y => effIxT (x := x) (y := y) f ha
 have c2 := fown_ok (IsQ.of (hf a ha)) (by omega) hL1
 rw [woX_two n ha]
 generalize f a = m at *
 unfold rV rR at c2 hix ⊢
 show PCall Tryz.prog _ [_, _] _ _
 refine PCall.of_ax Tryz.call33 Tryz.func33 rfl (by simp [Tryz.ntmps33]) fun O w0 => ?_
 simp only [Tryz.ntmps33, Tryz.results33, argFr]
 generalize (ql n f).map _ = X at *
 refine AX.sR (rgAV [0, 1, 3]) ?_
 refine AX.sR (rgEV [3] oT (aI c2 oT) (aI hix oT)) ?_
 refine AX.ret ⟨.inl rfl, ?_⟩
 exact Done.cell rfl rfl
abbrev wSum : Nat := 0
set_option maxHeartbeats 4000000 in
theorem fSum_some (t : Nat → Nat) (q : Nat → Rat) (ht : okT t) (L : Nat) (hL1 : 1 ≤ L) (hL : L ≤ 2 ^ 26) (hq : ∀ k, k < szT t → rL (q k) ≤ L) (v : Nat) (hv : v < 64) (h0 : t v ≠ 0) : PCall Tryz.prog 6 [FV t q, .i .i64 v] (.tup [FV (updT t v 0) (woQ t q v wSum 0), .i .i64 0]) [] := by
 have c1 := fless_some 0 25 t q ht (fun k hk => Nat.le_trans (hq k hk) (by omega)) v hv h0 (woQ t q v wSum 0) (fun n hn => hopSum (t v) _ (Nat.pos_of_ne_zero h0) (ht.1 v) L hL1 hL fun k hk => hq _ (enT_lt (inT_upd hk)))
 unfold FV fV at *
 generalize zl (ci (vsT t)) = V1 at *
 generalize zl (ci (asT t)) = V2 at *
 generalize (xsT t q).map fR = V3 at *
 generalize zl (ci (vsT (updT t v 0))) = V4 at *
 generalize zl (ci (asT (updT t v 0))) = V5 at *
 generalize (xsT (updT t v 0) _).map fR = V6 at *
 refine PCall.of_ax Tryz.call6 Tryz.func6 rfl (by simp [Tryz.ntmps6]) fun O w0 => ?_
 simp only [Tryz.ntmps6, Tryz.results6, argFr]
 refine AX.sR (rgAV [1, 2, 4]) ?_
 refine AX.sR (rgCV [4, 5] (aI c1 oT)) ?_
 refine AX.ret ⟨.inl rfl, ?_⟩
 exact dnQ5
end Go.Proofs.YtogpimmcodaljaaGreat
