/- Factors: the program's both, Mul, Add. -/
import Derived.Test.YtogpimmcodaljaaKN
set_option linter.unusedVariables false
set_option maxRecDepth 20000
set_option linter.unusedSimpArgs false
namespace Go.Proofs.Ytogpimmcodaljaa
open Go Go.Proofs.Ytogpimmcodaljaa.Lift
attribute [local irreducible] Lift.PCall Lift.HCall
open Classical in
noncomputable def boV (t s : Nat → Nat) (r : Nat → Rat) : V := if misT t s then .tup [fV [] [] [], .i .i64 30] else if szT (joT t s) ≤ 4096 then .tup [FV (joT t s) r, .i .i64 0] else .tup [fV [] [] [], .i .i64 2]
theorem boV_ex (t s : Nat → Nat) (r : Nat → Rat) : ∃ (A B C : List V) (e : Int), boV t s r = .tup [.agg [.sl A, .sl B, .sl C], .i .i64 e] := by
 unfold boV
 split
 ·exact ⟨_, _, _, _, rfl⟩
 ·split
  ·exact ⟨_, _, _, _, rfl⟩
  ·exact ⟨_, _, _, _, rfl⟩
theorem joT_in1 {t s : Nat → Nat} {G : Nat → Nat} (h : inT (joT t s) G) : inT t G := fun u hu h0 => by
 have e : joT t s u = t u := if_pos h0
 have := h u hu (by rw [e]; exact h0)
 rwa [e] at this
theorem mis_eq {t s : Nat → Nat} (h : ¬ misT t s) {u : Nat} (hu : u < 64) (h0 : s u ≠ 0) (h1 : t u ≠ 0) : t u = s u := by
 obtain ⟨j, hj, rfl⟩ := mem_getD0 (vsT_mem.2 ⟨hu, h0⟩)
 apply Classical.byContradiction
 intro h2
 exact h ⟨j, hj, h1, h2⟩
theorem joT_2 {t s : Nat → Nat} (h : ¬ misT t s) {u : Nat} (hu : u < 64) (h0 : s u ≠ 0) : joT t s u = s u := by
 by_cases h1 : t u = 0
 ·exact if_neg (fun h => h h1)
 ·rw [← mis_eq h hu h0 h1]
  exact if_pos h1
theorem joT_in2 {t s : Nat → Nat} {G : Nat → Nat} (hm : ¬ misT t s) (h : inT (joT t s) G) : inT s G := fun u hu h0 => by
 have e := joT_2 hm hu h0
 have := h u hu (by rw [e]; exact h0)
 rwa [e] at this
set_option maxHeartbeats 16000000 in
theorem fboth_ok (t s : Nat → Nat) (q p : Nat → Rat) (ht : okT t) (hs : okT s) (hq : ∀ k, k < szT t → rL (q k) ≤ 2 ^ 30) (hp : ∀ k, k < szT s → rL (p k) ≤ 2 ^ 30) (F : Nat) (r : Nat → Rat)
  (hop : ¬ misT t s → ∀ n, n < szT (joT t s) → PCall Try.prog F [rV (q (enT t (deT (joT t s) n))), rV (p (enT s (deT (joT t s) n)))] (rV (r n)) []) : PCall Try.prog 52 [FV t q, FV s p, .fn F []] (boV t s r) [] := by
 have hmt := vsT_len t
 have hms := vsT_len s
 have cr1 := fright_ok (ci (vsT t)) (ci (asT t)) (xsT t q) (by rw [ci_length]; omega) (by rw [ci_length, asT_len]; omega) (by rw [xsT_length]; have := ht.2; omega) (xsT_okY hq).x
 rw [isF_T ht q] at cr1
 have cr2 := fright_ok (ci (vsT s)) (ci (asT s)) (xsT s p) (by rw [ci_length]; omega) (by rw [ci_length, asT_len]; omega) (by rw [xsT_length]; have := hs.2; omega) (xsT_okY hp).x
 rw [isF_T hs p] at cr2
 have cj := fun X Y => fjoined_ok t s X Y ht.1 hs.1
 have cf : ¬ misT t s → szT (joT t s) ≤ 4096 → PCall Try.prog 81 [.sl (zl (ci (vsT (joT t s)))), .sl (zl (ci (asT (joT t s)))), .fn 82 [.rp [.fn F []], .rp [.sl (zl (ci (vsT t))), .sl (zl (ci (asT t))), .sl ((ql (szT t) q).map rV)], .rp [.sl (zl (ci (vsT s))), .sl (zl (ci (asT s))), .sl ((ql (szT s) p).map rV)]]] (FV (joT t s) r) [] := fun h1 h2 => by
  have := ffilled_ok (joT t s) r ⟨joT_le ht.1 hs.1, h2⟩ 82 [.rp [.fn F []], .rp [.sl (zl (ci (vsT t))), .sl (zl (ci (asT t))), .sl ((ql (szT t) q).map rV)], .rp [.sl (zl (ci (vsT s))), .sl (zl (ci (asT s))), .sl ((ql (szT s) p).map rV)]] (fun n hn => by
   rw [cnq_of rfl]
   exact fboth1_g t s q p ht hs (deT (joT t s) n) (joT_in1 (deT_in _ n)) (joT_in2 h1 (deT_in _ n)) F (r n) (hop h1 n hn))
  rwa [cnq_of rfl] at this
 have j1 : misT t s → joV t s = .tup [.sl [], .sl [], .i .i64 30] := fun h => if_pos h
 have j2 : ¬ misT t s → ¬ szT (joT t s) ≤ 4096 → joV t s = .tup [.sl [], .sl [], .i .i64 2] := fun h h2 => (if_neg h).trans (if_neg h2)
 have j3 : ¬ misT t s → szT (joT t s) ≤ 4096 → joV t s = .tup [.sl (zl (ci (vsT (joT t s)))), .sl (zl (ci (asT (joT t s)))), .i .i64 0] := fun h h2 => (if_neg h).trans (if_pos h2)
 have b1 : misT t s → boV t s r = .tup [fV [] [] [], .i .i64 30] := fun h => if_pos h
 have b2 : ¬ misT t s → ¬ szT (joT t s) ≤ 4096 → boV t s r = .tup [fV [] [] [], .i .i64 2] := fun h h2 => (if_neg h).trans (if_neg h2)
 have b3 : ¬ misT t s → szT (joT t s) ≤ 4096 → boV t s r = .tup [FV (joT t s) r, .i .i64 0] := fun h h2 => (if_neg h).trans (if_pos h2)
 generalize joV t s = jv at *
 generalize boV t s r = bv at *
 clear hop
 unfold FV fV at *
 rw [xsT_map t q] at *
 rw [xsT_map s p] at *
 generalize zl (ci (vsT (joT t s))) = V3 at *
 generalize zl (ci (asT (joT t s))) = A3 at *
 generalize (xsT (joT t s) r).map fR = X3 at *
 generalize zl (ci (vsT t)) = V1 at *
 generalize zl (ci (asT t)) = A1 at *
 generalize (ql (szT t) q).map rV = X1 at *
 generalize zl (ci (vsT s)) = V2 at *
 generalize zl (ci (asT s)) = A2 at *
 generalize (ql (szT s) p).map rV = X2 at *
 have cj := cj X1 X2
 refine PCall.of_ax Try.call52 Try.func52 rfl (by simp [Try.ntmps52]) fun O w0 => ?_
 simp only [Try.ntmps52, Try.results52, argFr]
 refine AX.sR (rgAV [3, 4, 5, 6]) ?_
 refine AX.seq ?_
 refine AX.sR (rgCV [3, 4, 5, 6, 18] (aI cr1 (aI cr2 oT))) ?_
 refine AX.condF ?_
 refine AX.keepA [3, 4, 5, 6] ?_
 refine AX.skip ?_
 refine nmZ ?_
 clear cr1 cr2
 by_cases hm : misT t s
 ·obtain rfl := j1 hm
  obtain rfl := b1 hm
  clear j2 j3 b2 b3 cf
  refine AX.sR (rgCV [3, 4, 5, 6, 8, 9, 10] (aI cj oT)) ?_
  refine AX.seq ?_
  refine AX.sR (rgAV [3, 4, 5, 6, 8, 9, 10, 28]) ?_
  refine AX.condT ?_
  refine AX.sR (rgAV [6, 7]) ?_
  refine AX.ret ⟨.inl rfl, ?_⟩
  exact Lift.Done.facE fa_lay_fac rfl rfl rfl
 ·by_cases hl : szT (joT t s) ≤ 4096
  ·obtain rfl := j3 hm hl
   obtain rfl := b3 hm hl
   have cf := cf hm hl
   clear j1 j2 b1 b2
   refine AX.sR (rgCV [3, 4, 5, 6, 8, 9, 10] (aI cj oT)) ?_
   refine AX.seq ?_
   refine AX.sR (rgAV [3, 4, 5, 6, 8, 9, 10, 28]) ?_
   refine AX.condF ?_
   refine AX.keepA [3, 4, 5, 6, 8, 9] ?_
   refine AX.skip ?_
   refine nmZ ?_
   refine AX.fz 0 (fr' := [(3, .rp [.sl V1, .sl A1, .sl X1]), (4, .ptr 1 0), (5, .ptr 2 0), (6, .ptr 3 0), (8, .sl V3), (9, .sl A3)]) (hp' := [(3, ⟨25, [.nl, .nl, .nl]⟩), (2, ⟨53, [.fn F []]⟩), (1, ⟨25, [.sl V2, .sl A2, .sl X2]⟩)]) rfl rfl (by repeat (first | exact .nil | (refine .cons rfl ?_ ?_; · first | exact .same | exact .ptr rfl))) (by repeat (first | exact .nil | (refine .keep (by decide) rfl ?_))) ?_
   refine AX.fz 1 (fr' := [(3, .rp [.sl V1, .sl A1, .sl X1]), (4, .rp [.sl V2, .sl A2, .sl X2]), (5, .ptr 2 0), (6, .ptr 3 0), (8, .sl V3), (9, .sl A3)]) (hp' := [(3, ⟨25, [.nl, .nl, .nl]⟩), (2, ⟨53, [.fn F []]⟩)]) rfl rfl (by repeat (first | exact .nil | (refine .cons rfl ?_ ?_; · first | exact .same | exact .ptr rfl))) (by repeat (first | exact .nil | (refine .keep (by decide) rfl ?_))) ?_
   refine AX.fz 2 (fr' := [(3, .rp [.sl V1, .sl A1, .sl X1]), (4, .rp [.sl V2, .sl A2, .sl X2]), (5, .rp [.fn F []]), (6, .ptr 3 0), (8, .sl V3), (9, .sl A3)]) (hp' := [(3, ⟨25, [.nl, .nl, .nl]⟩)]) rfl rfl (by repeat (first | exact .nil | (refine .cons rfl ?_ ?_; · first | exact .same | exact .ptr rfl))) (by repeat (first | exact .nil | (refine .keep (by decide) rfl ?_))) ?_
   refine AX.sR (rgCV [6, 7] (aI cf oT)) ?_
   refine AX.ret ⟨.inl rfl, ?_⟩
   exact dnQ5
  ·obtain rfl := j2 hm hl
   obtain rfl := b2 hm hl
   clear j1 j3 b1 b3 cf
   refine AX.sR (rgCV [3, 4, 5, 6, 8, 9, 10] (aI cj oT)) ?_
   refine AX.seq ?_
   refine AX.sR (rgAV [3, 4, 5, 6, 8, 9, 10, 28]) ?_
   refine AX.condT ?_
   refine AX.sR (rgAV [6, 7]) ?_
   refine AX.ret ⟨.inl rfl, ?_⟩
   exact Lift.Done.facE fa_lay_fac rfl rfl rfl
set_option maxHeartbeats 8000000 in
theorem fboth_not1 (F : Nat) (vs ws : List Int) (xs : List RT) (V2 A2 X2 : List V) (hv : vs.length < 2 ^ 40) (ha : ws.length < 2 ^ 40) (hl : xs.length < 2 ^ 40) (hx : okX xs) (h : isF vs ws xs = false) : PCall Try.prog 52 [fV vs ws xs, .agg [.sl V2, .sl A2, .sl X2], .fn F []] (.tup [fV [] [] [], .i .i64 1]) [] := by
 have cr := fright_ok vs ws xs hv ha hl hx
 rw [h] at cr
 unfold fV at *
 generalize zl vs = V1 at *
 generalize zl ws = A1 at *
 generalize xs.map fR = X1 at *
 refine PCall.of_ax Try.call52 Try.func52 rfl (by simp [Try.ntmps52]) fun O w0 => ?_
 simp only [Try.ntmps52, Try.results52, argFr]
 refine AX.sR (rgAV [3, 4, 5, 6]) ?_
 refine AX.seq ?_
 refine AX.sR (rgCV [3, 4, 5, 6, 18] (aI cr oT)) ?_
 refine AX.condT ?_
 refine AX.sR (rgAV [6, 7]) ?_
 refine AX.ret ⟨.inl rfl, ?_⟩
 exact Lift.Done.facE fa_lay_fac rfl rfl rfl
set_option maxHeartbeats 8000000 in
theorem fboth_not2 (F : Nat) (us zs : List Int) (ys : List RT) (hu : us.length < 2 ^ 40) (hz : zs.length < 2 ^ 40) (hy : ys.length < 2 ^ 40) (hyx : okX ys) (hh : isF us zs ys = true) (vs ws : List Int) (xs : List RT) (hv : vs.length < 2 ^ 40) (ha : ws.length < 2 ^ 40) (hl : xs.length < 2 ^ 40) (hx : okX xs) (h : isF vs ws xs = false) : PCall Try.prog 52 [fV us zs ys, fV vs ws xs, .fn F []] (.tup [fV [] [] [], .i .i64 1]) [] := by
 have cr1 := fright_ok us zs ys hu hz hy hyx
 rw [hh] at cr1
 have cr := fright_ok vs ws xs hv ha hl hx
 rw [h] at cr
 unfold fV at *
 generalize zl vs = V1 at *
 generalize zl ws = A1 at *
 generalize xs.map fR = X1 at *
 generalize zl us = V2 at *
 generalize zl zs = A2 at *
 generalize ys.map fR = X2 at *
 refine PCall.of_ax Try.call52 Try.func52 rfl (by simp [Try.ntmps52]) fun O w0 => ?_
 simp only [Try.ntmps52, Try.results52, argFr]
 refine AX.sR (rgAV [3, 4, 5, 6]) ?_
 refine AX.seq ?_
 refine AX.sR (rgCV [3, 4, 5, 6, 18] (aI cr1 (aI cr oT))) ?_
 refine AX.condT ?_
 refine AX.sR (rgAV [6, 7]) ?_
 refine AX.ret ⟨.inl rfl, ?_⟩
 exact Lift.Done.facE fa_lay_fac rfl rfl rfl
abbrev opMul (a b : Rat) : Rat := a * b
abbrev opAdd (a b : Rat) : Rat := a + b
def boQ (op : Rat → Rat → Rat) (t s : Nat → Nat) (q p : Nat → Rat) (n : Nat) : Rat := op (q (enT t (deT (joT t s) n))) (p (enT s (deT (joT t s) n)))
set_option maxHeartbeats 8000000 in
theorem fMul_any (x y z : V) (V1 A1 X1 V2 A2 X2 A B C : List V) (e : Int) (hx : x = .agg [.sl V1, .sl A1, .sl X1]) (hy : y = .agg [.sl V2, .sl A2, .sl X2]) (hz : z = .tup [.agg [.sl A, .sl B, .sl C], .i .i64 e]) (c1 : PCall Try.prog 52 [x, y, .fn 53 []] z []) : PCall Try.prog 22 [x, y] z [] := by
 subst hx hy hz
 refine PCall.of_ax Try.call22 Try.func22 rfl (by simp [Try.ntmps22]) fun O w0 => ?_
 simp only [Try.ntmps22, Try.results22, argFr]
 refine AX.sR (rgAV [2, 3, 4]) ?_
 refine AX.sR (rgCV [4, 5] (aI c1 oT)) ?_
 refine AX.ret ⟨.inl rfl, ?_⟩
 exact dnQ5
theorem fMul_ok (t s : Nat → Nat) (q p : Nat → Rat) (ht : okT t) (hs : okT s) (L : Nat) (hL : L ≤ 2 ^ 30) (hq : ∀ k, k < szT t → rL (q k) ≤ L) (hp : ∀ k, k < szT s → rL (p k) ≤ L) : PCall Try.prog 22 [FV t q, FV s p] (boV t s (boQ opMul t s q p)) [] := by
 obtain ⟨A, B, C, e, hb⟩ := boV_ex t s (boQ opMul t s q p)
 refine fMul_any _ _ _ _ _ _ _ _ _ A B C e rfl rfl hb (fboth_ok t s q p ht hs (fun k hk => Nat.le_trans (hq k hk) hL) (fun k hk => Nat.le_trans (hp k hk) hL) _ _ fun hm n hn => ?_)
 exact qmul_ok (IsQ.of (hq _ (enT_lt (joT_in1 (deT_in _ n))))) (IsQ.of (hp _ (enT_lt (joT_in2 hm (deT_in _ n))))) (by omega)
theorem fMul_not1 (vs ws : List Int) (xs : List RT) (vs' ws' : List Int) (xs' : List RT) (hv : vs.length < 2 ^ 40) (ha : ws.length < 2 ^ 40) (hl : xs.length < 2 ^ 40) (hx : okX xs) (h : isF vs ws xs = false) : PCall Try.prog 22 [fV vs ws xs, fV vs' ws' xs'] (.tup [fV [] [] [], .i .i64 1]) [] :=
 fMul_any _ _ _ _ _ _ _ _ _ _ _ _ 1 rfl rfl rfl (fboth_not1 _ vs ws xs _ _ _ hv ha hl hx h)
theorem fMul_not2 (us zs : List Int) (ys : List RT) (hu : us.length < 2 ^ 40) (hz : zs.length < 2 ^ 40) (hy : ys.length < 2 ^ 40) (hyx : okX ys) (hh : isF us zs ys = true) (vs ws : List Int) (xs : List RT) (hv : vs.length < 2 ^ 40) (ha : ws.length < 2 ^ 40) (hl : xs.length < 2 ^ 40) (hx : okX xs) (h : isF vs ws xs = false) : PCall Try.prog 22 [fV us zs ys, fV vs ws xs] (.tup [fV [] [] [], .i .i64 1]) [] :=
 fMul_any _ _ _ _ _ _ _ _ _ _ _ _ 1 rfl rfl rfl (fboth_not2 _ us zs ys hu hz hy hyx hh vs ws xs hv ha hl hx h)
set_option maxHeartbeats 8000000 in
theorem fAdd_any (x y z : V) (V1 A1 X1 V2 A2 X2 A B C : List V) (e : Int) (hx : x = .agg [.sl V1, .sl A1, .sl X1]) (hy : y = .agg [.sl V2, .sl A2, .sl X2]) (hz : z = .tup [.agg [.sl A, .sl B, .sl C], .i .i64 e]) (c1 : PCall Try.prog 52 [x, y, .fn 55 []] z []) : PCall Try.prog 24 [x, y] z [] := by
 subst hx hy hz
 refine PCall.of_ax Try.call24 Try.func24 rfl (by simp [Try.ntmps24]) fun O w0 => ?_
 simp only [Try.ntmps24, Try.results24, argFr]
 refine AX.sR (rgAV [2, 3, 4]) ?_
 refine AX.sR (rgCV [4, 5] (aI c1 oT)) ?_
 refine AX.ret ⟨.inl rfl, ?_⟩
 exact dnQ5
theorem fAdd_ok (t s : Nat → Nat) (q p : Nat → Rat) (ht : okT t) (hs : okT s) (L : Nat) (hL : L ≤ 2 ^ 30) (hq : ∀ k, k < szT t → rL (q k) ≤ L) (hp : ∀ k, k < szT s → rL (p k) ≤ L) : PCall Try.prog 24 [FV t q, FV s p] (boV t s (boQ opAdd t s q p)) [] := by
 obtain ⟨A, B, C, e, hb⟩ := boV_ex t s (boQ opAdd t s q p)
 refine fAdd_any _ _ _ _ _ _ _ _ _ A B C e rfl rfl hb (fboth_ok t s q p ht hs (fun k hk => Nat.le_trans (hq k hk) hL) (fun k hk => Nat.le_trans (hp k hk) hL) _ _ fun hm n hn => ?_)
 exact qadd_ok (IsQ.of (hq _ (enT_lt (joT_in1 (deT_in _ n))))) (IsQ.of (hp _ (enT_lt (joT_in2 hm (deT_in _ n))))) (by omega)
theorem fAdd_not1 (vs ws : List Int) (xs : List RT) (vs' ws' : List Int) (xs' : List RT) (hv : vs.length < 2 ^ 40) (ha : ws.length < 2 ^ 40) (hl : xs.length < 2 ^ 40) (hx : okX xs) (h : isF vs ws xs = false) : PCall Try.prog 24 [fV vs ws xs, fV vs' ws' xs'] (.tup [fV [] [] [], .i .i64 1]) [] :=
 fAdd_any _ _ _ _ _ _ _ _ _ _ _ _ 1 rfl rfl rfl (fboth_not1 _ vs ws xs _ _ _ hv ha hl hx h)
theorem fAdd_not2 (us zs : List Int) (ys : List RT) (hu : us.length < 2 ^ 40) (hz : zs.length < 2 ^ 40) (hy : ys.length < 2 ^ 40) (hyx : okX ys) (hh : isF us zs ys = true) (vs ws : List Int) (xs : List RT) (hv : vs.length < 2 ^ 40) (ha : ws.length < 2 ^ 40) (hl : xs.length < 2 ^ 40) (hx : okX xs) (h : isF vs ws xs = false) : PCall Try.prog 24 [fV us zs ys, fV vs ws xs] (.tup [fV [] [] [], .i .i64 1]) [] :=
 fAdd_any _ _ _ _ _ _ _ _ _ _ _ _ 1 rfl rfl rfl (fboth_not2 _ us zs ys hu hz hy hyx hh vs ws xs hv ha hl hx h)
end Go.Proofs.Ytogpimmcodaljaa
/- Factors: the reference's joined, Mul, Add. -/
set_option linter.unusedVariables false
set_option linter.unusedSimpArgs false
namespace Go.Proofs.Ytogpimmcodaljaa
open Go Go.Proofs.Ytogpimmcodaljaa.Lift
attribute [local irreducible] Lift.PCall Lift.HCall
theorem joI_put {t s : Nat → Nat} {j : Nat} (hj : j < (vsT s).length) (h : t ((vsT s).getD j 0) ≠ 0 → t ((vsT s).getD j 0) = s ((vsT s).getD j 0)) : updT (joI t s j) ((vsT s).getD j 0) (s ((vsT s).getD j 0)) = joI t s (j + 1) := by
 by_cases h0 : t ((vsT s).getD j 0) = 0
 ·exact (joI_new hj h0).symm
 ·rw [joI_keep hj h0]
  funext u
  by_cases e : u = (vsT s).getD j 0
  ·rw [e, updT_same, joI_nz h0, h h0]
  ·rw [updT_ne _ _ e]
set_option maxHeartbeats 32000000 in
theorem rjoinedMul_ok (t s : Nat → Nat) (q p : Nat → Rat) (ht : okT t) (hs : okT s) (L : Nat) (hL1 : 1 ≤ L) (hL : L ≤ 2 ^ 30) (hq : ∀ k, k < szT t → rL (q k) ≤ L) (hp : ∀ k, k < szT s → rL (p k) ≤ L) : PCall Try.prog 54 [FV t q, FV s p, .b false] (boV t s (boQ opMul t s q p)) [] := by
 have hmt := vsT_len t
 have hms := vsT_len s
 have hzv : (zl (ci (vsT s))).length = (vsT s).length := zn_length _
 have hza : (zl (ci (asT s))).length = (vsT s).length := (zn_length _).trans (asT_len s)
 have hgv := fun j (hj : j < (vsT s).length) => show (zl (ci (vsT s))).getD j .junk = .i .i64 (((vsT s).getD j 0 : Nat) : Int) from zn_get hj
 have hga := fun j (hj : j < (vsT s).length) => show (zl (ci (asT s))).getD j .junk = .i .i64 ((s ((vsT s).getD j 0) : Nat) : Int) from (zn_get (by rw [asT_len]; exact hj)).trans (by rw [asT_get hj])
 have cr1 := fright26_ok (ci (vsT t)) (ci (asT t)) (xsT t q) (by rw [ci_length]; omega) (by rw [ci_length, asT_len]; omega) (by rw [xsT_length]; have := ht.2; omega) (xsT_okY fun k hk => Nat.le_trans (hq k hk) hL).x
 rw [isF_T ht q] at cr1
 have cr2 := fright26_ok (ci (vsT s)) (ci (asT s)) (xsT s p) (by rw [ci_length]; omega) (by rw [ci_length, asT_len]; omega) (by rw [xsT_length]; have := hs.2; omega) (xsT_okY fun k hk => Nat.le_trans (hp k hk) hL).x
 rw [isF_T hs p] at cr2
 have ctb := fun X => ftable_ok t X ht.1
 have hle := joT_le ht.1 hs.1
 have cov := fover_ok (joT t s) hle
 have ccl := fcells_ok (ci (asT (joT t s))) (by rw [ci_length, asT_len]; have := vsT_len (joT t s); omega) (fun j hj => by
  rw [ci_length, asT_len] at hj
  rw [cast_get, asT_get hj]
  have h1 := (vsT_get hj).2
  have h2 := hle ((vsT (joT t s)).getD j 0)
  omega)
 have ece : ceZ (ci (asT (joT t s))) = if szT (joT t s) ≤ 4096 then szT (joT t s) else 0 := by
  unfold ceZ
  rw [prZ_sz]
 have cpl := fun (i : Nat) (hi : i ≤ 4096) => fplace26_ok (joT t s) hle i hi
 have cat1 := fun (n : Nat) => fat26_g t q ht (deT (joT t s) n) (joT_in1 (deT_in _ n))
 have cat2 := fun (hm : ¬ misT t s) (n : Nat) => fat26_g s p hs (deT (joT t s) n) (joT_in2 hm (deT_in _ n))
 have hl1 : ∀ n, rL (q (enT t (deT (joT t s) n))) ≤ L := fun n => hq _ (enT_lt (joT_in1 (deT_in _ n)))
 have hl2 : ¬ misT t s → ∀ n, rL (p (enT s (deT (joT t s) n))) ≤ L := fun hm n => hp _ (enT_lt (joT_in2 hm (deT_in _ n)))
 have b1 : misT t s → boV t s (boQ opMul t s q p) = .tup [fV [] [] [], .i .i64 30] := fun h => if_pos h
 have b2 : ¬ misT t s → ¬ szT (joT t s) ≤ 4096 → boV t s (boQ opMul t s q p) = .tup [fV [] [] [], .i .i64 2] := fun h h2 => (if_neg h).trans (if_neg h2)
 have b3 : ¬ misT t s → szT (joT t s) ≤ 4096 → boV t s (boQ opMul t s q p) = .tup [.agg [.sl (zl (ci (vsT (joT t s)))), .sl (zl (ci (asT (joT t s)))), .sl ((ql (szT (joT t s)) (boQ opMul t s q p)).map rV)], .i .i64 0] := fun h h2 => (if_neg h).trans ((if_pos h2).trans (by unfold FV fV; rw [xsT_map]))
 have hS0 := szT_pos (joT t s)
 have hW : ∀ n, boQ opMul t s q p n = opMul (q (enT t (deT (joT t s) n))) (p (enT s (deT (joT t s) n))) := fun n => rfl
 have htbend : tb (joI t s (vsT s).length) = tb (joT t s) := tb_congr fun v hv => joI_end hv
 generalize boV t s (boQ opMul t s q p) = bv at *
 generalize boQ opMul t s q p = W at *
 unfold FV fV at *
 rw [xsT_map t q] at *
 rw [xsT_map s p] at *
 generalize zl (ci (vsT (joT t s))) = V3 at *
 generalize zl (ci (asT (joT t s))) = A3 at *
 generalize zl (ci (vsT t)) = V1 at *
 generalize zl (ci (asT t)) = A1 at *
 generalize (ql (szT t) q).map rV = X1 at *
 generalize zl (ci (vsT s)) = V2 at *
 generalize zl (ci (asT s)) = A2 at *
 generalize (ql (szT s) p).map rV = X2 at *
 have ctb := ctb X1
 have hlt' := tb_length (joT t s)
 have htk := tb_take (joT t s)
 refine PCall.of_ax Try.call54 Try.func54 rfl (by simp [Try.ntmps54]) fun O w0 => ?_
 simp only [Try.ntmps54, Try.results54, argFr]
 refine AX.sR (rgAV [2, 3, 4, 6]) ?_
 refine AX.seq ?_
 refine AX.sR (rgCV [2, 3, 4, 6, 22] (aI cr1 (aI cr2 oT))) ?_
 refine AX.condF ?_
 refine AX.keepA [2, 3, 4, 6] ?_
 refine AX.skip ?_
 refine nmZ ?_
 refine AX.sR (rgWV [2, 3, 4, 6, 8] (aI @ren_tb (aI @tb_length (aI @tb_flat (aI @tb_setR oT)))) (aI ctb oT)) ?_
 clear cr1 cr2 ctb
 refine AX.cutR (fun st => ¬ misT t s ∧ Le 0 id ⟨[(8, .ptr 3 0), (6, .ptr 2 0), (4, .ptr 1 0), (3, .ptr 0 0), (2, .b false)], [(3, ⟨97, tb (joT t s)⟩), (2, ⟨35, [.nl, .nl, .nl]⟩), (1, ⟨35, [.sl V2, .sl A2, .sl X2]⟩), (0, ⟨35, [.sl V1, .sl A1, .sl X1]⟩)], 4⟩ st) ?_ ?_
 ·refine AX.sR (rgWV [2, 3, 4, 6, 8, 27, 28, 29] (aI @hzv oT) oT) ?_
  refine AX.weaken id (st' := ⟨[(29, .i .i64 (0 : Nat)), (28, .i .i64 (vsT s).length), (27, .sl V2), (8, .ptr 3 0), (6, .ptr 2 0), (4, .ptr 1 0), (3, .ptr 0 0), (2, .b false)], [(3, ⟨97, tb t⟩), (2, ⟨35, [.nl, .nl, .nl]⟩), (1, ⟨35, [.sl V2, .sl A2, .sl X2]⟩), (0, ⟨35, [.sl V1, .sl A1, .sl X1]⟩)], 4⟩)
   leQ5
   ?_
  refine AX.block ?_
  refine AX.loop (fun N st => ∃ (j : Nat) (T : Nat → Nat), j ≤ (vsT s).length ∧ N = (vsT s).length - j ∧ T = joI t s j ∧ (∀ i, i < j → t ((vsT s).getD i 0) ≠ 0 → t ((vsT s).getD i 0) = s ((vsT s).getD i 0)) ∧ st = ⟨[(29, .i .i64 j), (28, .i .i64 (vsT s).length), (27, .sl V2), (8, .ptr 3 0), (6, .ptr 2 0), (4, .ptr 1 0), (3, .ptr 0 0), (2, .b false)], [(3, ⟨97, tb T⟩), (2, ⟨35, [.nl, .nl, .nl]⟩), (1, ⟨35, [.sl V2, .sl A2, .sl X2]⟩), (0, ⟨35, [.sl V1, .sl A1, .sl X1]⟩)], 4⟩) (vsT s).length ⟨0, t, Nat.zero_le _, rfl, joI_zero.symm, fun i hi => absurd hi (Nat.not_lt_zero _), rfl⟩ ?_
  rintro N st ⟨j, T, hj, rfl, hT, hgood, rfl⟩
  by_cases h1 : j < (vsT s).length
  ·have g1 := hgv j h1
   have g2 := hga j h1
   obtain ⟨b1', b2'⟩ := vsT_get h1
   have b3' := hs.1 ((vsT s).getD j 0)
   have b4' := ht.1 ((vsT s).getD j 0)
   have hTv : T ((vsT s).getD j 0) = t ((vsT s).getD j 0) := by rw [hT]; exact joI_at h1
   have g3 := tb_get T b1'
   rw [hTv] at g3
   have hlT := tb_length T
   have hset := tb_set T (s ((vsT s).getD j 0)) b1'
   have hput := joI_put (t := t) h1
   rw [← hT] at hput
   have hnext : (t ((vsT s).getD j 0) ≠ 0 → t ((vsT s).getD j 0) = s ((vsT s).getD j 0)) → ∀ i, i < j + 1 → t ((vsT s).getD i 0) ≠ 0 → t ((vsT s).getD i 0) = s ((vsT s).getD i 0) := fun h i hi => by
    by_cases e : i = j
    ·rw [e]; exact h
    ·exact hgood i (by omega)
   clear hgv hga hgood cat1 cat2 cpl cov ccl b2 b3 hT hTv
   refine AX.sR (rgAV [2, 3, 4, 6, 8, 27, 28, 29, 30]) ?_
   refine AX.seq ?_
   refine AX.condT ?_
   refine AX.keepA [2, 3, 4, 6, 8, 27, 28, 29] ?_
   refine AX.skip ?_
   refine nmZ ?_
   refine AX.seq ?_
   refine AX.block ?_
   refine AX.sR (rgWV [2, 3, 4, 6, 8, 9, 10, 27, 28, 29] (aI @hzv (aI @g1 oT)) oT) ?_
   refine AX.seq ?_
   by_cases h0 : t ((vsT s).getD j 0) = 0
   ·have hnx := hnext (fun h => absurd h0 h)
    have hput := hput (fun h => absurd h0 h)
    rw [h0] at g3
    have g3 : (tb T).getD ((vsT s).getD j 0) .junk = .i .i64 0 := g3
    clear hnext h0 b4'
    generalize s ((vsT s).getD j 0) = x at *
    generalize (vsT s).getD j 0 = v at g1 g3 hset hput b1'
    refine AX.sD (rgDWV [2, 3, 4, 6, 8, 9, 10, 27, 28, 29, 48] (aI @hlT (aI @g3 oT)) oT) ?_
    refine AX.condF ?_
    refine AX.keepA [2, 3, 4, 6, 8, 9, 10, 27, 28, 29] ?_
    refine AX.skip ?_
    refine nmZ ?_
    refine AX.rR (rgWV [2, 3, 4, 6, 8, 27, 28, 29] (aI @hza (aI @g2 (aI @hlT oT))) oT) ?_
    refine nmZ ?_
    rw [hset, hput]
    refine AX.rR (rgWV [2, 3, 4, 6, 8, 27, 28, 29] (aI @lit_add oT) oT) ?_
    refine nmZ ?_
    refine ⟨_, _, id, ?_,
     leQ5
     , ⟨j + 1, _, by omega, rfl, rfl, hnx, rfl⟩⟩
    omega
   ·by_cases h3 : t ((vsT s).getD j 0) = s ((vsT s).getD j 0)
    ·have hnx := hnext (fun _ => h3)
     have hput := hput (fun _ => h3)
     rw [← h3] at g2 hset hput
     have h0' : ¬ ((t ((vsT s).getD j 0) : Nat) : Int) = 0 := by omega
     clear hnext h3 h0
     generalize t ((vsT s).getD j 0) = x at *
     generalize (vsT s).getD j 0 = v at g1 g3 hset hput b1'
     refine AX.sD (rgDWV [2, 3, 4, 6, 8, 9, 10, 27, 28, 29, 48] (aI @hlT (aI @g3 (aI @hza (aI @g2 (aI @h0' oT))))) oT) ?_
     refine AX.condF ?_
     refine AX.keepA [2, 3, 4, 6, 8, 9, 10, 27, 28, 29] ?_
     refine AX.skip ?_
     refine nmZ ?_
     refine AX.rR (rgWV [2, 3, 4, 6, 8, 27, 28, 29] (aI @hza (aI @g2 (aI @hlT oT))) oT) ?_
     refine nmZ ?_
     rw [hset, hput]
     refine AX.rR (rgWV [2, 3, 4, 6, 8, 27, 28, 29] (aI @lit_add oT) oT) ?_
     refine nmZ ?_
     refine ⟨_, _, id, ?_,
      leQ5
      , ⟨j + 1, _, by omega, rfl, rfl, hnx, rfl⟩⟩
     omega
    ·obtain rfl := b1 ⟨j, h1, h0, h3⟩
     have h0' : ¬ ((t ((vsT s).getD j 0) : Nat) : Int) = 0 := by omega
     have h3' : ¬ ((t ((vsT s).getD j 0) : Nat) : Int) = ((s ((vsT s).getD j 0) : Nat) : Int) := by omega
     clear hnext h3 h0 hput hset
     generalize s ((vsT s).getD j 0) = y at *
     generalize t ((vsT s).getD j 0) = x at *
     generalize (vsT s).getD j 0 = v at g1 g3 b1'
     refine AX.sD (rgDWV [2, 3, 4, 6, 8, 9, 10, 27, 28, 29, 48] (aI @hlT (aI @g3 (aI @hza (aI @g2 (aI @h0' (aI @h3' oT)))))) oT) ?_
     refine AX.condT ?_
     refine AX.sR (rgAV [6, 7]) ?_
     refine AX.ret ⟨.inl rfl, ?_⟩
     exact Lift.Done.facE fa_lay_fac26 rfl rfl rfl
  ·obtain rfl : j = (vsT s).length := by omega
   rw [hT, htbend]
   refine AX.sR (rgAV [2, 3, 4, 6, 8, 27, 28, 29, 30]) ?_
   refine AX.seq ?_
   refine AX.condF ?_
   refine AX.exit ?_
   refine nmZ ?_
   exact ⟨fun ⟨i, hi, m1, m2⟩ => m2 (hgood i hi m1),
    leQ5
    ⟩
 ·rintro st ⟨hno, hle⟩
  refine AX.weaken id hle ?_
  have b2 := b2 hno
  have b3 := b3 hno
  have cat2 := cat2 hno
  have hl2 := hl2 hno
  rw [ece] at ccl
  clear hle b1 hgv hga ece
  generalize szT (joT t s) = S at *
  refine AX.sR (rgWV [2, 3, 4, 6, 11] (aI @hlt' (aI @htk oT)) (aI cov oT)) ?_
  refine AX.seq ?_
  by_cases hlim : S ≤ 4096
  ·have b3 := b3 hlim
   subst b3
   rw [if_pos hlim] at ccl
   clear b2
   have hS1 : ¬ (S : Int) = 0 := by omega
   refine AX.sR (rgWV [2, 3, 4, 6, 11, 63] (aI @hS1 oT) (aI ccl oT)) ?_
   refine AX.condF ?_
   refine AX.keepA [2, 3, 4, 6, 11] ?_
   refine AX.skip ?_
   refine nmZ ?_
   refine AX.seq ?_
   refine AX.sR (rgAV [2, 3, 4, 6, 11, 12]) ?_
   refine AX.weaken id (st' := ⟨[(12, .i .i64 (0 : Nat)), (11, .ptr 5 0), (6, .ptr 2 0), (4, .ptr 1 0), (3, .ptr 0 0), (2, .b false)], [(5, ⟨35, [.sl V3, .sl A3, .own 4 0 (0 : Nat) 3]⟩), (4, ⟨29, qrow (ql 0 W)⟩), (2, ⟨35, [.nl, .nl, .nl]⟩), (1, ⟨35, [.sl V2, .sl A2, .sl X2]⟩), (0, ⟨35, [.sl V1, .sl A1, .sl X1]⟩)], 6⟩)
    ⟨by simp only [ren_q, renL_u, ren_zl, ren_tb, ren_frw, ren_cnq, lt_q, ltL_u, lt_zl, lt_tb, lt_frw, lt_cnq, LeFr, LeHp, lkp, V.ren, V.renL, Row.ren, V.lt, V.ltL, renL_u, ltL_u, List.length_append, List.length_cons, List.length_nil, List.length_set, id_eq, Option.some.injEq, V.i.injEq, V.b.injEq, V.own.injEq, Row.mk.injEq, decide_true, decide_eq_true_eq, true_and, and_true, Bool.and_true, Bool.true_and, if_true, if_false, and_self, Nat.reduceLT, Nat.reduceLeDiff, Nat.reduceEqDiff, Nat.reduceAdd, Nat.reduceSub, Nat.reduceMul, Nat.reducePow, Nat.reduceBEq, Int.reduceLE, Int.reduceLT, Int.reduceToNat, Int.reduceEq, Int.reduceNeg, reduceIte, reduceCtorEq] <;> (first | done | trivial | (and_intros <;> first | trivial | omega | (rfl))), by simp only [ren_q, renL_u, ren_zl, ren_tb, ren_frw, ren_cnq, lt_q, ltL_u, lt_zl, lt_tb, lt_frw, lt_cnq, LeFr, LeHp, lkp, V.ren, V.renL, Row.ren, V.lt, V.ltL, renL_u, ltL_u, List.length_append, List.length_cons, List.length_nil, List.length_set, id_eq, Option.some.injEq, V.i.injEq, V.b.injEq, V.own.injEq, Row.mk.injEq, decide_true, decide_eq_true_eq, true_and, and_true, Bool.and_true, Bool.true_and, if_true, if_false, and_self, Nat.reduceLT, Nat.reduceLeDiff, Nat.reduceEqDiff, Nat.reduceAdd, Nat.reduceSub, Nat.reduceMul, Nat.reducePow, Nat.reduceBEq, Int.reduceLE, Int.reduceLT, Int.reduceToNat, Int.reduceEq, Int.reduceNeg, reduceIte, reduceCtorEq] <;> (first | done | trivial | (and_intros <;> first | trivial | omega | (rfl))), by simp [Apart], by first | exact Nat.zero_le _ | simp, by intro n hn; first | rfl | exact absurd hn (Nat.not_lt_zero _) | (have h0 : n = 0 := Nat.lt_one_iff.1 hn; subst h0; rfl)⟩
    ?_
   refine AX.block ?_
   refine AX.loop (fun N st => ∃ (i : Nat) (xs : List Rat), i ≤ S ∧ N = S - i ∧ xs = ql i W ∧ st = ⟨[(12, .i .i64 i), (11, .ptr 5 0), (6, .ptr 2 0), (4, .ptr 1 0), (3, .ptr 0 0), (2, .b false)], [(5, ⟨35, [.sl V3, .sl A3, .own 4 0 i 3]⟩), (4, ⟨29, qrow xs⟩), (2, ⟨35, [.nl, .nl, .nl]⟩), (1, ⟨35, [.sl V2, .sl A2, .sl X2]⟩), (0, ⟨35, [.sl V1, .sl A1, .sl X1]⟩)], 6⟩) S ⟨0, _, Nat.zero_le _, rfl, rfl, rfl⟩ ?_
   rintro N st ⟨i, xs, hi, rfl, hxs, rfl⟩
   refine AX.seq ?_
   by_cases h1 : i < S
   ·have cpi := cpl i (by omega)
    have c1 := cat1 i
    have c2 := cat2 i
    have l1 := hl1 i
    have l2 := hl2 i
    have hWi := hW i
    have hlq : (qrow xs).length = i * 3 := by rw [qrow_length, hxs, ql_length]
    have ea : qrow xs ++ [.b (decide ((W i).num < 0)), dg (digits (W i).num.natAbs), dg (digits (W i).den)] = qrow (ql (i + 1) W) := by rw [ql_succ, qrow_app, qrow_one, hxs]
    generalize deT (joT t s) i = D at *
    have cm := pmul_ok (IsQ.of l1) (IsQ.of l2) hL1 (by omega)
    have ca := padd_ok (IsQ.of l1) (IsQ.of l2) hL1 (by omega)
    clear cat1 cat2 hl1 hl2 hW cpl cov
    generalize W i = wi at *
    unfold opMul at hWi
    rw [← hWi] at cm
    unfold rV rR at cm ca
    clear hWi
    generalize q (enT t D) = x at *
    generalize p (enT s D) = y at *
    refine AX.sR (rgCV [2, 3, 4, 6, 11, 12, 69] (aI ccl oT)) ?_
    refine AX.condT ?_
    refine AX.keepA [2, 3, 4, 6, 11, 12] ?_
    refine AX.skip ?_
    refine nmZ ?_
    refine AX.seq ?_
    refine AX.block ?_
    apply AX.sreg [2, 3, 4, 6, 11, 12, 13] (by simp only [pq]; rfl)
    ·repeat (first
    |(apply RunO.op rfl; · rfl
      ·(simp only [opsOf, valsOf, valOf, lkp, ofConst, ofCell, Array.toList, Option.toList, List.map_cons, List.map_nil, List.cons_append, List.nil_append, List.append_nil, Nat.reduceEqDiff, Nat.reducePow, Nat.reduceLT, Nat.reduceLeDiff, reduceIte, if_true, if_false, IntKind.min, IntKind.max, IntKind.bits, IntKind.signed, Int.reduceLE, Int.reduceNeg, Int.reducePow, Int.reduceSub, and_self, Bool.false_eq_true, Nat.reduceSub]; rfl)
      iterate 2 (· (simp (disch := omega) only [go_sem, i64_of, u32_of, u64_of, Nat.reduceLT, Nat.reduceLeDiff, Nat.reduceEqDiff, Nat.reduceAdd, Nat.reduceSub, Nat.reduceMul, Nat.reducePow, Nat.reduceBEq, Int.reduceLE, Int.reduceLT, Int.reduceToNat, Int.reduceEq, Int.reduceNeg, reduceIte, reduceCtorEq, ren_tb]; rfl))
      ·(simp only [pb, Nat.reduceLT, Nat.reduceAdd, reduceIte]; rfl))
    |(apply RunO.callJ 72 (.agg [.sl V3, .sl A3, .junk]) jk3 rfl rfl; · rfl
      ·(simp only [opsOf, valsOf, valOf, lkp, ofConst, ofCell, Array.toList, Option.toList, List.map_cons, List.map_nil, List.cons_append, List.nil_append, List.append_nil, Nat.reduceEqDiff, Nat.reducePow, Nat.reduceLT, Nat.reduceLeDiff, reduceIte, if_true, if_false, IntKind.min, IntKind.max, IntKind.bits, IntKind.signed, Int.reduceLE, Int.reduceNeg, Int.reducePow, Int.reduceSub, and_self, Bool.false_eq_true, Nat.reduceSub]; rfl)
      ·(simp (disch := omega) only [go_sem, i64_of, u32_of, u64_of, Nat.reduceLT, Nat.reduceLeDiff, Nat.reduceEqDiff, Nat.reduceAdd, Nat.reduceSub, Nat.reduceMul, Nat.reducePow, Nat.reduceBEq, Int.reduceLE, Int.reduceLT, Int.reduceToNat, Int.reduceEq, Int.reduceNeg, reduceIte, reduceCtorEq, ren_tb]; rfl)
      ·rfl
      ·exact cpi
      ·(simp (disch := omega) only [go_sem, i64_of, u32_of, u64_of, Nat.reduceLT, Nat.reduceLeDiff, Nat.reduceEqDiff, Nat.reduceAdd, Nat.reduceSub, Nat.reduceMul, Nat.reducePow, Nat.reduceBEq, Int.reduceLE, Int.reduceLT, Int.reduceToNat, Int.reduceEq, Int.reduceNeg, reduceIte, reduceCtorEq, ren_tb]; rfl)
      ·(simp only [pb, Nat.reduceLT, Nat.reduceAdd, reduceIte]; rfl))
    |(apply RunO.skip; · rfl
      ·(simp only [pb, Nat.reduceLT, Nat.reduceAdd, reduceIte]; rfl)))
     exact RunO.nil
    ·repeat (first | exact Keep.nil | (apply Keep.take; · rfl) | (apply Keep.drop; · rfl))
    apply AX.sdreg [2, 3, 4, 6, 11, 12, 13, 14] (by kernel_rfl) (by simp only [pq]; rfl)
    ·repeat (first
    |(apply RunD.op rfl; · rfl
      ·(simp only [opsOf, valsOf, valOf, lkp, ofConst, ofCell, Array.toList, Option.toList, List.map_cons, List.map_nil, List.cons_append, List.nil_append, List.append_nil, Nat.reduceEqDiff, Nat.reducePow, Nat.reduceLT, Nat.reduceLeDiff, reduceIte, if_true, if_false, IntKind.min, IntKind.max, IntKind.bits, IntKind.signed, Int.reduceLE, Int.reduceNeg, Int.reducePow, Int.reduceSub, and_self, Bool.false_eq_true, Nat.reduceSub]; rfl)
      iterate 2 (· (simp (disch := omega) only [go_sem, i64_of, u32_of, u64_of, Nat.reduceLT, Nat.reduceLeDiff, Nat.reduceEqDiff, Nat.reduceAdd, Nat.reduceSub, Nat.reduceMul, Nat.reducePow, Nat.reduceBEq, Int.reduceLE, Int.reduceLT, Int.reduceToNat, Int.reduceEq, Int.reduceNeg, reduceIte, reduceCtorEq]; rfl))
      ·(simp only [pb, Nat.reduceLT, Nat.reduceAdd, reduceIte]; rfl)
      ·rfl)
    |(apply RunD.call rfl; · rfl
      ·(simp only [opsOf, valsOf, valOf, lkp, ofConst, ofCell, Array.toList, Option.toList, List.map_cons, List.map_nil, List.cons_append, List.nil_append, List.append_nil, Nat.reduceEqDiff, Nat.reducePow, Nat.reduceLT, Nat.reduceLeDiff, reduceIte, if_true, if_false, IntKind.min, IntKind.max, IntKind.bits, IntKind.signed, Int.reduceLE, Int.reduceNeg, Int.reducePow, Int.reduceSub, and_self, Bool.false_eq_true, Nat.reduceSub]; rfl)
      ·first | rfl | (simp only [List.cons_append, List.nil_append, V.hfL, V.hf, Bool.true_and]; assumption)
      ·(first | (simp only [cnlL, cnl, List.append_nil, List.cons_append, List.nil_append]; first | exact cm) | (first | exact cm))
      ·rfl
      ·(simp only [pb, Nat.reduceLT, Nat.reduceAdd, reduceIte]; rfl)
      ·rfl)
    |(apply RunD.gcall [6] rfl; · rfl
      ·(simp only [opsOf, valsOf, valOf, lkp, ofConst, ofCell, Array.toList, Option.toList, List.map_cons, List.map_nil, List.cons_append, List.nil_append, List.append_nil, Nat.reduceEqDiff, Nat.reducePow, Nat.reduceLT, Nat.reduceLeDiff, reduceIte, if_true, if_false, IntKind.min, IntKind.max, IntKind.bits, IntKind.signed, Int.reduceLE, Int.reduceNeg, Int.reducePow, Int.reduceSub, and_self, Bool.false_eq_true, Nat.reduceSub]; rfl)
      ·exact c1
      ·first | rfl | (simp only [Row.ren, V.ren, V.renL, renS, ren_q, renL_u, ren_zl, ren_tb, ren_frw, ren_cnq]; rfl)
      ·first | rfl | (simp only [V.lt, V.ltL, ltS, lt_q, ltL_u, lt_zl, lt_tb, lt_frw, lt_cnq]; rfl)
      ·decide
      ·repeat' (first | exact trivial | rfl | (simp only [Row.ren, V.ren, V.renL, renS, ren_q, renL_u, ren_zl, ren_tb, ren_frw, ren_cnq]; done) | (simp only [Row.ren, V.ren, V.renL, renS, ren_q, renL_u, ren_zl, ren_tb, ren_frw, ren_cnq]; rfl) | (simp only [V.lt, V.ltL, ltS, lt_q, ltL_u, lt_zl, lt_tb, lt_frw, lt_cnq]; done) | apply And.intro)
      ·first | rfl | (simp only [Row.ren, V.ren, V.renL, renS, ren_q, renL_u, ren_zl, ren_tb, ren_frw, ren_cnq]; rfl)
      ·(simp only [setRows, setL, Row.ren, V.ren, V.renL, renS, ren_q, renL_u, ren_zl, ren_tb, ren_frw, ren_cnq, pb, Nat.reduceLT, Nat.reduceAdd, Nat.reduceEqDiff, reduceIte]; rfl)
      ·rfl)
    |(apply RunD.gcall [6] rfl; · rfl
      ·(simp only [opsOf, valsOf, valOf, lkp, ofConst, ofCell, Array.toList, Option.toList, List.map_cons, List.map_nil, List.cons_append, List.nil_append, List.append_nil, Nat.reduceEqDiff, Nat.reducePow, Nat.reduceLT, Nat.reduceLeDiff, reduceIte, if_true, if_false, IntKind.min, IntKind.max, IntKind.bits, IntKind.signed, Int.reduceLE, Int.reduceNeg, Int.reducePow, Int.reduceSub, and_self, Bool.false_eq_true, Nat.reduceSub]; rfl)
      ·exact c2
      ·first | rfl | (simp only [Row.ren, V.ren, V.renL, renS, ren_q, renL_u, ren_zl, ren_tb, ren_frw, ren_cnq]; rfl)
      ·first | rfl | (simp only [V.lt, V.ltL, ltS, lt_q, ltL_u, lt_zl, lt_tb, lt_frw, lt_cnq]; rfl)
      ·decide
      ·repeat' (first | exact trivial | rfl | (simp only [Row.ren, V.ren, V.renL, renS, ren_q, renL_u, ren_zl, ren_tb, ren_frw, ren_cnq]; done) | (simp only [Row.ren, V.ren, V.renL, renS, ren_q, renL_u, ren_zl, ren_tb, ren_frw, ren_cnq]; rfl) | (simp only [V.lt, V.ltL, ltS, lt_q, ltL_u, lt_zl, lt_tb, lt_frw, lt_cnq]; done) | apply And.intro)
      ·first | rfl | (simp only [Row.ren, V.ren, V.renL, renS, ren_q, renL_u, ren_zl, ren_tb, ren_frw, ren_cnq]; rfl)
      ·(simp only [setRows, setL, Row.ren, V.ren, V.renL, renS, ren_q, renL_u, ren_zl, ren_tb, ren_frw, ren_cnq, pb, Nat.reduceLT, Nat.reduceAdd, Nat.reduceEqDiff, reduceIte]; rfl)
      ·rfl)
    |(apply RunD.skip; · rfl
      ·(simp only [pb, Nat.reduceLT, Nat.reduceAdd, reduceIte]; rfl)
      ·rfl))
     exact RunD.nil
    ·repeat (first | exact Keep.nil | (apply Keep.take; · rfl) | (apply Keep.drop; · rfl))
    ·kernel_rfl
    refine AX.seq ?_
    refine AX.sR (rgAV [2, 3, 4, 6, 11, 12, 13, 14, 82]) ?_
    refine AX.condF ?_
    refine AX.keepA [2, 3, 4, 6, 11, 12, 14] ?_
    refine AX.skip ?_
    refine nmZ ?_
    refine AX.rR (rgWV [2, 3, 4, 6, 11, 12] (aI @hlq (aI @flat_q (aI @zerosV_1 (aI @tkS (aI @tk0 oT))))) oT) ?_
    refine nmZ ?_
    rw [ea]
    refine AX.rR (rgWV [2, 3, 4, 6, 11, 12] (aI @lit_add oT) oT) ?_
    refine nmZ ?_
    refine ⟨_, _, fun n => if n = 4 then 9 else n, ?_,
     leQ5
     , ⟨i + 1, _, by omega, rfl, rfl, rfl⟩⟩
    omega
   ·obtain rfl : i = S := by omega
    subst hxs
    refine AX.sR (rgCV [2, 3, 4, 6, 11, 12, 69] (aI ccl oT)) ?_
    refine AX.condF ?_
    refine AX.exit ?_
    refine nmZ ?_
    refine AX.sR (rgAV [6, 7]) ?_
    refine AX.ret ⟨.inl rfl, ?_⟩
    exact Done.facS fa_lay_fac26 rfl rfl rfl rfl (ql_length _ _).symm
  ·have b2 := b2 hlim
   subst b2
   rw [if_neg hlim] at ccl
   clear b3 cat1 cat2 cpl cov
   refine AX.sR (rgCV [2, 3, 4, 6, 11, 63] (aI ccl oT)) ?_
   refine AX.condT ?_
   refine AX.sR (rgAV [6, 7]) ?_
   refine AX.ret ⟨.inl rfl, ?_⟩
   exact Lift.Done.facE fa_lay_fac26 rfl rfl rfl
set_option maxHeartbeats 32000000 in
theorem rjoinedAdd_ok (t s : Nat → Nat) (q p : Nat → Rat) (ht : okT t) (hs : okT s) (L : Nat) (hL1 : 1 ≤ L) (hL : L ≤ 2 ^ 30) (hq : ∀ k, k < szT t → rL (q k) ≤ L) (hp : ∀ k, k < szT s → rL (p k) ≤ L) : PCall Try.prog 54 [FV t q, FV s p, .b true] (boV t s (boQ opAdd t s q p)) [] := by
 have hmt := vsT_len t
 have hms := vsT_len s
 have hzv : (zl (ci (vsT s))).length = (vsT s).length := zn_length _
 have hza : (zl (ci (asT s))).length = (vsT s).length := (zn_length _).trans (asT_len s)
 have hgv := fun j (hj : j < (vsT s).length) => show (zl (ci (vsT s))).getD j .junk = .i .i64 (((vsT s).getD j 0 : Nat) : Int) from zn_get hj
 have hga := fun j (hj : j < (vsT s).length) => show (zl (ci (asT s))).getD j .junk = .i .i64 ((s ((vsT s).getD j 0) : Nat) : Int) from (zn_get (by rw [asT_len]; exact hj)).trans (by rw [asT_get hj])
 have cr1 := fright26_ok (ci (vsT t)) (ci (asT t)) (xsT t q) (by rw [ci_length]; omega) (by rw [ci_length, asT_len]; omega) (by rw [xsT_length]; have := ht.2; omega) (xsT_okY fun k hk => Nat.le_trans (hq k hk) hL).x
 rw [isF_T ht q] at cr1
 have cr2 := fright26_ok (ci (vsT s)) (ci (asT s)) (xsT s p) (by rw [ci_length]; omega) (by rw [ci_length, asT_len]; omega) (by rw [xsT_length]; have := hs.2; omega) (xsT_okY fun k hk => Nat.le_trans (hp k hk) hL).x
 rw [isF_T hs p] at cr2
 have ctb := fun X => ftable_ok t X ht.1
 have hle := joT_le ht.1 hs.1
 have cov := fover_ok (joT t s) hle
 have ccl := fcells_ok (ci (asT (joT t s))) (by rw [ci_length, asT_len]; have := vsT_len (joT t s); omega) (fun j hj => by
  rw [ci_length, asT_len] at hj
  rw [cast_get, asT_get hj]
  have h1 := (vsT_get hj).2
  have h2 := hle ((vsT (joT t s)).getD j 0)
  omega)
 have ece : ceZ (ci (asT (joT t s))) = if szT (joT t s) ≤ 4096 then szT (joT t s) else 0 := by
  unfold ceZ
  rw [prZ_sz]
 have cpl := fun (i : Nat) (hi : i ≤ 4096) => fplace26_ok (joT t s) hle i hi
 have cat1 := fun (n : Nat) => fat26_g t q ht (deT (joT t s) n) (joT_in1 (deT_in _ n))
 have cat2 := fun (hm : ¬ misT t s) (n : Nat) => fat26_g s p hs (deT (joT t s) n) (joT_in2 hm (deT_in _ n))
 have hl1 : ∀ n, rL (q (enT t (deT (joT t s) n))) ≤ L := fun n => hq _ (enT_lt (joT_in1 (deT_in _ n)))
 have hl2 : ¬ misT t s → ∀ n, rL (p (enT s (deT (joT t s) n))) ≤ L := fun hm n => hp _ (enT_lt (joT_in2 hm (deT_in _ n)))
 have b1 : misT t s → boV t s (boQ opAdd t s q p) = .tup [fV [] [] [], .i .i64 30] := fun h => if_pos h
 have b2 : ¬ misT t s → ¬ szT (joT t s) ≤ 4096 → boV t s (boQ opAdd t s q p) = .tup [fV [] [] [], .i .i64 2] := fun h h2 => (if_neg h).trans (if_neg h2)
 have b3 : ¬ misT t s → szT (joT t s) ≤ 4096 → boV t s (boQ opAdd t s q p) = .tup [.agg [.sl (zl (ci (vsT (joT t s)))), .sl (zl (ci (asT (joT t s)))), .sl ((ql (szT (joT t s)) (boQ opAdd t s q p)).map rV)], .i .i64 0] := fun h h2 => (if_neg h).trans ((if_pos h2).trans (by unfold FV fV; rw [xsT_map]))
 have hS0 := szT_pos (joT t s)
 have hW : ∀ n, boQ opAdd t s q p n = opAdd (q (enT t (deT (joT t s) n))) (p (enT s (deT (joT t s) n))) := fun n => rfl
 have htbend : tb (joI t s (vsT s).length) = tb (joT t s) := tb_congr fun v hv => joI_end hv
 generalize boV t s (boQ opAdd t s q p) = bv at *
 generalize boQ opAdd t s q p = W at *
 unfold FV fV at *
 rw [xsT_map t q] at *
 rw [xsT_map s p] at *
 generalize zl (ci (vsT (joT t s))) = V3 at *
 generalize zl (ci (asT (joT t s))) = A3 at *
 generalize zl (ci (vsT t)) = V1 at *
 generalize zl (ci (asT t)) = A1 at *
 generalize (ql (szT t) q).map rV = X1 at *
 generalize zl (ci (vsT s)) = V2 at *
 generalize zl (ci (asT s)) = A2 at *
 generalize (ql (szT s) p).map rV = X2 at *
 have ctb := ctb X1
 have hlt' := tb_length (joT t s)
 have htk := tb_take (joT t s)
 refine PCall.of_ax Try.call54 Try.func54 rfl (by simp [Try.ntmps54]) fun O w0 => ?_
 simp only [Try.ntmps54, Try.results54, argFr]
 refine AX.sR (rgAV [2, 3, 4, 6]) ?_
 refine AX.seq ?_
 refine AX.sR (rgCV [2, 3, 4, 6, 22] (aI cr1 (aI cr2 oT))) ?_
 refine AX.condF ?_
 refine AX.keepA [2, 3, 4, 6] ?_
 refine AX.skip ?_
 refine nmZ ?_
 refine AX.sR (rgWV [2, 3, 4, 6, 8] (aI @ren_tb (aI @tb_length (aI @tb_flat (aI @tb_setR oT)))) (aI ctb oT)) ?_
 clear cr1 cr2 ctb
 refine AX.cutR (fun st => ¬ misT t s ∧ Le 0 id ⟨[(8, .ptr 3 0), (6, .ptr 2 0), (4, .ptr 1 0), (3, .ptr 0 0), (2, .b true)], [(3, ⟨97, tb (joT t s)⟩), (2, ⟨35, [.nl, .nl, .nl]⟩), (1, ⟨35, [.sl V2, .sl A2, .sl X2]⟩), (0, ⟨35, [.sl V1, .sl A1, .sl X1]⟩)], 4⟩ st) ?_ ?_
 ·refine AX.sR (rgWV [2, 3, 4, 6, 8, 27, 28, 29] (aI @hzv oT) oT) ?_
  refine AX.weaken id (st' := ⟨[(29, .i .i64 (0 : Nat)), (28, .i .i64 (vsT s).length), (27, .sl V2), (8, .ptr 3 0), (6, .ptr 2 0), (4, .ptr 1 0), (3, .ptr 0 0), (2, .b true)], [(3, ⟨97, tb t⟩), (2, ⟨35, [.nl, .nl, .nl]⟩), (1, ⟨35, [.sl V2, .sl A2, .sl X2]⟩), (0, ⟨35, [.sl V1, .sl A1, .sl X1]⟩)], 4⟩)
   leQ5
   ?_
  refine AX.block ?_
  refine AX.loop (fun N st => ∃ (j : Nat) (T : Nat → Nat), j ≤ (vsT s).length ∧ N = (vsT s).length - j ∧ T = joI t s j ∧ (∀ i, i < j → t ((vsT s).getD i 0) ≠ 0 → t ((vsT s).getD i 0) = s ((vsT s).getD i 0)) ∧ st = ⟨[(29, .i .i64 j), (28, .i .i64 (vsT s).length), (27, .sl V2), (8, .ptr 3 0), (6, .ptr 2 0), (4, .ptr 1 0), (3, .ptr 0 0), (2, .b true)], [(3, ⟨97, tb T⟩), (2, ⟨35, [.nl, .nl, .nl]⟩), (1, ⟨35, [.sl V2, .sl A2, .sl X2]⟩), (0, ⟨35, [.sl V1, .sl A1, .sl X1]⟩)], 4⟩) (vsT s).length ⟨0, t, Nat.zero_le _, rfl, joI_zero.symm, fun i hi => absurd hi (Nat.not_lt_zero _), rfl⟩ ?_
  rintro N st ⟨j, T, hj, rfl, hT, hgood, rfl⟩
  by_cases h1 : j < (vsT s).length
  ·have g1 := hgv j h1
   have g2 := hga j h1
   obtain ⟨b1', b2'⟩ := vsT_get h1
   have b3' := hs.1 ((vsT s).getD j 0)
   have b4' := ht.1 ((vsT s).getD j 0)
   have hTv : T ((vsT s).getD j 0) = t ((vsT s).getD j 0) := by rw [hT]; exact joI_at h1
   have g3 := tb_get T b1'
   rw [hTv] at g3
   have hlT := tb_length T
   have hset := tb_set T (s ((vsT s).getD j 0)) b1'
   have hput := joI_put (t := t) h1
   rw [← hT] at hput
   have hnext : (t ((vsT s).getD j 0) ≠ 0 → t ((vsT s).getD j 0) = s ((vsT s).getD j 0)) → ∀ i, i < j + 1 → t ((vsT s).getD i 0) ≠ 0 → t ((vsT s).getD i 0) = s ((vsT s).getD i 0) := fun h i hi => by
    by_cases e : i = j
    ·rw [e]; exact h
    ·exact hgood i (by omega)
   clear hgv hga hgood cat1 cat2 cpl cov ccl b2 b3 hT hTv
   refine AX.sR (rgAV [2, 3, 4, 6, 8, 27, 28, 29, 30]) ?_
   refine AX.seq ?_
   refine AX.condT ?_
   refine AX.keepA [2, 3, 4, 6, 8, 27, 28, 29] ?_
   refine AX.skip ?_
   refine nmZ ?_
   refine AX.seq ?_
   refine AX.block ?_
   refine AX.sR (rgWV [2, 3, 4, 6, 8, 9, 10, 27, 28, 29] (aI @hzv (aI @g1 oT)) oT) ?_
   refine AX.seq ?_
   by_cases h0 : t ((vsT s).getD j 0) = 0
   ·have hnx := hnext (fun h => absurd h0 h)
    have hput := hput (fun h => absurd h0 h)
    rw [h0] at g3
    have g3 : (tb T).getD ((vsT s).getD j 0) .junk = .i .i64 0 := g3
    clear hnext h0 b4'
    generalize s ((vsT s).getD j 0) = x at *
    generalize (vsT s).getD j 0 = v at g1 g3 hset hput b1'
    refine AX.sD (rgDWV [2, 3, 4, 6, 8, 9, 10, 27, 28, 29, 48] (aI @hlT (aI @g3 oT)) oT) ?_
    refine AX.condF ?_
    refine AX.keepA [2, 3, 4, 6, 8, 9, 10, 27, 28, 29] ?_
    refine AX.skip ?_
    refine nmZ ?_
    refine AX.rR (rgWV [2, 3, 4, 6, 8, 27, 28, 29] (aI @hza (aI @g2 (aI @hlT oT))) oT) ?_
    refine nmZ ?_
    rw [hset, hput]
    refine AX.rR (rgWV [2, 3, 4, 6, 8, 27, 28, 29] (aI @lit_add oT) oT) ?_
    refine nmZ ?_
    refine ⟨_, _, id, ?_,
     leQ5
     , ⟨j + 1, _, by omega, rfl, rfl, hnx, rfl⟩⟩
    omega
   ·by_cases h3 : t ((vsT s).getD j 0) = s ((vsT s).getD j 0)
    ·have hnx := hnext (fun _ => h3)
     have hput := hput (fun _ => h3)
     rw [← h3] at g2 hset hput
     have h0' : ¬ ((t ((vsT s).getD j 0) : Nat) : Int) = 0 := by omega
     clear hnext h3 h0
     generalize t ((vsT s).getD j 0) = x at *
     generalize (vsT s).getD j 0 = v at g1 g3 hset hput b1'
     refine AX.sD (rgDWV [2, 3, 4, 6, 8, 9, 10, 27, 28, 29, 48] (aI @hlT (aI @g3 (aI @hza (aI @g2 (aI @h0' oT))))) oT) ?_
     refine AX.condF ?_
     refine AX.keepA [2, 3, 4, 6, 8, 9, 10, 27, 28, 29] ?_
     refine AX.skip ?_
     refine nmZ ?_
     refine AX.rR (rgWV [2, 3, 4, 6, 8, 27, 28, 29] (aI @hza (aI @g2 (aI @hlT oT))) oT) ?_
     refine nmZ ?_
     rw [hset, hput]
     refine AX.rR (rgWV [2, 3, 4, 6, 8, 27, 28, 29] (aI @lit_add oT) oT) ?_
     refine nmZ ?_
     refine ⟨_, _, id, ?_,
      leQ5
      , ⟨j + 1, _, by omega, rfl, rfl, hnx, rfl⟩⟩
     omega
    ·obtain rfl := b1 ⟨j, h1, h0, h3⟩
     have h0' : ¬ ((t ((vsT s).getD j 0) : Nat) : Int) = 0 := by omega
     have h3' : ¬ ((t ((vsT s).getD j 0) : Nat) : Int) = ((s ((vsT s).getD j 0) : Nat) : Int) := by omega
     clear hnext h3 h0 hput hset
     generalize s ((vsT s).getD j 0) = y at *
     generalize t ((vsT s).getD j 0) = x at *
     generalize (vsT s).getD j 0 = v at g1 g3 b1'
     refine AX.sD (rgDWV [2, 3, 4, 6, 8, 9, 10, 27, 28, 29, 48] (aI @hlT (aI @g3 (aI @hza (aI @g2 (aI @h0' (aI @h3' oT)))))) oT) ?_
     refine AX.condT ?_
     refine AX.sR (rgAV [6, 7]) ?_
     refine AX.ret ⟨.inl rfl, ?_⟩
     exact Lift.Done.facE fa_lay_fac26 rfl rfl rfl
  ·obtain rfl : j = (vsT s).length := by omega
   rw [hT, htbend]
   refine AX.sR (rgAV [2, 3, 4, 6, 8, 27, 28, 29, 30]) ?_
   refine AX.seq ?_
   refine AX.condF ?_
   refine AX.exit ?_
   refine nmZ ?_
   exact ⟨fun ⟨i, hi, m1, m2⟩ => m2 (hgood i hi m1),
    leQ5
    ⟩
 ·rintro st ⟨hno, hle⟩
  refine AX.weaken id hle ?_
  have b2 := b2 hno
  have b3 := b3 hno
  have cat2 := cat2 hno
  have hl2 := hl2 hno
  rw [ece] at ccl
  clear hle b1 hgv hga ece
  generalize szT (joT t s) = S at *
  refine AX.sR (rgWV [2, 3, 4, 6, 11] (aI @hlt' (aI @htk oT)) (aI cov oT)) ?_
  refine AX.seq ?_
  by_cases hlim : S ≤ 4096
  ·have b3 := b3 hlim
   subst b3
   rw [if_pos hlim] at ccl
   clear b2
   have hS1 : ¬ (S : Int) = 0 := by omega
   refine AX.sR (rgWV [2, 3, 4, 6, 11, 63] (aI @hS1 oT) (aI ccl oT)) ?_
   refine AX.condF ?_
   refine AX.keepA [2, 3, 4, 6, 11] ?_
   refine AX.skip ?_
   refine nmZ ?_
   refine AX.seq ?_
   refine AX.sR (rgAV [2, 3, 4, 6, 11, 12]) ?_
   refine AX.weaken id (st' := ⟨[(12, .i .i64 (0 : Nat)), (11, .ptr 5 0), (6, .ptr 2 0), (4, .ptr 1 0), (3, .ptr 0 0), (2, .b true)], [(5, ⟨35, [.sl V3, .sl A3, .own 4 0 (0 : Nat) 3]⟩), (4, ⟨29, qrow (ql 0 W)⟩), (2, ⟨35, [.nl, .nl, .nl]⟩), (1, ⟨35, [.sl V2, .sl A2, .sl X2]⟩), (0, ⟨35, [.sl V1, .sl A1, .sl X1]⟩)], 6⟩)
    ⟨by simp only [ren_q, renL_u, ren_zl, ren_tb, ren_frw, ren_cnq, lt_q, ltL_u, lt_zl, lt_tb, lt_frw, lt_cnq, LeFr, LeHp, lkp, V.ren, V.renL, Row.ren, V.lt, V.ltL, renL_u, ltL_u, List.length_append, List.length_cons, List.length_nil, List.length_set, id_eq, Option.some.injEq, V.i.injEq, V.b.injEq, V.own.injEq, Row.mk.injEq, decide_true, decide_eq_true_eq, true_and, and_true, Bool.and_true, Bool.true_and, if_true, if_false, and_self, Nat.reduceLT, Nat.reduceLeDiff, Nat.reduceEqDiff, Nat.reduceAdd, Nat.reduceSub, Nat.reduceMul, Nat.reducePow, Nat.reduceBEq, Int.reduceLE, Int.reduceLT, Int.reduceToNat, Int.reduceEq, Int.reduceNeg, reduceIte, reduceCtorEq] <;> (first | done | trivial | (and_intros <;> first | trivial | omega | (rfl))), by simp only [ren_q, renL_u, ren_zl, ren_tb, ren_frw, ren_cnq, lt_q, ltL_u, lt_zl, lt_tb, lt_frw, lt_cnq, LeFr, LeHp, lkp, V.ren, V.renL, Row.ren, V.lt, V.ltL, renL_u, ltL_u, List.length_append, List.length_cons, List.length_nil, List.length_set, id_eq, Option.some.injEq, V.i.injEq, V.b.injEq, V.own.injEq, Row.mk.injEq, decide_true, decide_eq_true_eq, true_and, and_true, Bool.and_true, Bool.true_and, if_true, if_false, and_self, Nat.reduceLT, Nat.reduceLeDiff, Nat.reduceEqDiff, Nat.reduceAdd, Nat.reduceSub, Nat.reduceMul, Nat.reducePow, Nat.reduceBEq, Int.reduceLE, Int.reduceLT, Int.reduceToNat, Int.reduceEq, Int.reduceNeg, reduceIte, reduceCtorEq] <;> (first | done | trivial | (and_intros <;> first | trivial | omega | (rfl))), by simp [Apart], by first | exact Nat.zero_le _ | simp, by intro n hn; first | rfl | exact absurd hn (Nat.not_lt_zero _) | (have h0 : n = 0 := Nat.lt_one_iff.1 hn; subst h0; rfl)⟩
    ?_
   refine AX.block ?_
   refine AX.loop (fun N st => ∃ (i : Nat) (xs : List Rat), i ≤ S ∧ N = S - i ∧ xs = ql i W ∧ st = ⟨[(12, .i .i64 i), (11, .ptr 5 0), (6, .ptr 2 0), (4, .ptr 1 0), (3, .ptr 0 0), (2, .b true)], [(5, ⟨35, [.sl V3, .sl A3, .own 4 0 i 3]⟩), (4, ⟨29, qrow xs⟩), (2, ⟨35, [.nl, .nl, .nl]⟩), (1, ⟨35, [.sl V2, .sl A2, .sl X2]⟩), (0, ⟨35, [.sl V1, .sl A1, .sl X1]⟩)], 6⟩) S ⟨0, _, Nat.zero_le _, rfl, rfl, rfl⟩ ?_
   rintro N st ⟨i, xs, hi, rfl, hxs, rfl⟩
   refine AX.seq ?_
   by_cases h1 : i < S
   ·have cpi := cpl i (by omega)
    have c1 := cat1 i
    have c2 := cat2 i
    have l1 := hl1 i
    have l2 := hl2 i
    have hWi := hW i
    have hlq : (qrow xs).length = i * 3 := by rw [qrow_length, hxs, ql_length]
    have ea : qrow xs ++ [.b (decide ((W i).num < 0)), dg (digits (W i).num.natAbs), dg (digits (W i).den)] = qrow (ql (i + 1) W) := by rw [ql_succ, qrow_app, qrow_one, hxs]
    generalize deT (joT t s) i = D at *
    have cm := pmul_ok (IsQ.of l1) (IsQ.of l2) hL1 (by omega)
    have ca := padd_ok (IsQ.of l1) (IsQ.of l2) hL1 (by omega)
    clear cat1 cat2 hl1 hl2 hW cpl cov
    generalize W i = wi at *
    unfold opAdd at hWi
    rw [← hWi] at ca
    unfold rV rR at cm ca
    clear hWi
    generalize q (enT t D) = x at *
    generalize p (enT s D) = y at *
    refine AX.sR (rgCV [2, 3, 4, 6, 11, 12, 69] (aI ccl oT)) ?_
    refine AX.condT ?_
    refine AX.keepA [2, 3, 4, 6, 11, 12] ?_
    refine AX.skip ?_
    refine nmZ ?_
    refine AX.seq ?_
    refine AX.block ?_
    apply AX.sreg [2, 3, 4, 6, 11, 12, 13] (by simp only [pq]; rfl)
    ·repeat (first
    |(apply RunO.op rfl; · rfl
      ·(simp only [opsOf, valsOf, valOf, lkp, ofConst, ofCell, Array.toList, Option.toList, List.map_cons, List.map_nil, List.cons_append, List.nil_append, List.append_nil, Nat.reduceEqDiff, Nat.reducePow, Nat.reduceLT, Nat.reduceLeDiff, reduceIte, if_true, if_false, IntKind.min, IntKind.max, IntKind.bits, IntKind.signed, Int.reduceLE, Int.reduceNeg, Int.reducePow, Int.reduceSub, and_self, Bool.false_eq_true, Nat.reduceSub]; rfl)
      iterate 2 (· (simp (disch := omega) only [go_sem, i64_of, u32_of, u64_of, Nat.reduceLT, Nat.reduceLeDiff, Nat.reduceEqDiff, Nat.reduceAdd, Nat.reduceSub, Nat.reduceMul, Nat.reducePow, Nat.reduceBEq, Int.reduceLE, Int.reduceLT, Int.reduceToNat, Int.reduceEq, Int.reduceNeg, reduceIte, reduceCtorEq, ren_tb]; rfl))
      ·(simp only [pb, Nat.reduceLT, Nat.reduceAdd, reduceIte]; rfl))
    |(apply RunO.callJ 72 (.agg [.sl V3, .sl A3, .junk]) jk3 rfl rfl; · rfl
      ·(simp only [opsOf, valsOf, valOf, lkp, ofConst, ofCell, Array.toList, Option.toList, List.map_cons, List.map_nil, List.cons_append, List.nil_append, List.append_nil, Nat.reduceEqDiff, Nat.reducePow, Nat.reduceLT, Nat.reduceLeDiff, reduceIte, if_true, if_false, IntKind.min, IntKind.max, IntKind.bits, IntKind.signed, Int.reduceLE, Int.reduceNeg, Int.reducePow, Int.reduceSub, and_self, Bool.false_eq_true, Nat.reduceSub]; rfl)
      ·(simp (disch := omega) only [go_sem, i64_of, u32_of, u64_of, Nat.reduceLT, Nat.reduceLeDiff, Nat.reduceEqDiff, Nat.reduceAdd, Nat.reduceSub, Nat.reduceMul, Nat.reducePow, Nat.reduceBEq, Int.reduceLE, Int.reduceLT, Int.reduceToNat, Int.reduceEq, Int.reduceNeg, reduceIte, reduceCtorEq, ren_tb]; rfl)
      ·rfl
      ·exact cpi
      ·(simp (disch := omega) only [go_sem, i64_of, u32_of, u64_of, Nat.reduceLT, Nat.reduceLeDiff, Nat.reduceEqDiff, Nat.reduceAdd, Nat.reduceSub, Nat.reduceMul, Nat.reducePow, Nat.reduceBEq, Int.reduceLE, Int.reduceLT, Int.reduceToNat, Int.reduceEq, Int.reduceNeg, reduceIte, reduceCtorEq, ren_tb]; rfl)
      ·(simp only [pb, Nat.reduceLT, Nat.reduceAdd, reduceIte]; rfl))
    |(apply RunO.skip; · rfl
      ·(simp only [pb, Nat.reduceLT, Nat.reduceAdd, reduceIte]; rfl)))
     exact RunO.nil
    ·repeat (first | exact Keep.nil | (apply Keep.take; · rfl) | (apply Keep.drop; · rfl))
    apply AX.sdreg [2, 3, 4, 6, 11, 12, 13, 14] (by kernel_rfl) (by simp only [pq]; rfl)
    ·repeat (first
    |(apply RunD.op rfl; · rfl
      ·(simp only [opsOf, valsOf, valOf, lkp, ofConst, ofCell, Array.toList, Option.toList, List.map_cons, List.map_nil, List.cons_append, List.nil_append, List.append_nil, Nat.reduceEqDiff, Nat.reducePow, Nat.reduceLT, Nat.reduceLeDiff, reduceIte, if_true, if_false, IntKind.min, IntKind.max, IntKind.bits, IntKind.signed, Int.reduceLE, Int.reduceNeg, Int.reducePow, Int.reduceSub, and_self, Bool.false_eq_true, Nat.reduceSub]; rfl)
      iterate 2 (· (simp (disch := omega) only [go_sem, i64_of, u32_of, u64_of, Nat.reduceLT, Nat.reduceLeDiff, Nat.reduceEqDiff, Nat.reduceAdd, Nat.reduceSub, Nat.reduceMul, Nat.reducePow, Nat.reduceBEq, Int.reduceLE, Int.reduceLT, Int.reduceToNat, Int.reduceEq, Int.reduceNeg, reduceIte, reduceCtorEq]; rfl))
      ·(simp only [pb, Nat.reduceLT, Nat.reduceAdd, reduceIte]; rfl)
      ·rfl)
    |(apply RunD.call rfl; · rfl
      ·(simp only [opsOf, valsOf, valOf, lkp, ofConst, ofCell, Array.toList, Option.toList, List.map_cons, List.map_nil, List.cons_append, List.nil_append, List.append_nil, Nat.reduceEqDiff, Nat.reducePow, Nat.reduceLT, Nat.reduceLeDiff, reduceIte, if_true, if_false, IntKind.min, IntKind.max, IntKind.bits, IntKind.signed, Int.reduceLE, Int.reduceNeg, Int.reducePow, Int.reduceSub, and_self, Bool.false_eq_true, Nat.reduceSub]; rfl)
      ·first | rfl | (simp only [List.cons_append, List.nil_append, V.hfL, V.hf, Bool.true_and]; assumption)
      ·(first | (simp only [cnlL, cnl, List.append_nil, List.cons_append, List.nil_append]; first | exact cm) | (first | exact cm))
      ·rfl
      ·(simp only [pb, Nat.reduceLT, Nat.reduceAdd, reduceIte]; rfl)
      ·rfl)
    |(apply RunD.gcall [6] rfl; · rfl
      ·(simp only [opsOf, valsOf, valOf, lkp, ofConst, ofCell, Array.toList, Option.toList, List.map_cons, List.map_nil, List.cons_append, List.nil_append, List.append_nil, Nat.reduceEqDiff, Nat.reducePow, Nat.reduceLT, Nat.reduceLeDiff, reduceIte, if_true, if_false, IntKind.min, IntKind.max, IntKind.bits, IntKind.signed, Int.reduceLE, Int.reduceNeg, Int.reducePow, Int.reduceSub, and_self, Bool.false_eq_true, Nat.reduceSub]; rfl)
      ·exact c1
      ·first | rfl | (simp only [Row.ren, V.ren, V.renL, renS, ren_q, renL_u, ren_zl, ren_tb, ren_frw, ren_cnq]; rfl)
      ·first | rfl | (simp only [V.lt, V.ltL, ltS, lt_q, ltL_u, lt_zl, lt_tb, lt_frw, lt_cnq]; rfl)
      ·decide
      ·repeat' (first | exact trivial | rfl | (simp only [Row.ren, V.ren, V.renL, renS, ren_q, renL_u, ren_zl, ren_tb, ren_frw, ren_cnq]; done) | (simp only [Row.ren, V.ren, V.renL, renS, ren_q, renL_u, ren_zl, ren_tb, ren_frw, ren_cnq]; rfl) | (simp only [V.lt, V.ltL, ltS, lt_q, ltL_u, lt_zl, lt_tb, lt_frw, lt_cnq]; done) | apply And.intro)
      ·first | rfl | (simp only [Row.ren, V.ren, V.renL, renS, ren_q, renL_u, ren_zl, ren_tb, ren_frw, ren_cnq]; rfl)
      ·(simp only [setRows, setL, Row.ren, V.ren, V.renL, renS, ren_q, renL_u, ren_zl, ren_tb, ren_frw, ren_cnq, pb, Nat.reduceLT, Nat.reduceAdd, Nat.reduceEqDiff, reduceIte]; rfl)
      ·rfl)
    |(apply RunD.gcall [6] rfl; · rfl
      ·(simp only [opsOf, valsOf, valOf, lkp, ofConst, ofCell, Array.toList, Option.toList, List.map_cons, List.map_nil, List.cons_append, List.nil_append, List.append_nil, Nat.reduceEqDiff, Nat.reducePow, Nat.reduceLT, Nat.reduceLeDiff, reduceIte, if_true, if_false, IntKind.min, IntKind.max, IntKind.bits, IntKind.signed, Int.reduceLE, Int.reduceNeg, Int.reducePow, Int.reduceSub, and_self, Bool.false_eq_true, Nat.reduceSub]; rfl)
      ·exact c2
      ·first | rfl | (simp only [Row.ren, V.ren, V.renL, renS, ren_q, renL_u, ren_zl, ren_tb, ren_frw, ren_cnq]; rfl)
      ·first | rfl | (simp only [V.lt, V.ltL, ltS, lt_q, ltL_u, lt_zl, lt_tb, lt_frw, lt_cnq]; rfl)
      ·decide
      ·repeat' (first | exact trivial | rfl | (simp only [Row.ren, V.ren, V.renL, renS, ren_q, renL_u, ren_zl, ren_tb, ren_frw, ren_cnq]; done) | (simp only [Row.ren, V.ren, V.renL, renS, ren_q, renL_u, ren_zl, ren_tb, ren_frw, ren_cnq]; rfl) | (simp only [V.lt, V.ltL, ltS, lt_q, ltL_u, lt_zl, lt_tb, lt_frw, lt_cnq]; done) | apply And.intro)
      ·first | rfl | (simp only [Row.ren, V.ren, V.renL, renS, ren_q, renL_u, ren_zl, ren_tb, ren_frw, ren_cnq]; rfl)
      ·(simp only [setRows, setL, Row.ren, V.ren, V.renL, renS, ren_q, renL_u, ren_zl, ren_tb, ren_frw, ren_cnq, pb, Nat.reduceLT, Nat.reduceAdd, Nat.reduceEqDiff, reduceIte]; rfl)
      ·rfl)
    |(apply RunD.skip; · rfl
      ·(simp only [pb, Nat.reduceLT, Nat.reduceAdd, reduceIte]; rfl)
      ·rfl))
     exact RunD.nil
    ·repeat (first | exact Keep.nil | (apply Keep.take; · rfl) | (apply Keep.drop; · rfl))
    ·kernel_rfl
    refine AX.seq ?_
    refine AX.sR (rgAV [2, 3, 4, 6, 11, 12, 13, 14, 82]) ?_
    refine AX.condT ?_
    apply AX.dreg [2, 3, 4, 6, 11, 12, 14] (by kernel_rfl) (by simp only [pq]; rfl)
    ·repeat (first
    |(apply RunD.op rfl; · rfl
      ·(simp only [opsOf, valsOf, valOf, lkp, ofConst, ofCell, Array.toList, Option.toList, List.map_cons, List.map_nil, List.cons_append, List.nil_append, List.append_nil, Nat.reduceEqDiff, Nat.reducePow, Nat.reduceLT, Nat.reduceLeDiff, reduceIte, if_true, if_false, IntKind.min, IntKind.max, IntKind.bits, IntKind.signed, Int.reduceLE, Int.reduceNeg, Int.reducePow, Int.reduceSub, and_self, Bool.false_eq_true, Nat.reduceSub]; rfl)
      iterate 2 (· (simp (disch := omega) only [go_sem, i64_of, u32_of, u64_of, Nat.reduceLT, Nat.reduceLeDiff, Nat.reduceEqDiff, Nat.reduceAdd, Nat.reduceSub, Nat.reduceMul, Nat.reducePow, Nat.reduceBEq, Int.reduceLE, Int.reduceLT, Int.reduceToNat, Int.reduceEq, Int.reduceNeg, reduceIte, reduceCtorEq]; rfl))
      ·(simp only [pb, Nat.reduceLT, Nat.reduceAdd, reduceIte]; rfl)
      ·rfl)
    |(apply RunD.call rfl; · rfl
      ·(simp only [opsOf, valsOf, valOf, lkp, ofConst, ofCell, Array.toList, Option.toList, List.map_cons, List.map_nil, List.cons_append, List.nil_append, List.append_nil, Nat.reduceEqDiff, Nat.reducePow, Nat.reduceLT, Nat.reduceLeDiff, reduceIte, if_true, if_false, IntKind.min, IntKind.max, IntKind.bits, IntKind.signed, Int.reduceLE, Int.reduceNeg, Int.reducePow, Int.reduceSub, and_self, Bool.false_eq_true, Nat.reduceSub]; rfl)
      ·first | rfl | (simp only [List.cons_append, List.nil_append, V.hfL, V.hf, Bool.true_and]; assumption)
      ·(first | (simp only [cnlL, cnl, List.append_nil, List.cons_append, List.nil_append]; first | exact ca) | (first | exact ca))
      ·rfl
      ·(simp only [pb, Nat.reduceLT, Nat.reduceAdd, reduceIte]; rfl)
      ·rfl)
    |(apply RunD.gcall [6] rfl; · rfl
      ·(simp only [opsOf, valsOf, valOf, lkp, ofConst, ofCell, Array.toList, Option.toList, List.map_cons, List.map_nil, List.cons_append, List.nil_append, List.append_nil, Nat.reduceEqDiff, Nat.reducePow, Nat.reduceLT, Nat.reduceLeDiff, reduceIte, if_true, if_false, IntKind.min, IntKind.max, IntKind.bits, IntKind.signed, Int.reduceLE, Int.reduceNeg, Int.reducePow, Int.reduceSub, and_self, Bool.false_eq_true, Nat.reduceSub]; rfl)
      ·exact c1
      ·first | rfl | (simp only [Row.ren, V.ren, V.renL, renS, ren_q, renL_u, ren_zl, ren_tb, ren_frw, ren_cnq]; rfl)
      ·first | rfl | (simp only [V.lt, V.ltL, ltS, lt_q, ltL_u, lt_zl, lt_tb, lt_frw, lt_cnq]; rfl)
      ·decide
      ·repeat' (first | exact trivial | rfl | (simp only [Row.ren, V.ren, V.renL, renS, ren_q, renL_u, ren_zl, ren_tb, ren_frw, ren_cnq]; done) | (simp only [Row.ren, V.ren, V.renL, renS, ren_q, renL_u, ren_zl, ren_tb, ren_frw, ren_cnq]; rfl) | (simp only [V.lt, V.ltL, ltS, lt_q, ltL_u, lt_zl, lt_tb, lt_frw, lt_cnq]; done) | apply And.intro)
      ·first | rfl | (simp only [Row.ren, V.ren, V.renL, renS, ren_q, renL_u, ren_zl, ren_tb, ren_frw, ren_cnq]; rfl)
      ·(simp only [setRows, setL, Row.ren, V.ren, V.renL, renS, ren_q, renL_u, ren_zl, ren_tb, ren_frw, ren_cnq, pb, Nat.reduceLT, Nat.reduceAdd, Nat.reduceEqDiff, reduceIte]; rfl)
      ·rfl)
    |(apply RunD.gcall [6] rfl; · rfl
      ·(simp only [opsOf, valsOf, valOf, lkp, ofConst, ofCell, Array.toList, Option.toList, List.map_cons, List.map_nil, List.cons_append, List.nil_append, List.append_nil, Nat.reduceEqDiff, Nat.reducePow, Nat.reduceLT, Nat.reduceLeDiff, reduceIte, if_true, if_false, IntKind.min, IntKind.max, IntKind.bits, IntKind.signed, Int.reduceLE, Int.reduceNeg, Int.reducePow, Int.reduceSub, and_self, Bool.false_eq_true, Nat.reduceSub]; rfl)
      ·exact c2
      ·first | rfl | (simp only [Row.ren, V.ren, V.renL, renS, ren_q, renL_u, ren_zl, ren_tb, ren_frw, ren_cnq]; rfl)
      ·first | rfl | (simp only [V.lt, V.ltL, ltS, lt_q, ltL_u, lt_zl, lt_tb, lt_frw, lt_cnq]; rfl)
      ·decide
      ·repeat' (first | exact trivial | rfl | (simp only [Row.ren, V.ren, V.renL, renS, ren_q, renL_u, ren_zl, ren_tb, ren_frw, ren_cnq]; done) | (simp only [Row.ren, V.ren, V.renL, renS, ren_q, renL_u, ren_zl, ren_tb, ren_frw, ren_cnq]; rfl) | (simp only [V.lt, V.ltL, ltS, lt_q, ltL_u, lt_zl, lt_tb, lt_frw, lt_cnq]; done) | apply And.intro)
      ·first | rfl | (simp only [Row.ren, V.ren, V.renL, renS, ren_q, renL_u, ren_zl, ren_tb, ren_frw, ren_cnq]; rfl)
      ·(simp only [setRows, setL, Row.ren, V.ren, V.renL, renS, ren_q, renL_u, ren_zl, ren_tb, ren_frw, ren_cnq, pb, Nat.reduceLT, Nat.reduceAdd, Nat.reduceEqDiff, reduceIte]; rfl)
      ·rfl)
    |(apply RunD.skip; · rfl
      ·(simp only [pb, Nat.reduceLT, Nat.reduceAdd, reduceIte]; rfl)
      ·rfl))
     exact RunD.nil
    ·repeat (first | exact Keep.nil | (apply Keep.take; · rfl) | (apply Keep.drop; · rfl))
    ·kernel_rfl
    refine nmZ ?_
    refine AX.rR (rgWV [2, 3, 4, 6, 11, 12] (aI @hlq (aI @flat_q (aI @zerosV_1 (aI @tkS (aI @tk0 oT))))) oT) ?_
    refine nmZ ?_
    rw [ea]
    refine AX.rR (rgWV [2, 3, 4, 6, 11, 12] (aI @lit_add oT) oT) ?_
    refine nmZ ?_
    refine ⟨_, _, fun n => if n = 4 then 9 else n, ?_,
     leQ5
     , ⟨i + 1, _, by omega, rfl, rfl, rfl⟩⟩
    omega
   ·obtain rfl : i = S := by omega
    subst hxs
    refine AX.sR (rgCV [2, 3, 4, 6, 11, 12, 69] (aI ccl oT)) ?_
    refine AX.condF ?_
    refine AX.exit ?_
    refine nmZ ?_
    refine AX.sR (rgAV [6, 7]) ?_
    refine AX.ret ⟨.inl rfl, ?_⟩
    exact Done.facS fa_lay_fac26 rfl rfl rfl rfl (ql_length _ _).symm
  ·have b2 := b2 hlim
   subst b2
   rw [if_neg hlim] at ccl
   clear b3 cat1 cat2 cpl cov
   refine AX.sR (rgCV [2, 3, 4, 6, 11, 63] (aI ccl oT)) ?_
   refine AX.condT ?_
   refine AX.sR (rgAV [6, 7]) ?_
   refine AX.ret ⟨.inl rfl, ?_⟩
   exact Lift.Done.facE fa_lay_fac26 rfl rfl rfl
end Go.Proofs.Ytogpimmcodaljaa
