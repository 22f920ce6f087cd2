/- The law FactorShares. -/
import Derived.Test.YtogpimmcodaljaaGreatKS
set_option linter.unusedVariables false
set_option maxRecDepth 20000
set_option linter.unusedSimpArgs false
namespace Go.Proofs.YtogpimmcodaljaaGreat
open Go Go.Proofs.YtogpimmcodaljaaGreat.Lift
attribute [local irreducible] Lift.PCall Lift.HCall
set_option maxHeartbeats 16000000 in
theorem factorShares_not (U0 W0 X0 F1 F2 F3 : List V) (v : Int) (c0 : PCall Tryz.prog 5 [.agg [.sl U0, .sl W0, .sl X0]] (.agg [.sl F1, .sl F2, .sl F3]) []) (c1 : PCall Tryz.prog 19 [.agg [.sl F1, .sl F2, .sl F3]] (.b false) []) :
  PCall Tryz.prog 4 [.agg [.sl U0, .sl W0, .sl X0], .i .i64 v] (.b true) [] := by
 have cal := lalive26_ok
 refine PCall.of_ax Tryz.call4 Tryz.func4 rfl (by simp [Tryz.ntmps4]) fun O w9 => ?_
 simp only [Tryz.ntmps4, Tryz.results4, argFr]
 refine AX.sR (rgAV [1, 2]) ?_
 refine AX.sR (rgCV [1, 2] (aI c0 oT)) ?_
 refine AX.seq ?_
 refine AX.sR (rgCV [1, 2, 26] (aI c1 oT)) ?_
 refine AX.condT ?_
 refine AX.sR (rgCV [4] (aI cal oT)) ?_
 refine AX.ret ⟨.inl rfl, ?_⟩
 exact Done.one rfl rfl rfl rfl
set_option maxHeartbeats 16000000 in
theorem factorShares_core (U0 W0 X0 F3 : List V) (us ws : List Int) (v : Int) (hl : us.length = ws.length) (hul : us.length ≤ 64) (N1 N2 N3 : List V) (e g sg : Int) (sx : Bool) (ax bx : List Nat) (sy : Bool) (ay dy : List Nat) (so : Bool) (ao bo : List Nat) (hsg : -1 ≤ sg ∧ sg ≤ 1)
  (c0 : PCall Tryz.prog 5 [.agg [.sl U0, .sl W0, .sl X0]] (.agg [.sl (zl us), .sl (zl ws), .sl F3]) []) (c1 : PCall Tryz.prog 19 [.agg [.sl (zl us), .sl (zl ws), .sl F3]] (.b true) [])
  (c2 : PCall Tryz.prog 14 [.agg [.sl (zl us), .sl (zl ws), .sl F3]] (.tup [.agg [.sl N1, .sl N2, .sl N3], .i .i64 e]) [])
  (c3 : PCall Tryz.prog 12 [.agg [.sl (zl us), .sl (zl ws), .sl F3]] (.tup [.agg [.b sx, dg ax, dg bx], .i .i64 0]) [])
  (c4 : PCall Tryz.prog 12 [.agg [.sl N1, .sl N2, .sl N3]] (.tup [.agg [.b sy, dg ay, dg dy], .i .i64 g]) [])
  (c5 : PCall Tryz.prog 20 [.agg [.b sx, dg ax, dg bx]] (.i .i64 sg) []) (c6 : PCall Tryz.prog 21 [] (.agg [.b so, dg ao, dg bo]) [])
  (hc : (sg = 0 ∧ e = 31) ∨ (sg ≠ 0 ∧ e = 0 ∧ g = 0 ∧ PCall Tryz.prog 17 [.agg [.b sy, dg ay, dg dy], .agg [.b so, dg ao, dg bo]] (.b true) []))
  (cX : PCall Tryz.prog 17 [.agg [.b sx, dg ax, dg bx], .agg [.b sx, dg ax, dg bx]] (.b true) [])
  (htail : ∀ i, i < us.length → us.getD i 0 = v → ∃ (n : Nat) (R1 R2 : List V) (RC PC : Nat → List V), ws.getD i 0 = (n : Nat) ∧ 1 ≤ n ∧ n ≤ 64 ∧ PC 1 = RC 0 ∧
   (∀ m : Nat, m < n → PCall Tryz.prog 10 [.agg [.sl (zl us), .sl (zl ws), .sl F3], .i .i64 v, .i .i64 m] (.tup [.agg [.sl R1, .sl R2, .sl (RC m)], .i .i64 0]) []) ∧
   (∀ m : Nat, 1 ≤ m → m < n → PCall Tryz.prog 22 [.agg [.sl R1, .sl R2, .sl (PC m)], .agg [.sl R1, .sl R2, .sl (RC m)]] (.tup [.agg [.sl R1, .sl R2, .sl (PC (m + 1))], .i .i64 0]) []) ∧
   PCall Tryz.prog 6 [.agg [.sl (zl us), .sl (zl ws), .sl F3], .i .i64 v] (.tup [.agg [.sl R1, .sl R2, .sl (PC n)], .i .i64 0]) [] ∧
   PCall Tryz.prog 12 [.agg [.sl R1, .sl R2, .sl (PC n)]] (.tup [.agg [.b sx, dg ax, dg bx], .i .i64 0]) [] ∧
   PCall Tryz.prog 23 [.agg [.sl R1, .sl R2, .sl (PC n)], .agg [.sl R1, .sl R2, .sl (PC n)]] (.b true) []) :
  PCall Tryz.prog 4 [.agg [.sl U0, .sl W0, .sl X0], .i .i64 v] (.b true) [] := by
 have cal := lalive26_ok
 have hzv := zl_length us
 have hgv := fun j (hj : j < us.length) => zl_get hj
 have hza := zl_length ws
 have hga := fun j (hj : j < ws.length) => zl_get hj
 generalize zl us = Us at *
 generalize zl ws = Ws at *
 refine PCall.of_ax Tryz.call4 Tryz.func4 rfl (by simp [Tryz.ntmps4]) fun O w9 => ?_
 simp only [Tryz.ntmps4, Tryz.results4, argFr]
 refine AX.sR (rgAV [1, 2]) ?_
 refine AX.sR (rgCV [1, 2] (aI c0 oT)) ?_
 refine AX.seq ?_
 refine AX.sR (rgCV [1, 2, 26] (aI c1 oT)) ?_
 refine AX.condF ?_
 refine AX.keepA [1, 2] ?_
 refine AX.skip ?_
 refine nmZ ?_
 refine AX.sR (rgCV [1, 2, 5, 6] (aI c2 oT)) ?_
 refine AX.sR (rgCV [1, 2, 5, 6, 7] (aI c3 oT)) ?_
 refine AX.sR (rgCV [1, 2, 6, 7, 9, 10] (aI c4 oT)) ?_
 clear c0 c1 c2 c3 c4
 refine AX.cut (fun st => Le 0 id ⟨[(7, .ptr 2 0), (2, .ptr 0 0), (1, .i .i64 v)], [(2, ⟨38, [.b sx, dg ax, dg bx]⟩), (0, ⟨25, [.sl Us, .sl Ws, .sl F3]⟩)], 4⟩ st) ?_ ?_
 ·clear htail
  rcases hc with ⟨rfl, rfl⟩ | ⟨k1, rfl, rfl, cs⟩
  ·refine AX.sD (rgDCV [1, 2, 7, 68] (aI c5 oT)) ?_
   refine AX.condF ?_
   refine AX.keepA [1, 2, 7] ?_
   refine AX.skip ?_
   refine nmZ ?_
   exact ⟨by first | exact trivial | rfl,
    leQ5
    ⟩
  ·refine AX.sD (rgDWV [1, 2, 7, 68] (aI @k1 oT) (aI c5 (aI c5 (aI c6 (aI cs oT))))) ?_
   refine AX.condF ?_
   refine AX.keepA [1, 2, 7] ?_
   refine AX.skip ?_
   refine nmZ ?_
   exact ⟨by first | exact trivial | rfl,
    leQ5
    ⟩
 rintro st hle
 refine AX.weaken id hle ?_
 clear hle hc c5 c6
 refine AX.seq ?_
 refine AX.sR (rgWV [1, 2, 7, 70, 71, 72] (aI @hzv oT) oT) ?_
 refine AX.weaken id (st' := ⟨[(72, .i .i64 (0 : Nat)), (71, .i .i64 us.length), (70, .sl Us), (7, .ptr 2 0), (2, .ptr 0 0), (1, .i .i64 v)], [(2, ⟨38, [.b sx, dg ax, dg bx]⟩), (0, ⟨25, [.sl Us, .sl Ws, .sl F3]⟩)], 4⟩)
  leQ5
  ?_
 refine AX.block ?_
 refine AX.loop (fun N st => ∃ i : Nat, i ≤ us.length ∧ N = us.length - i ∧ st = ⟨[(72, .i .i64 i), (71, .i .i64 us.length), (70, .sl Us), (7, .ptr 2 0), (2, .ptr 0 0), (1, .i .i64 v)], [(2, ⟨38, [.b sx, dg ax, dg bx]⟩), (0, ⟨25, [.sl Us, .sl Ws, .sl F3]⟩)], 4⟩) us.length ⟨0, Nat.zero_le _, rfl, rfl⟩ ?_
 rintro N st ⟨i, hi, rfl, rfl⟩
 by_cases h1 : i < us.length
 ·have g1 := hgv i h1
  have g2 := hga i (by omega)
  have ht1 := htail i h1
  clear hgv hga htail
  generalize us.getD i 0 = x at *
  generalize ws.getD i 0 = y at *
  refine AX.sR (rgAV [1, 2, 7, 70, 71, 72, 73]) ?_
  refine AX.seq ?_
  refine AX.condT ?_
  refine AX.keepA [1, 2, 7, 70, 71, 72] ?_
  refine AX.skip ?_
  refine nmZ ?_
  refine AX.seq ?_
  refine AX.block ?_
  refine AX.sR (rgWV [1, 2, 7, 11, 12, 70, 71, 72] (aI @hzv (aI @g1 oT)) oT) ?_
  refine AX.seq ?_
  by_cases h2 : x = v
  ·subst h2
   obtain ⟨n, R1, R2, RC, PC, rfl, hn1, hn2, hp1, cR, cA, cS, cT, cq⟩ := ht1 rfl
   refine AX.sR (rgAV [1, 2, 7, 11, 70, 71, 72, 79]) ?_
   refine AX.condF ?_
   refine AX.keepA [1, 2, 7, 11] ?_
   refine AX.skip ?_
   refine nmZ ?_
   have cR0 := cR 0 (by omega)
   rw [← hp1] at cR0
   have cR0 : PCall Tryz.prog 10 [.agg [.sl Us, .sl Ws, .sl F3], .i .i64 x, .i .i64 0] (.tup [.agg [.sl R1, .sl R2, .sl (PC 1)], .i .i64 0]) [] := cR0
   refine AX.sR (rgCV [1, 2, 7, 11, 13] (aI cR0 oT)) ?_
   clear cR0 hp1
   refine AX.seq ?_
   refine AX.sR (rgAV [1, 2, 7, 11, 13, 15]) ?_
   refine AX.weaken id (st' := ⟨[(15, .i .i64 (1 : Nat)), (13, .ptr 4 0), (11, .i .i64 i), (7, .ptr 2 0), (2, .ptr 0 0), (1, .i .i64 x)], [(4, ⟨25, [.sl R1, .sl R2, .sl (PC 1)]⟩), (2, ⟨38, [.b sx, dg ax, dg bx]⟩), (0, ⟨25, [.sl Us, .sl Ws, .sl F3]⟩)], 5⟩)
    leQ5
    ?_
   refine AX.block ?_
   refine AX.loop (fun N st => ∃ m : Nat, 1 ≤ m ∧ m ≤ n ∧ N = n - m ∧ st = ⟨[(15, .i .i64 m), (13, .ptr 4 0), (11, .i .i64 i), (7, .ptr 2 0), (2, .ptr 0 0), (1, .i .i64 x)], [(4, ⟨25, [.sl R1, .sl R2, .sl (PC m)]⟩), (2, ⟨38, [.b sx, dg ax, dg bx]⟩), (0, ⟨25, [.sl Us, .sl Ws, .sl F3]⟩)], 5⟩) (n - 1) ⟨1, by omega, by omega, rfl, rfl⟩ ?_
   rintro N st ⟨m, hm1, hm2, rfl, rfl⟩
   refine AX.seq ?_
   by_cases h5 : m < n
   ·have cR1 := cR m h5
    have cA1 := cA m hm1 h5
    clear cR cA cS cT cq
    refine AX.sR (rgWV [1, 2, 7, 11, 13, 15, 92] (aI @hza (aI @g2 oT)) oT) ?_
    refine AX.condT ?_
    refine AX.keepA [1, 2, 7, 11, 13, 15] ?_
    refine AX.skip ?_
    refine nmZ ?_
    refine AX.seq ?_
    refine AX.block ?_
    refine AX.sR (rgCV [1, 2, 7, 11, 13, 15, 16, 17] (aI cR1 oT)) ?_
    refine AX.seq ?_
    refine AX.sR (rgAV [1, 2, 7, 11, 13, 15, 16, 103]) ?_
    refine AX.condF ?_
    refine AX.keepA [1, 2, 7, 11, 13, 15, 16] ?_
    refine AX.skip ?_
    refine nmZ ?_
    refine AX.rR (rgCV [1, 2, 7, 11, 13, 15] (aI cA1 oT)) ?_
    refine nmZ ?_
    refine AX.rR (rgWV [1, 2, 7, 11, 13, 15] (aI @lit_add oT) oT) ?_
    refine nmZ ?_
    refine ⟨_, _, id, ?_,
     leQ5
     , ⟨m + 1, by omega, by omega, rfl, rfl⟩⟩
    omega
   ·obtain rfl : m = n := by omega
    clear cR cA
    refine AX.sR (rgWV [1, 2, 7, 11, 13, 15, 92] (aI @hza (aI @g2 oT)) oT) ?_
    refine AX.condF ?_
    refine AX.exit ?_
    refine nmZ ?_
    refine AX.sR (rgCV [7, 13, 18, 19] (aI cS oT)) ?_
    refine AX.sR (rgCV [7, 13, 18, 19, 20] (aI cT oT)) ?_
    refine AX.sR (rgCV [4] (aI cq (aI cX (aI cal oT)))) ?_
    refine AX.ret ⟨.inl rfl, ?_⟩
    exact Done.one rfl rfl rfl rfl
  ·clear ht1
   refine AX.sR (rgWV [1, 2, 7, 11, 70, 71, 72, 79] (aI @h2 oT) oT) ?_
   refine AX.condT ?_
   refine AX.exit ?_
   refine nmZ ?_
   refine AX.rR (rgWV [1, 2, 7, 70, 71, 72] (aI @lit_add oT) oT) ?_
   refine nmZ ?_
   refine ⟨_, _, id, ?_,
    leQ5
    , ⟨i + 1, by omega, rfl, rfl⟩⟩
   omega
 ·obtain rfl : i = us.length := by omega
  refine AX.sR (rgAV [1, 2, 7, 70, 71, 72, 73]) ?_
  refine AX.seq ?_
  refine AX.condF ?_
  refine AX.exit ?_
  refine nmZ ?_
  refine AX.sR (rgCV [4] (aI cal oT)) ?_
  refine AX.ret ⟨.inl rfl, ?_⟩
  exact Done.one rfl rfl rfl rfl
theorem ci_get {l : List Nat} {i : Nat} (h : i < l.length) : (ci l).getD i 0 = (l.getD i 0 : Nat) := by
 simp [ci, List.getD_eq_getElem?_getD, h]
set_option maxHeartbeats 4000000 in
theorem factorShares_ok (u0 w0 : List Int) (x0 : List RT) (v : Int) (hu0 : u0.length < 2 ^ 62) (hw0 : w0.length < 2 ^ 62) (hx0 : x0.length < 2 ^ 62) (hd0 : ∀ x ∈ x0, Dg x.2.1 ∧ Dg x.2.2 ∧ x.2.1.length < 2 ^ 62 ∧ x.2.2.length < 2 ^ 62) :
  PCall Tryz.prog 4 [fV u0 w0 x0, .i .i64 v] (.b true) [] := by
 obtain ⟨vf, wf, xf, sf, c0⟩ := ffew_ok u0 w0 x0 hu0 hw0 hx0 hd0
 have q1 := sf.v
 have q2 := sf.w
 have q3 := sf.l
 have c1 := fright26_ok vf wf xf (by omega) (by omega) (by omega) sf.okY.x
 rcases sf.f with hbad | ⟨t, q, ht, hs, hq, rfl, rfl, rfl⟩
 ·rw [hbad] at c1
  exact factorShares_not _ _ _ _ _ _ v c0 c1
 ·rw [isF_T ht q] at c1
  have c3 := ftotal_ok t q ht 3 (by omega) (by omega) hq
  have hT : rL (sumTo (ql (szT t) q) (szT t)) ≤ 2 ^ 29 := Nat.le_trans (rL_sum (n := szT t) (by omega : 1 ≤ 3) hq) (by omega)
  have hTs : rL (sumTo (ql (szT t) q) (szT t)) ≤ 300 := Nat.le_trans (rL_sum (n := szT t) (by omega : 1 ≤ 3) hq) (by omega)
  have c5 : PCall Tryz.prog 20 [rV (sumTo (ql (szT t) q) (szT t))] (.i .i64 (sgnR (sumTo (ql (szT t) q) (szT t)))) [] := psign_ok (IsQ.of hT) (by decide)
  have cX : PCall Tryz.prog 17 [rV (sumTo (ql (szT t) q) (szT t)), rV (sumTo (ql (szT t) q) (szT t))] (.b true) [] := by
   have := psame_ok (IsQ.of hT) (IsQ.of hT) (by decide) (by decide)
   rw [decide_eq_true rfl] at this
   exact this
  have h1L : rL 1 ≤ 1 := by decide +kernel
  have cO : PCall Tryz.prog 17 [rV 1, rV 1] (.b true) [] := by
   have := psame_ok (IsQ.of h1L) (IsQ.of h1L) (by decide) (by decide)
   rw [decide_eq_true rfl] at this
   exact this
  have hm := vsT_len t
  have htail : ∀ i, i < (ci (vsT t)).length → (ci (vsT t)).getD i 0 = v → ∃ (n : Nat) (R1 R2 : List V) (RC PC : Nat → List V), (ci (asT t)).getD i 0 = (n : Nat) ∧ 1 ≤ n ∧ n ≤ 64 ∧ PC 1 = RC 0 ∧
   (∀ m : Nat, m < n → PCall Tryz.prog 10 [.agg [.sl (zl (ci (vsT t))), .sl (zl (ci (asT t))), .sl ((xsT t q).map fR)], .i .i64 v, .i .i64 m] (.tup [.agg [.sl R1, .sl R2, .sl (RC m)], .i .i64 0]) []) ∧
   (∀ m : Nat, 1 ≤ m → m < n → PCall Tryz.prog 22 [.agg [.sl R1, .sl R2, .sl (PC m)], .agg [.sl R1, .sl R2, .sl (RC m)]] (.tup [.agg [.sl R1, .sl R2, .sl (PC (m + 1))], .i .i64 0]) []) ∧
   PCall Tryz.prog 6 [.agg [.sl (zl (ci (vsT t))), .sl (zl (ci (asT t))), .sl ((xsT t q).map fR)], .i .i64 v] (.tup [.agg [.sl R1, .sl R2, .sl (PC n)], .i .i64 0]) [] ∧
   PCall Tryz.prog 12 [.agg [.sl R1, .sl R2, .sl (PC n)]] (.tup [rV (sumTo (ql (szT t) q) (szT t)), .i .i64 0]) [] ∧
   PCall Tryz.prog 23 [.agg [.sl R1, .sl R2, .sl (PC n)], .agg [.sl R1, .sl R2, .sl (PC n)]] (.b true) [] := by
   intro i hi e
   have hi' : i < (vsT t).length := by rwa [ci_length] at hi
   obtain ⟨w, hw⟩ : ∃ w, (vsT t).getD i 0 = w := ⟨_, rfl⟩
   have ew : (ci (vsT t)).getD i 0 = (w : Nat) := by rw [ci_get hi', hw]
   have ea : (ci (asT t)).getD i 0 = (t w : Nat) := by rw [ci_get (by rw [asT_len]; exact hi'), asT_get hi', hw]
   obtain ⟨hw64, hw0⟩ := vsT_get hi'
   rw [hw] at hw64 hw0
   rw [ew] at e
   subst e
   have ht' := okT_del ht w
   have hp : ∀ m, m ≤ t w → ∀ k, k < szT (updT t w 0) → rL (pqT t q w m k) ≤ 300 := fun m hm k _ => Nat.le_trans (pqT_len ht hq hm) (by omega)
   have hr : ∀ m : Nat, ∀ k, k < szT (updT t w 0) → rL (woQ t q w 2 (m : Int) k) ≤ 300 := fun m k _ => Nat.le_trans (woQ_len ht hq k) (by omega)
   refine ⟨t w, zl (ci (vsT (updT t w 0))), zl (ci (asT (updT t w 0))), fun m => (xsT (updT t w 0) (woQ t q w 2 (m : Int))).map fR, fun m => (xsT (updT t w 0) (pqT t q w m)).map fR, ea, Nat.pos_of_ne_zero hw0, ht.1 w, ?_, fun m hm => ?_, fun m h1 hm => ?_, ?_, ?_, ?_⟩
   ·show (xsT _ (pqT t q w 1)).map fR = (xsT _ (woQ t q w 2 ((0 : Nat) : Int))).map fR
    have e1 : woQ t q w 2 ((0 : Nat) : Int) = pqT t q w 1 := funext fun n => pqT_one (Nat.pos_of_ne_zero hw0)
    rw [e1]
   ·exact fRestrict_some t q ht 3 (by omega) (by omega) hq w hw64 hw0 m hm
   ·have := fAdd_ok (updT t w 0) (updT t w 0) (pqT t q w m) (woQ t q w 2 (m : Int)) ht' ht' 300 (by omega) (hp m (by omega)) (hr m)
    rw [boV_self ht', funext fun n => pqT_succ (n := n) h1 hm] at this
    exact this
   ·exact fSum_some t q ht 3 (by omega) (by omega) hq w hw64 hw0
   ·have := ftotal_ok (updT t w 0) (woQ t q w 0 0) ht' 300 (by omega) (by omega) (fun k _ => Nat.le_trans (woQ_len ht hq k) (by omega))
    rw [tot_sum hw64 hw0] at this
    exact this
   ·exact same_FV ht'.2 (fun k hk => Nat.le_trans (hp (t w) (Nat.le_refl _) k hk) (by omega))
  have hl : (ci (vsT t)).length = (ci (asT t)).length := by rw [ci_length, ci_length, asT_len]
  have hul : (ci (vsT t)).length ≤ 64 := by rw [ci_length]; exact hm
  have hsb := sgnR_bound (sumTo (ql (szT t) q) (szT t))
  by_cases h0 : sumTo (ql (szT t) q) (szT t) = 0
  ·exact factorShares_core _ _ _ _ _ _ v hl hul _ _ _ 31 1 _ _ _ _ false [] [] _ _ _ hsb c0 c1 (fNormal_zero t q ht 3 (by omega) (by omega) hq h0) c3 (fTotalN_ok [] [] [] (by decide) (by decide) (by decide) (fun x hx => (List.not_mem_nil hx).elim) isF_nil) c5 pone_ok (.inl ⟨sgnR_eq_zero.2 h0, rfl⟩) cX htail
  ·have hqd : ∀ k, k < szT t → rL (q k / sumTo (ql (szT t) q) (szT t)) ≤ 303 := fun k hk => rL_div _ _ (hq k hk) hTs (by omega)
   have c4 := ftotal_ok t (fun k => q k / sumTo (ql (szT t) q) (szT t)) ht 303 (by omega) (by omega) hqd
   rw [tot_div h0] at c4
   exact factorShares_core _ _ _ _ _ _ v hl hul _ _ _ 0 0 _ _ _ _ _ _ _ _ _ _ hsb c0 c1 (fNormal_ok t q ht 3 (by omega) (by omega) hq _ rfl (Nat.le_trans hT (by decide)) h0) c3 c4 c5 pone_ok (.inr ⟨fun h => h0 (sgnR_eq_zero.1 h), rfl, rfl, cO⟩) cX htail
end Go.Proofs.YtogpimmcodaljaaGreat
