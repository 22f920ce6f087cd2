/- The reference's chains: reach. -/
import Derived.Test.YtepkjfnffbdcoaaGreatChJ
import Derived.Test.YtepkjfnffbdcoaaGreatHC
set_option linter.unusedVariables false
set_option maxRecDepth 20000
set_option linter.unusedSimpArgs false
namespace Go.Proofs.YtepkjfnffbdcoaaGreat
open Go Go.Proofs.YtepkjfnffbdcoaaGreat.Lift
attribute [local irreducible] Lift.PCall Lift.HCall
theorem sgnR_pos {q : Rat} : 0 < sgnR q ↔ 0 < q := by
 unfold sgnR
 constructor
 ·intro h
  split at h
  ·exact absurd h (by decide)
  ·split at h
   ·exact absurd h (by decide)
   ·rename_i h1 h2
    grind
 ·intro h
  rw [if_neg (by grind), if_neg (by grind)]
  decide
set_option maxHeartbeats 16000000 in
theorem rreach_ok (n m L : Nat) (hn : n ≤ 60) (A B : Mx) (hA : ∀ i k, i < n → k < n → rL (A i k) ≤ L) (hL : L < 2 ^ 36) :
  PCall Tryz.prog 72 [cV n m A B] (.sl (bll n (toB n A))) [] := by
 refine PCall.of_ax Tryz.call72 Tryz.func72 rfl (by simp [Tryz.ntmps72]) fun O w => ?_
 simp only [Tryz.ntmps72, Tryz.results72, argFr]
 have cs : ∀ i k, i < n → k < n → PCall Tryz.prog 31 [.agg [.b (decide ((A i k).num < 0)), dg (digits (A i k).num.natAbs), dg (digits (A i k).den)]] (.i .i64 (sgnR (A i k))) [] := fun i k hi hk => psign_ok (IsQ.of (hA i k hi hk)) hL
 have ixA := fun (i j : Nat) (hi : i < n) (hj : j < n) => fun x y => effIxM (x := x) (y := y) A hi hj rfl
 have hnn : n * n ≤ 60 * 60 := Nat.mul_le_mul hn hn
 clear hA
 unfold cV
 generalize (mcells n A (n * n)).map rV = Ac at *
 generalize (mcells m B (n * m)).map rV = Bc at *
 refine AX.sR (rgAV [1]) ?_
 refine AX.sR (rgAV [1, 3]) ?_
 refine AX.sR (rgAV [1, 3, 4]) ?_
 refine AX.seq ?_
 refine AX.sR (rgAV [1, 3, 4, 15, 16]) ?_
 refine AX.weaken id (st' := ⟨[(16, .i .i64 (0 : Nat)), (15, .i .i64 n), (4, .own 1 0 n 1), (3, .i .i64 n), (1, .ptr 0 0)], [(1, ⟨78, wr 2 n 0 false (toB n A)⟩), (0, ⟨36, [.i .i64 n, .i .i64 n, .sl Ac, .i .i64 n, .i .i64 m, .sl Bc]⟩)], 2⟩)
  (leQ8H wr_zero)
  ?_
 refine AX.block ?_
 refine AX.loop (fun N st => ∃ i : Nat, i ≤ n ∧ N = n - i ∧ st = ⟨[(16, .i .i64 i), (15, .i .i64 n), (4, .own 1 0 n 1), (3, .i .i64 n), (1, .ptr 0 0)], [(1, ⟨78, wr 2 n i false (toB n A)⟩), (0, ⟨36, [.i .i64 n, .i .i64 n, .sl Ac, .i .i64 n, .i .i64 m, .sl Bc]⟩)], 2⟩) n ⟨0, Nat.zero_le _, rfl, rfl⟩ ?_
 rintro N st ⟨i, hi, rfl, rfl⟩
 by_cases h1 : i < n
 ·have hwl1 := wr_length 2 n i false (toB n A)
  have hwo := wr_open (h := 2) (toB n A) h1
  have hwl := wr_length 2 n i true (toB n A)
  have hwg := wr_get (h := 2) (toB n A) h1
  have hlt3 : V.ltL 3 (wr 2 n i true (toB n A)) = true := lt_wr (by decide)
  have hone := FndT.one (A := A) h1
  have hb0 := bl_set (fun _ => false) true h1
  have hfz := fun (f : Nat → Bool) (hf : ∀ k, k < n → f k = toB n A i k) => wr_fz (h := 2) hf
  obtain ⟨W0, hW0⟩ : ∃ W0, wr 2 n i false (toB n A) = W0 := ⟨_, rfl⟩
  obtain ⟨W1, hW1⟩ : ∃ W1, wr 2 n i true (toB n A) = W1 := ⟨_, rfl⟩
  rw [hW0] at hwl1 hwo ⊢
  rw [hW1] at hwo hwl hwg hlt3 hfz
  generalize updB (fun _ => false) i true = f1 at *
  refine AX.sR (rgAV [1, 3, 4, 15, 16, 17]) ?_
  refine AX.seq ?_
  refine AX.condT (h := ?_)
  refine AX.keepA [1, 3, 4, 15, 16] (h := ?_)
  refine AX.skip ?_
  refine nmZ (h := ?_)
  refine AX.seq ?_
  refine AX.block ?_
  refine AX.sR (rgAV [1, 3, 4, 5, 15, 16]) ?_
  refine AX.sR (rgWV [1, 3, 4, 5, 15, 16] (aI @hwl1 oT) oT) ?_
  rw [hwo]
  refine AX.sR (rgWV [1, 3, 4, 5, 15, 16] (aI @hwl (aI @hwg (aI @bl_zero (aI @bl_length oT)))) oT) ?_
  rw [hb0]
  refine AX.sR (rgAV [1, 3, 4, 5, 6, 15, 16]) ?_
  refine AX.weaken id (st' := ⟨[(16, .i .i64 i), (15, .i .i64 n), (6, .b true), (5, .i .i64 i), (4, .own 1 0 n 1), (3, .i .i64 n), (1, .ptr 0 0)], [(2, ⟨4, bl n f1⟩), (1, ⟨78, W1⟩), (0, ⟨36, [.i .i64 n, .i .i64 n, .sl Ac, .i .i64 n, .i .i64 m, .sl Bc]⟩)], 3⟩)
   (leQ8H hlt3)
   ?_
  refine AX.block ?_
  refine AX.loop (fun N st => ∃ (f : Nat → Bool) (more : Bool), N = 2 * cntF n f + (if more = true then 1 else 0) ∧ FndT n A i f ∧ (more = false → ∀ a b, a < n → b < n → f a = true → 0 < A a b → f b = true) ∧ st = ⟨[(16, .i .i64 i), (15, .i .i64 n), (6, .b more), (5, .i .i64 i), (4, .own 1 0 n 1), (3, .i .i64 n), (1, .ptr 0 0)], [(2, ⟨4, bl n f⟩), (1, ⟨78, W1⟩), (0, ⟨36, [.i .i64 n, .i .i64 n, .sl Ac, .i .i64 n, .i .i64 m, .sl Bc]⟩)], 3⟩) (2 * cntF n f1 + 1) ⟨_, true, rfl, hone, (fun h => by cases h), rfl⟩ ?_
  clear hone hb0 f1
  rintro N st ⟨f0, more, rfl, hfd0, hcl0, rfl⟩
  cases more
  ·have hfin := hfd0.fin (hcl0 rfl)
   have hz := hfz f0 hfin
   refine AX.seq ?_
   refine AX.sR (rgAV [1, 3, 4, 5, 15, 16, 30]) ?_
   refine AX.condF (h := ?_)
   refine AX.exit ?_
   refine nmZ (h := ?_)
   refine AX.fz 2 (fr' := [(16, .i .i64 i), (15, .i .i64 n), (4, .own 1 0 n 1), (3, .i .i64 n), (1, .ptr 0 0)]) (hp' := [(1, ⟨78, wr 2 n (i + 1) false (toB n A)⟩), (0, ⟨36, [.i .i64 n, .i .i64 n, .sl Ac, .i .i64 n, .i .i64 m, .sl Bc]⟩)]) rfl (bl_hf n f0).1 (.cons rfl .same (.cons rfl .same (.cons rfl .same (.cons rfl .same (.cons rfl .same .nil))))) (.cons (by decide) rfl rfl (by rw [wr_length]; exact hwl.symm) hz (.keep (by decide) rfl .nil)) ?_
   clear hz hfz
   have hlt2 : V.ltL 2 (wr 2 n (i + 1) false (toB n A)) = true := ltL_gl fun j => by
    split
    ·simp only [V.lt]
    ·rw [if_neg (fun h => by cases h.2)]
     simp only [V.lt]
   refine AX.rR (rgWV [1, 3, 4, 15, 16] (aI @lit_add oT) oT) ?_
   refine nmZ (h := ?_)
   refine ⟨_, _, id, ?_,
    (leQ8H hlt2)
    , ⟨i + 1, by omega, rfl, rfl⟩⟩
   omega
  ·clear hfz
   refine AX.seq ?_
   refine AX.sR (rgAV [1, 3, 4, 5, 15, 16, 30]) ?_
   refine AX.condT (h := ?_)
   refine AX.keepA [1, 3, 4, 5, 15, 16] (h := ?_)
   refine AX.skip ?_
   refine nmZ (h := ?_)
   refine AX.block ?_
   refine AX.sR (rgAV [1, 3, 4, 5, 6, 15, 16]) ?_
   refine AX.sR (rgAV [1, 3, 4, 5, 6, 7, 15, 16]) ?_
   refine AX.weaken id (st' := ⟨[(16, .i .i64 i), (15, .i .i64 n), (7, .i .i64 (0 : Nat)), (6, .b false), (5, .i .i64 i), (4, .own 1 0 n 1), (3, .i .i64 n), (1, .ptr 0 0)], [(2, ⟨4, bl n f0⟩), (1, ⟨78, W1⟩), (0, ⟨36, [.i .i64 n, .i .i64 n, .sl Ac, .i .i64 n, .i .i64 m, .sl Bc]⟩)], 3⟩)
    (leQ8H hlt3)
    ?_
   refine AX.block ?_
   refine AX.loop (fun N st => ∃ (a : Nat) (f : Nat → Bool) (more : Bool), a ≤ n ∧ N = n - a ∧ FndT n A i f ∧ ((more = true ∧ cntF n f < cntF n f0) ∨ (more = false ∧ f = f0 ∧ ∀ a' b, a' < n → b < n → a' < a → f a' = true → 0 < A a' b → f b = true)) ∧ st = ⟨[(16, .i .i64 i), (15, .i .i64 n), (7, .i .i64 a), (6, .b more), (5, .i .i64 i), (4, .own 1 0 n 1), (3, .i .i64 n), (1, .ptr 0 0)], [(2, ⟨4, bl n f⟩), (1, ⟨78, W1⟩), (0, ⟨36, [.i .i64 n, .i .i64 n, .sl Ac, .i .i64 n, .i .i64 m, .sl Bc]⟩)], 3⟩) n ⟨0, f0, false, Nat.zero_le _, rfl, hfd0, .inr ⟨rfl, rfl, fun a b _ _ h => absurd h (Nat.not_lt_zero _)⟩, rfl⟩ ?_
   clear hcl0
   rintro N st ⟨a, f, more, ha, rfl, hfd, hP, rfl⟩
   refine AX.seq ?_
   by_cases h2 : a < n
   ·refine AX.sR (rgAV [1, 3, 4, 5, 6, 7, 15, 16, 33]) ?_
    refine AX.condT (h := ?_)
    refine AX.keepA [1, 3, 4, 5, 6, 7, 15, 16] (h := ?_)
    refine AX.skip ?_
    refine nmZ (h := ?_)
    refine AX.seq ?_
    refine AX.block ?_
    refine AX.sR (rgAV [1, 3, 4, 5, 6, 7, 8, 15, 16]) ?_
    refine AX.weaken id (st' := ⟨[(16, .i .i64 i), (15, .i .i64 n), (8, .i .i64 (0 : Nat)), (7, .i .i64 a), (6, .b more), (5, .i .i64 i), (4, .own 1 0 n 1), (3, .i .i64 n), (1, .ptr 0 0)], [(2, ⟨4, bl n f⟩), (1, ⟨78, W1⟩), (0, ⟨36, [.i .i64 n, .i .i64 n, .sl Ac, .i .i64 n, .i .i64 m, .sl Bc]⟩)], 3⟩)
     (leQ8H hlt3)
     ?_
    refine AX.block ?_
    refine AX.loop (fun N st => ∃ (b : Nat) (f : Nat → Bool) (more : Bool), b ≤ n ∧ N = n - b ∧ FndT n A i f ∧ ((more = true ∧ cntF n f < cntF n f0) ∨ (more = false ∧ f = f0 ∧ ∀ a' b', a' < n → b' < n → (a' < a ∨ a' = a ∧ b' < b) → f a' = true → 0 < A a' b' → f b' = true)) ∧ st = ⟨[(16, .i .i64 i), (15, .i .i64 n), (8, .i .i64 b), (7, .i .i64 a), (6, .b more), (5, .i .i64 i), (4, .own 1 0 n 1), (3, .i .i64 n), (1, .ptr 0 0)], [(2, ⟨4, bl n f⟩), (1, ⟨78, W1⟩), (0, ⟨36, [.i .i64 n, .i .i64 n, .sl Ac, .i .i64 n, .i .i64 m, .sl Bc]⟩)], 3⟩) n ⟨0, f, more, Nat.zero_le _, rfl, hfd, hP.imp id (fun h => ⟨h.1, h.2.1, fun a' b h1 h2 h3 => h.2.2 a' b h1 h2 (by omega)⟩), rfl⟩ ?_
    clear hfd hP more f
    rintro N st ⟨b, f, more, hb, rfl, hfd, hP, rfl⟩
    have hl := bl_length n f
    have hga := bl_get f h2
    refine AX.seq ?_
    cases hfa : f a
    ·rw [hfa] at hga
     have hs : (more = true ∧ cntF n f < cntF n f0) ∨ (more = false ∧ f = f0 ∧ ∀ a' b, a' < n → b < n → a' < a + 1 → f a' = true → 0 < A a' b → f b = true) := hP.imp id fun h => ⟨h.1, h.2.1, fun a' b' g1 g2 g3 g4 g5 => by
      by_cases e : a' = a
      ·subst e
       rw [hfa] at g4
       cases g4
      ·exact h.2.2 a' b' g1 g2 (by omega) g4 g5⟩
     refine AX.cut (fun st => Le 0 id ⟨[(47, .b false), (16, .i .i64 i), (15, .i .i64 n), (8, .i .i64 b), (7, .i .i64 a), (6, .b more), (5, .i .i64 i), (4, .own 1 0 n 1), (3, .i .i64 n), (1, .ptr 0 0)], [(2, ⟨4, bl n f⟩), (1, ⟨78, W1⟩), (0, ⟨36, [.i .i64 n, .i .i64 n, .sl Ac, .i .i64 n, .i .i64 m, .sl Bc]⟩)], 3⟩ st) ?_ ?_
     ·by_cases h3 : b < n
      ·refine AX.rR (rgWV [1, 3, 4, 5, 6, 7, 8, 15, 16, 47] (aI @hwl (aI @hwg (aI @hl (aI @hga oT)))) oT) ?_
       exact ⟨by first | exact trivial | rfl,
        (leQ8H hlt3)
        ⟩
      ·refine AX.rR (rgWV [1, 3, 4, 5, 6, 7, 8, 15, 16, 47] (aI @hwl (aI @hwg (aI @hl (aI @hga oT)))) oT) ?_
       exact ⟨by first | exact trivial | rfl,
        (leQ8H hlt3)
        ⟩
     rintro st hle
     refine AX.weaken id hle ?_
     refine AX.condF (h := ?_)
     refine AX.exit ?_
     refine nmZ (h := ?_)
     refine AX.rR (rgWV [1, 3, 4, 5, 6, 7, 15, 16] (aI @lit_add oT) oT) ?_
     refine nmZ (h := ?_)
     refine ⟨_, _, id, ?_,
      (leQ8H hlt3)
      , ⟨a + 1, f, more, by omega, rfl, hfd, hs, rfl⟩⟩
     omega
    rw [hfa] at hga
    by_cases h3 : b < n
    ·have hgb := bl_get f h3
     have hc := cs a b h2 h3
     have ix := ixA a b h2 h3
     have m1 : (a : Int) * (n : Int) = ((a * n : Nat) : Int) := (Int.natCast_mul a n).symm
     have a1 : ((a * n : Nat) : Int) + (b : Int) = ((a * n + b : Nat) : Int) := (Int.natCast_add _ _).symm
     have b1 : a * n ≤ 60 * 60 := Nat.mul_le_mul (by omega) hn
     have hsp := sgnR_pos (q := A a b)
     have same : (f b = false → ¬ 0 < A a b) → ((more = true ∧ cntF n f < cntF n f0) ∨ (more = false ∧ f = f0 ∧ ∀ a' b', a' < n → b' < n → (a' < a ∨ a' = a ∧ b' < b + 1) → f a' = true → 0 < A a' b' → f b' = true)) := fun hno => hP.imp id fun h => ⟨h.1, h.2.1, fun a' b' g1 g2 g3 g4 g5 => by
      by_cases e : a' = a ∧ b' = b
      ·obtain ⟨rfl, rfl⟩ := e
       cases hfb : f b'
       ·exact absurd g5 (hno hfb)
       ·rfl
      ·exact h.2.2 a' b' g1 g2 (by omega) g4 g5⟩
     clear cs ixA
     refine AX.sR (rgWV [1, 3, 4, 5, 6, 7, 8, 15, 16, 47] (aI @hwl (aI @hwg (aI @hl (aI @hga oT)))) oT) ?_
     refine AX.condT (h := ?_)
     refine AX.keepA [1, 3, 4, 5, 6, 7, 8, 15, 16] (h := ?_)
     refine AX.skip ?_
     refine nmZ (h := ?_)
     refine AX.seq ?_
     refine AX.block ?_
     cases hfb : f b
     ·rw [hfb] at hgb
      by_cases hz : 0 < A a b
      ·have hs := hsp.2 hz
       have hset := bl_set f true h3
       have hcnt := cntF_upd (n := n) h3 hfb
       have hfd' := hfd.more h2 hfa h3 hz
       have hcnt' : cntF n (updB f b true) < cntF n f0 := by
        rcases hP with h | h
        ·omega
        ·rw [← h.2.1]; omega
       clear same hP
       generalize updB f b true = f2 at *
       generalize sgnR (A a b) = sg at *
       generalize A a b = p at *
       generalize a * n + b = z at *
       generalize a * n = x1 at *
       refine AX.sR (rgEV [1, 3, 4, 5, 6, 7, 8, 15, 16, 71] (aI @hwl (aI @hwg (aI @hl (aI @hgb (aI @m1 (aI @a1 oT)))))) (aI hc oT) (aI ix oT)) ?_
       refine AX.condT (h := ?_)
       refine AX.sR (rgWV [1, 3, 4, 5, 7, 8, 15, 16] (aI @hwl (aI @hwg (aI @hl oT))) oT) ?_
       rw [hset]
       refine AX.rR (rgAV [1, 3, 4, 5, 6, 7, 8, 15, 16]) ?_
       refine nmZ (h := ?_)
       refine AX.rR (rgWV [1, 3, 4, 5, 6, 7, 8, 15, 16] (aI @lit_add oT) oT) ?_
       refine nmZ (h := ?_)
       refine ⟨_, _, id, ?_,
        (leQ8H hlt3)
        , ⟨b + 1, f2, true, by omega, rfl, hfd', .inl ⟨rfl, hcnt'⟩, rfl⟩⟩
       omega
      ·have hs : ¬ 0 < sgnR (A a b) := fun h => hz (hsp.1 h)
       have hP' := same fun _ => hz
       clear same hP
       generalize sgnR (A a b) = sg at *
       generalize A a b = p at *
       generalize a * n + b = z at *
       generalize a * n = x1 at *
       refine AX.sR (rgEV [1, 3, 4, 5, 6, 7, 8, 15, 16, 71] (aI @hwl (aI @hwg (aI @hl (aI @hgb (aI @m1 (aI @a1 oT)))))) (aI hc oT) (aI ix oT)) ?_
       refine AX.condF (h := ?_)
       refine AX.keepA [1, 3, 4, 5, 6, 7, 8, 15, 16] (h := ?_)
       refine AX.skip ?_
       refine nmZ (h := ?_)
       refine AX.rR (rgWV [1, 3, 4, 5, 6, 7, 8, 15, 16] (aI @lit_add oT) oT) ?_
       refine nmZ (h := ?_)
       refine ⟨_, _, id, ?_,
        (leQ8H hlt3)
        , ⟨b + 1, f, more, by omega, rfl, hfd, hP', rfl⟩⟩
       omega
     ·rw [hfb] at hgb
      have hP' := same fun h => by rw [hfb] at h; cases h
      refine AX.sR (rgWV [1, 3, 4, 5, 6, 7, 8, 15, 16, 71] (aI @hwl (aI @hwg (aI @hl (aI @hgb oT)))) oT) ?_
      refine AX.condF (h := ?_)
      refine AX.keepA [1, 3, 4, 5, 6, 7, 8, 15, 16] (h := ?_)
      refine AX.skip ?_
      refine nmZ (h := ?_)
      refine AX.rR (rgWV [1, 3, 4, 5, 6, 7, 8, 15, 16] (aI @lit_add oT) oT) ?_
      refine nmZ (h := ?_)
      refine ⟨_, _, id, ?_,
       (leQ8H hlt3)
       , ⟨b + 1, f, more, by omega, rfl, hfd, hP', rfl⟩⟩
      omega
    ·have hs : (more = true ∧ cntF n f < cntF n f0) ∨ (more = false ∧ f = f0 ∧ ∀ a' b, a' < n → b < n → a' < a + 1 → f a' = true → 0 < A a' b → f b = true) := hP.imp id fun h => ⟨h.1, h.2.1, fun a' b' g1 g2 g3 g4 g5 => h.2.2 a' b' g1 g2 (by omega) g4 g5⟩
     refine AX.sR (rgWV [1, 3, 4, 5, 6, 7, 8, 15, 16, 47] (aI @hwl (aI @hwg (aI @hl (aI @hga oT)))) oT) ?_
     refine AX.condF (h := ?_)
     refine AX.exit ?_
     refine nmZ (h := ?_)
     refine AX.rR (rgWV [1, 3, 4, 5, 6, 7, 15, 16] (aI @lit_add oT) oT) ?_
     refine nmZ (h := ?_)
     refine ⟨_, _, id, ?_,
      (leQ8H hlt3)
      , ⟨a + 1, f, more, by omega, rfl, hfd, hs, rfl⟩⟩
     omega
   ·refine AX.sR (rgAV [1, 3, 4, 5, 6, 7, 15, 16, 33]) ?_
    refine AX.condF (h := ?_)
    refine AX.exit ?_
    refine nmZ (h := ?_)
    refine ⟨2 * cntF n f + (if more = true then 1 else 0), _, id, ?_,
     (leQ8H hlt3)
     , ⟨f, more, rfl, hfd, (fun hm' => by
       rcases hP with h | h
       ·rw [h.1] at hm'; cases hm'
       ·exact fun a b ha hb => h.2.2 a b ha hb (by omega)), rfl⟩⟩
    rcases hP with h | h
    ·rw [h.1, if_pos rfl]
     omega
    ·rw [h.1, h.2.1]
     simp
 ·have e : i = n := by omega
  subst e
  rw [wr_full]
  refine AX.sR (rgAV [1, 3, 4, 15, 16, 17]) ?_
  refine AX.seq ?_
  refine AX.condF (h := ?_)
  refine AX.exit ?_
  refine nmZ (h := ?_)
  refine AX.sR (rgAV [2]) ?_
  refine AX.ret ⟨.inl rfl, ?_⟩
  exact Done.slW rfl rfl
end Go.Proofs.YtepkjfnffbdcoaaGreat
