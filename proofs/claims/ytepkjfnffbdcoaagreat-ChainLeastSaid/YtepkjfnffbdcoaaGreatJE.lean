/- Chains: Ways. -/
import Derived.Test.YtepkjfnffbdcoaaGreatJH
import Derived.Test.YtepkjfnffbdcoaaGreatJB
set_option linter.unusedVariables false
set_option maxRecDepth 20000
set_option linter.unusedSimpArgs false
namespace Go.Proofs.YtepkjfnffbdcoaaGreat
open Go Go.Proofs.YtepkjfnffbdcoaaGreat.Lift
attribute [local irreducible] Lift.PCall Lift.HCall
theorem cntF_le (n : Nat) (f : Nat → Bool) : cntF n f ≤ n := by
 induction n with
 | zero => exact Nat.le_refl _
 | succ n ih =>
  unfold cntF
  split <;> omega
set_option maxHeartbeats 16000000 in
theorem cways_ok (n : Nat) (hn : n ≤ 60) (A : Mx) (hA0 : ∀ i k, i < n → k < n → 0 ≤ A i k) :
  PCall Tryz.prog 97 [.agg [.i .i64 n, .i .i64 n, .sl ((mcells n A (n * n)).map rV)]] (.sl (bll n (toB n A))) [] := by
 refine PCall.of_ax Tryz.call97 Tryz.func97 rfl (by simp [Tryz.ntmps97]) fun O w => ?_
 simp only [Tryz.ntmps97, Tryz.results97, argFr]
 have hcA := fun (i k : Nat) (hi : i < n) (hk : k < n) => ccell_q hn hn A hi hk
 generalize (mcells n A (n * n)).map rV = Ac at *
 refine AX.sR (rgAV [1]) ?_
 refine AX.sR (rgAV [1, 3]) ?_
 refine AX.seq ?_
 refine AX.sR (rgAV [1, 3, 12, 13]) ?_
 refine AX.weaken id (st' := ⟨[(13, .i .i64 (0 : Nat)), (12, .i .i64 n), (3, .own 1 0 n 1), (1, .ptr 0 0)], [(1, ⟨78, wr 2 n 0 false (toB n A)⟩), (0, ⟨24, [.i .i64 n, .i .i64 n, .sl Ac]⟩)], 2⟩)
  (leQ8H wr_zero)
  ?_
 refine AX.block ?_
 refine AX.loop (fun N st => ∃ i : Nat, i ≤ n ∧ N = n - i ∧ st = ⟨[(13, .i .i64 i), (12, .i .i64 n), (3, .own 1 0 n 1), (1, .ptr 0 0)], [(1, ⟨78, wr 2 n i false (toB n A)⟩), (0, ⟨24, [.i .i64 n, .i .i64 n, .sl Ac]⟩)], 2⟩) n ⟨0, Nat.zero_le _, rfl, rfl⟩ ?_
 rintro N st ⟨i, hi, rfl, rfl⟩
 by_cases h1 : i < n
 ·have hwl1 := wr_length 2 n i false (toB n A)
  have hwo := wr_open (h := 2) (toB n A) h1
  have hwl := wr_length 2 n i true (toB n A)
  have hwg := wr_get (h := 2) (toB n A) h1
  have hone := FndT.one (A := A) h1
  have hb0 := bl_set (fun _ => false) true h1
  have hc1 : cntF n (updB (fun _ => false) i true) + 1 ≤ n := by
   have := cntF_upd (n := n) (f := fun _ => false) h1 rfl
   have := cntF_le n fun _ => false
   omega
  have hfz := fun (f : Nat → Bool) (hf : ∀ k, k < n → f k = toB n A i k) => wr_fz (h := 2) hf
  obtain ⟨f1, hf1⟩ : ∃ f1, updB (fun _ => false) i true = f1 := ⟨_, rfl⟩
  have hf1i : f1 i = true := by rw [← hf1]; exact hone.self
  have hf1x : ∀ a, f1 a = true → a = i := fun a h => by
   rw [← hf1] at h
   unfold updB at h
   split at h
   ·assumption
   ·cases h
  rw [hf1] at hone hb0 hc1
  have hil : il [i] = [.i .i64 (i : Int)] := rfl
  refine AX.sR (rgAV [1, 3, 12, 13, 14]) ?_
  refine AX.seq ?_
  refine AX.condT ?_
  refine AX.keepA [1, 3, 12, 13] ?_
  refine AX.skip ?_
  refine nmZ ?_
  refine AX.seq ?_
  refine AX.block ?_
  refine AX.sR (rgAV [1, 3, 4, 12, 13]) ?_
  refine AX.sR (rgWV [1, 3, 4, 12, 13] (aI @hwl1 oT) oT) ?_
  rw [hwo]
  refine AX.sR (rgWV [1, 3, 4, 12, 13] (aI @hwl (aI @hwg (aI @bl_zero (aI @bl_length oT)))) oT) ?_
  rw [hb0]
  refine AX.sR (rgWV [1, 3, 4, 5, 12, 13] (aI @zerosV_1 (aI @tkS (aI @tk0 oT))) oT) ?_
  refine AX.weaken id (st' := ⟨[(13, .i .i64 i), (12, .i .i64 n), (5, .own 3 0 [i].length 1), (4, .i .i64 i), (3, .own 1 0 n 1), (1, .ptr 0 0)], [(3, ⟨3, il [i]⟩), (2, ⟨4, bl n f1⟩), (1, ⟨78, wr 2 n i true (toB n A)⟩), (0, ⟨24, [.i .i64 n, .i .i64 n, .sl Ac]⟩)], 4⟩)
   (leQ8H hil)
   ?_
  refine AX.block ?_
  refine AX.loop (fun N st => ∃ (f : Nat → Bool) (l : List Nat), N = 2 * cntF n f + l.length ∧ FndT n A i f ∧ (∀ x ∈ l, x < n ∧ f x = true) ∧ (∀ a, a < n → f a = true → a ∈ l ∨ ∀ b, b < n → 0 < A a b → f b = true) ∧ l.length + cntF n f ≤ n ∧ st = ⟨[(13, .i .i64 i), (12, .i .i64 n), (5, .own 3 0 l.length 1), (4, .i .i64 i), (3, .own 1 0 n 1), (1, .ptr 0 0)], [(3, ⟨3, il l⟩), (2, ⟨4, bl n f⟩), (1, ⟨78, wr 2 n i true (toB n A)⟩), (0, ⟨24, [.i .i64 n, .i .i64 n, .sl Ac]⟩)], 4⟩) (2 * cntF n f1 + 1) ⟨_, [i], rfl, hone, (fun x hx => by rw [List.mem_singleton.1 hx]; exact ⟨h1, hf1i⟩), (fun a _ h => .inl (by rw [hf1x a h]; exact List.mem_singleton.2 rfl)), (by show 1 + _ ≤ n; omega), rfl⟩ ?_
  clear hone hb0 hc1 hf1i hf1x hil hf1 f1 hwo hwl1
  rintro N st ⟨f0, l0, rfl, hfd0, hm0, hx0, hc0, rfl⟩
  have hll := il_length l0
  refine AX.seq ?_
  rcases List.eq_nil_or_concat l0 with rfl | ⟨l, a, rfl⟩
  ·have hfin := hfd0.fin fun a b ha hb hfa hab => (hx0 a ha hfa).elim (fun h => nomatch h) (fun h => h b hb hab)
   have hz := hfz f0 hfin
   refine AX.sR (rgAV [1, 3, 4, 5, 12, 13, 32]) ?_
   refine AX.condF ?_
   refine AX.exit ?_
   refine nmZ ?_
   refine AX.fz 2 (fr' := [(13, .i .i64 i), (12, .i .i64 n), (3, .own 1 0 n 1), (1, .ptr 0 0)]) (hp' := [(1, ⟨78, wr 2 n (i + 1) false (toB n A)⟩), (0, ⟨24, [.i .i64 n, .i .i64 n, .sl Ac]⟩)]) rfl (bl_hf n f0).1 (.cons rfl .same (.cons rfl .same (.cons rfl .same (.cons rfl .same .nil)))) (.cons (by decide) rfl rfl (by rw [wr_length]; exact hwl.symm) hz (.keep (by decide) rfl .nil)) ?_
   clear hz hfz
   have hlt2 : V.ltL 2 (wr 2 n (i + 1) false (toB n A)) = true := ltL_gl fun j => by
    split
    ·simp only [V.lt]
    ·rw [if_neg (fun h => by cases h.2)]
     simp only [V.lt]
   refine AX.rR (rgWV [1, 3, 12, 13] (aI @lit_add oT) oT) ?_
   refine nmZ ?_
   refine ⟨_, _, id, ?_,
    (leQ8H hlt2)
    , ⟨i + 1, by omega, rfl, rfl⟩⟩
   omega
  ·clear hfz
   rw [List.concat_eq_append] at *
   have hal : (l ++ [a]).length = l.length + 1 := by simp
   obtain ⟨ha, hfa⟩ := hm0 a (by simp)
   have hga : (il (l ++ [a])).getD l.length .junk = .i .i64 (a : Int) := by
    rw [il_get (by rw [hal]; omega)]
    simp [List.getD_eq_getElem?_getD]
   have htk : (il (l ++ [a])).take l.length = il l := by
    unfold il
    rw [← List.map_take, List.take_left]
   have hlb : l.length ≤ 60 := by omega
   have hm1 : ∀ x ∈ l, x < n ∧ f0 x = true := fun x hx => hm0 x (by simp [hx])
   have hx1 : ∀ a', a' < n → f0 a' = true → a' ∈ l ∨ (a' = a ∧ ∀ b, b < 0 → 0 < A a' b → f0 b = true) ∨ ∀ b, b < n → 0 < A a' b → f0 b = true := fun a' h1 h2 => by
    rcases hx0 a' h1 h2 with h | h
    ·rcases List.mem_append.1 h with h | h
     ·exact .inl h
     ·exact .inr (.inl ⟨List.mem_singleton.1 h, fun b hb => absurd hb (Nat.not_lt_zero _)⟩)
    ·exact .inr (.inr h)
   have hpre : ((l.length + 1 : Nat) : Int) - 1 = (l.length : Int) := by omega
   clear hx0 hm0
   rw [hal] at hll hc0 ⊢
   obtain ⟨R, hR⟩ : ∃ R, il (l ++ [a]) = R := ⟨_, rfl⟩
   rw [hR] at hll hga htk ⊢
   refine AX.sR (rgAV [1, 3, 4, 5, 12, 13, 32]) ?_
   refine AX.condT ?_
   refine AX.keepA [1, 3, 4, 5, 12, 13] ?_
   refine AX.skip ?_
   refine nmZ ?_
   refine AX.block ?_
   refine AX.sR (rgWV [1, 3, 4, 5, 6, 12, 13] (aI @hpre (aI @hll (aI @hga oT))) oT) ?_
   refine AX.sR (rgWV [1, 3, 4, 5, 6, 12, 13] (aI @hpre (aI @hll oT)) oT) ?_
   refine AX.short 3 l.length rfl htk ?_
   refine AX.sR (rgAV [1, 3, 4, 5, 6, 12, 13, 45, 46]) ?_
   refine AX.weaken id (st' := ⟨[(46, .i .i64 (0 : Nat)), (45, .i .i64 n), (13, .i .i64 i), (12, .i .i64 n), (6, .i .i64 a), (5, .own 3 0 l.length 1), (4, .i .i64 i), (3, .own 1 0 n 1), (1, .ptr 0 0)], [(3, ⟨3, il l⟩), (2, ⟨4, bl n f0⟩), (1, ⟨78, wr 2 n i true (toB n A)⟩), (0, ⟨24, [.i .i64 n, .i .i64 n, .sl Ac]⟩)], 4⟩)
    leQ8
    ?_
   refine AX.block ?_
   refine AX.loop (fun N st => ∃ (k : Nat) (f : Nat → Bool) (l' : List Nat), k ≤ n ∧ N = n - k ∧ FndT n A i f ∧ f a = true ∧ (∀ x ∈ l', x < n ∧ f x = true) ∧ (∀ a', a' < n → f a' = true → a' ∈ l' ∨ (a' = a ∧ ∀ b, b < k → 0 < A a' b → f b = true) ∨ ∀ b, b < n → 0 < A a' b → f b = true) ∧ l'.length + cntF n f ≤ n ∧ 2 * cntF n f + l'.length ≤ 2 * cntF n f0 + l.length ∧ st = ⟨[(46, .i .i64 k), (45, .i .i64 n), (13, .i .i64 i), (12, .i .i64 n), (6, .i .i64 a), (5, .own 3 0 l'.length 1), (4, .i .i64 i), (3, .own 1 0 n 1), (1, .ptr 0 0)], [(3, ⟨3, il l'⟩), (2, ⟨4, bl n f⟩), (1, ⟨78, wr 2 n i true (toB n A)⟩), (0, ⟨24, [.i .i64 n, .i .i64 n, .sl Ac]⟩)], 4⟩) n ⟨0, f0, l, Nat.zero_le _, rfl, hfd0, hfa, hm1, hx1, by omega, Nat.le_refl _, rfl⟩ ?_
   clear hm1 hx1 hga htk hll hR R
   rintro N st ⟨k, f, l', hk, rfl, hfd, hfa', hm, hx, hc, hN, rfl⟩
   have hll := il_length l'
   have hl := bl_length n f
   by_cases h2 : k < n
   ·have hgk := bl_get f h2
    have hce := hcA a k ha h2
    have nz := num0 (q := A a k)
    have hpos := hA0 a k ha h2
    have same : (f k = false → ¬ 0 < A a k) → ∀ a', a' < n → f a' = true → a' ∈ l' ∨ (a' = a ∧ ∀ b, b < k + 1 → 0 < A a' b → f b = true) ∨ ∀ b, b < n → 0 < A a' b → f b = true := fun hno a' g1 g2 => by
     rcases hx a' g1 g2 with h | ⟨h, h'⟩ | h
     ·exact .inl h
     ·refine .inr (.inl ⟨h, fun b hb hab => ?_⟩)
      by_cases e : b = k
      ·subst e
       cases hfb : f b
       ·rw [h] at hab
        exact absurd hab (hno hfb)
       ·rfl
      ·exact h' b (by omega) hab
     ·exact .inr (.inr h)
    cases hfk : f k
    ·rw [hfk] at hgk
     by_cases hz : 0 < A a k
     ·have ez : 0 < (digits (A a k).num.natAbs).length := Nat.pos_of_ne_zero fun e => by
       rw [nz.1 e] at hz
       exact absurd hz (by decide)
      have hset := bl_set f true h2
      have hcnt := cntF_upd (n := n) h2 hfk
      have hfd' := hfd.more ha hfa' h2 hz
      have hup : ∀ x, f x = true → updB f k true x = true := fun x h => by
       unfold updB
       split
       ·rfl
       ·exact h
      have hkk : updB f k true k = true := if_pos rfl
      have hm' : ∀ x ∈ l' ++ [k], x < n ∧ updB f k true x = true := fun x h => by
       rcases List.mem_append.1 h with h | h
       ·exact ⟨(hm x h).1, hup x (hm x h).2⟩
       ·rw [List.mem_singleton.1 h]
        exact ⟨h2, hkk⟩
      have hx' : ∀ a', a' < n → updB f k true a' = true → a' ∈ l' ++ [k] ∨ (a' = a ∧ ∀ b, b < k + 1 → 0 < A a' b → updB f k true b = true) ∨ ∀ b, b < n → 0 < A a' b → updB f k true b = true := fun a' g1 g2 => by
       by_cases e : a' = k
       ·exact .inl (by simp [e])
       ·have g3 : f a' = true := by unfold updB at g2; rwa [if_neg e] at g2
        rcases hx a' g1 g3 with h | ⟨h, h'⟩ | h
        ·exact .inl (by simp [h])
        ·refine .inr (.inl ⟨h, fun b hb hab => ?_⟩)
         by_cases e : b = k
         ·rw [e]; exact hkk
         ·exact hup b (h' b (by omega) hab)
        ·exact .inr (.inr fun b hb hab => hup b (h b hb hab))
      have happ := il_app l' k
      have hlen : (l' ++ [k]).length = l'.length + 1 := by simp
      have hfa2 := hup a hfa'
      have hl'b : l'.length ≤ 60 := by omega
      clear same hx hm hcA hup hkk
      generalize updB f k true = f2 at *
      generalize A a k = p at *
      generalize l' ++ [k] = l2 at *
      refine AX.sR (rgAV [1, 3, 4, 5, 6, 12, 13, 45, 46, 47]) ?_
      refine AX.seq ?_
      refine AX.condT ?_
      refine AX.keepA [1, 3, 4, 5, 6, 12, 13, 45, 46] ?_
      refine AX.skip ?_
      refine nmZ ?_
      refine AX.seq ?_
      refine AX.block ?_
      refine AX.sR (rgAV [1, 3, 4, 5, 6, 7, 12, 13, 45, 46]) ?_
      refine AX.sR (rgWV [1, 3, 4, 5, 6, 7, 12, 13, 45, 46, 65] (aI @hwl (aI @hwg (aI @hl (aI @hgk oT)))) (aI hce oT)) ?_
      refine AX.condT ?_
      refine AX.sR (rgWV [1, 3, 4, 5, 6, 7, 12, 13, 45, 46] (aI @hwl (aI @hwg (aI @hl oT))) oT) ?_
      rw [hset]
      refine AX.rR (rgWV [1, 3, 4, 5, 6, 12, 13, 45, 46] (aI @hll (aI @zerosV_1 (aI @tkS (aI @tk0 oT)))) oT) ?_
      refine nmZ ?_
      rw [happ]
      refine AX.rR (rgWV [1, 3, 4, 5, 6, 12, 13, 45, 46] (aI @lit_add oT) oT) ?_
      refine nmZ ?_
      refine ⟨_, _, fun n => if n = 3 then 5 else n, ?_,
       (leQ8H hlen)
       , ⟨k + 1, f2, l2, by omega, rfl, hfd', hfa2, hm', hx', by omega, by omega, rfl⟩⟩
      omega
     ·have ez0 : A a k = 0 := by
       rcases Rat.le_iff_lt_or_eq.1 hpos with h | h
       ·exact absurd h hz
       ·exact h.symm
      have ez := nz.2 ez0
      have hs := same fun _ => hz
      clear same hx hcA hpos
      generalize A a k = p at *
      refine AX.sR (rgAV [1, 3, 4, 5, 6, 12, 13, 45, 46, 47]) ?_
      refine AX.seq ?_
      refine AX.condT ?_
      refine AX.keepA [1, 3, 4, 5, 6, 12, 13, 45, 46] ?_
      refine AX.skip ?_
      refine nmZ ?_
      refine AX.seq ?_
      refine AX.block ?_
      refine AX.sR (rgAV [1, 3, 4, 5, 6, 7, 12, 13, 45, 46]) ?_
      refine AX.sR (rgWV [1, 3, 4, 5, 6, 7, 12, 13, 45, 46, 65] (aI @hwl (aI @hwg (aI @hl (aI @hgk (aI @ez oT))))) (aI hce oT)) ?_
      refine AX.condF ?_
      refine AX.keepA [1, 3, 4, 5, 6, 12, 13, 45, 46] ?_
      refine AX.skip ?_
      refine nmZ ?_
      refine AX.rR (rgWV [1, 3, 4, 5, 6, 12, 13, 45, 46] (aI @lit_add oT) oT) ?_
      refine nmZ ?_
      refine ⟨_, _, id, ?_,
       leQ8
       , ⟨k + 1, f, l', by omega, rfl, hfd, hfa', hm, hs, hc, hN, rfl⟩⟩
      omega
    ·rw [hfk] at hgk
     have hs := same fun h => by rw [hfk] at h; cases h
     clear same hx hcA
     refine AX.sR (rgAV [1, 3, 4, 5, 6, 12, 13, 45, 46, 47]) ?_
     refine AX.seq ?_
     refine AX.condT ?_
     refine AX.keepA [1, 3, 4, 5, 6, 12, 13, 45, 46] ?_
     refine AX.skip ?_
     refine nmZ ?_
     refine AX.seq ?_
     refine AX.block ?_
     refine AX.sR (rgAV [1, 3, 4, 5, 6, 7, 12, 13, 45, 46]) ?_
     refine AX.sR (rgWV [1, 3, 4, 5, 6, 7, 12, 13, 45, 46, 65] (aI @hwl (aI @hwg (aI @hl (aI @hgk oT)))) oT) ?_
     refine AX.condF ?_
     refine AX.keepA [1, 3, 4, 5, 6, 12, 13, 45, 46] ?_
     refine AX.skip ?_
     refine nmZ ?_
     refine AX.rR (rgWV [1, 3, 4, 5, 6, 12, 13, 45, 46] (aI @lit_add oT) oT) ?_
     refine nmZ ?_
     refine ⟨_, _, id, ?_,
      leQ8
      , ⟨k + 1, f, l', by omega, rfl, hfd, hfa', hm, hs, hc, hN, rfl⟩⟩
     omega
   ·have e : k = n := by omega
    subst e
    refine AX.sR (rgAV [1, 3, 4, 5, 6, 12, 13, 45, 46, 47]) ?_
    refine AX.seq ?_
    refine AX.condF ?_
    refine AX.exit ?_
    refine nmZ ?_
    refine ⟨2 * cntF k f + l'.length, _, id, ?_,
     leQ8
     , ⟨f, l', rfl, hfd, hm, (fun a' g1 g2 => by
       rcases hx a' g1 g2 with h | ⟨h, h'⟩ | h
       ·exact .inl h
       ·exact .inr h'
       ·exact .inr h), hc, rfl⟩⟩
    omega
 ·have e : i = n := by omega
  subst e
  rw [wr_full]
  refine AX.sR (rgAV [1, 3, 12, 13, 14]) ?_
  refine AX.seq ?_
  refine AX.condF ?_
  refine AX.exit ?_
  refine nmZ ?_
  refine AX.sR (rgAV [2]) ?_
  refine AX.ret ⟨.inl rfl, ?_⟩
  exact Done.slW rfl rfl
end Go.Proofs.YtepkjfnffbdcoaaGreat
/- Chains: closed classes; Shut, Closed. -/
set_option linter.unusedVariables false
set_option linter.unusedSimpArgs false
namespace Go.Proofs.YtepkjfnffbdcoaaGreat
open Go Go.Proofs.YtepkjfnffbdcoaaGreat.Lift
attribute [local irreducible] Lift.PCall Lift.HCall
def sll (L : List (List Nat)) : List V := L.map fun l => .sl (il l)
theorem sll_length (L : List (List Nat)) : (sll L).length = L.length := List.length_map ..
theorem sll_hf (L : List (List Nat)) : V.hfL (sll L) = true ∧ (sll L).all V.flat = true := hfL_map _ (fun l => ⟨by simp only [V.hf], rfl⟩) L
theorem ren_sl (f : Nat → Nat) (L : List (List Nat)) : V.renL f (sll L) = sll L := (hf_names f 0 _ (sll_hf L).1).1
theorem lt_sl (k : Nat) (L : List (List Nat)) : V.ltL k (sll L) = true := (hf_names id k _ (sll_hf L).1).2
theorem sll_get {L : List (List Nat)} {j : Nat} (h : j < L.length) : (sll L).getD j .junk = .sl (il (L.getD j [])) := by
 simp [sll, List.getD_eq_getElem?_getD, h]
theorem okFrz_il (l : List Nat) : okFrz 0 l.length 1 (il l) = true := by
 unfold okFrz
 have e : ((il l).drop 0).take (l.length * 1) = il l := by rw [List.drop_zero, Nat.mul_one, ← il_length]; exact List.take_length
 rw [e, (il_hf l).1, (il_hf l).2, il_length]
 simp
theorem chunks_il (l : List Nat) : chunks 1 l.length (((il l).drop 0).take (l.length * 1)) = il l := by
 rw [chunks_one, List.drop_zero, Nat.mul_one, ← il_length]
 exact List.take_length
theorem sll_fz {h : Nat} (L : List (List Nat)) (l : List Nat) : ∀ k, k < (sll (L ++ [l])).length → FzV h (il l) ((sll L ++ [V.own h 0 l.length 1]).getD k .junk) ((sll (L ++ [l])).getD k .junk) := by
 intro k hk
 have e : sll (L ++ [l]) = sll L ++ [V.sl (il l)] := by simp [sll]
 rw [e] at hk ⊢
 rw [List.length_append, List.length_singleton] at hk
 by_cases h1 : k < (sll L).length
 ·rw [List.getD_eq_getElem?_getD, List.getD_eq_getElem?_getD, List.getElem?_append_left h1, List.getElem?_append_left h1]
  exact .same
 ·have h2 : k = (sll L).length := by omega
  subst h2
  simp only [List.getD_eq_getElem?_getD, List.getElem?_append_right (Nat.le_refl _), Nat.sub_self, List.getElem?_cons_zero, Option.getD_some]
  exact .own (okFrz_il l) (chunks_il l)
theorem Lift.Done.slS {P : Program} {st : St} {t : Tmp} {h n : Nat} {L : List (List Nat)} {T : TypeId} (h1 : lkp st.fr t = some (.own h 0 n 1)) (h2 : lkp st.hp h = some ⟨T, sll L⟩) (hn : n = L.length) : Done P #[.tmp t] (.sl (sll L)) [] st := by
 subst hn
 have e : List.take L.length (List.drop 0 (sll L)) = sll L := by rw [List.drop_zero, ← sll_length, List.take_length]
 refine Done.of (vs := [.own h 0 L.length 1]) (hp := dlt st.hp h) ?_ ?_ rfl ?_ ?_
 ·simp only [resVs, resV, h1]
 ·simp only [packV, frz, h2, List.not_mem_nil, if_false, Nat.mul_one, Nat.zero_add, sll_length, Nat.le_refl, e, (sll_hf L).1, (sll_hf L).2, and_self, if_true, Nat.lt_succ_self, Nat.zero_lt_one, true_and, chunks_one]
 ·simp only [V.lt]
 ·simp only [V.ren]
theorem lay_ints : lay Tryz.prog 58 = some ⟨1, false, 24, [.nl]⟩ := by kernel_rfl
attribute [go_sem] Tryz.underlying56 lay_ints
theorem leQ9 {g : Nat} {f : Nat → Nat} {st' st : St} (h1 : LeFr f st.fr st'.nx st'.fr := by simp only [ren_q, renL_u, ren_z, ren_bl, ren_il, renL_id, ren_id, ren_wr, ren_wr0, ren_sl, lt_q, ltL_u, lt_z, lt_bl, lt_il, lt_wr, lt_wr0, lt_sl, LeFr, LeHp, lkp, V.ren, V.renL, Row.ren, V.lt, V.ltL, renL_u, ltL_u, List.length_append, List.length_cons, List.length_nil, List.length_set, id_eq, Option.some.injEq, V.i.injEq, V.b.injEq, V.own.injEq, Row.mk.injEq, decide_true, decide_eq_true_eq, true_and, and_true, Bool.and_true, Bool.true_and, if_true, if_false, and_self, Nat.reduceLT, Nat.reduceLeDiff, Nat.reduceEqDiff, Nat.reduceAdd, Nat.reduceSub, Nat.reduceMul, Nat.reducePow, Nat.reduceBEq, Int.reduceLE, Int.reduceLT, Int.reduceToNat, Int.reduceEq, Int.reduceNeg, reduceIte, reduceCtorEq] <;> (first | done | trivial | (and_intros <;> first | trivial | omega | assumption)))
  (h2 : LeHp f st.hp st'.nx st'.hp := by simp only [ren_q, renL_u, ren_z, ren_bl, ren_il, renL_id, ren_id, ren_wr, ren_wr0, ren_sl, lt_q, ltL_u, lt_z, lt_bl, lt_il, lt_wr, lt_wr0, lt_sl, LeFr, LeHp, lkp, V.ren, V.renL, Row.ren, V.lt, V.ltL, renL_u, ltL_u, List.length_append, List.length_cons, List.length_nil, List.length_set, id_eq, Option.some.injEq, V.i.injEq, V.b.injEq, V.own.injEq, Row.mk.injEq, decide_true, decide_eq_true_eq, true_and, and_true, Bool.and_true, Bool.true_and, if_true, if_false, and_self, Nat.reduceLT, Nat.reduceLeDiff, Nat.reduceEqDiff, Nat.reduceAdd, Nat.reduceSub, Nat.reduceMul, Nat.reducePow, Nat.reduceBEq, Int.reduceLE, Int.reduceLT, Int.reduceToNat, Int.reduceEq, Int.reduceNeg, reduceIte, reduceCtorEq] <;> (first | done | trivial | (and_intros <;> first | trivial | omega | assumption)))
  (h3 : Apart f st'.hp := by simp [Apart]) (h4 : g ≤ st'.nx := by first | exact Nat.zero_le _ | simp) (h5 : ∀ n, n < g → f n = n := by intro n hn; first | rfl | exact absurd hn (Nat.not_lt_zero _) | (have h0 : n = 0 := Nat.lt_one_iff.1 hn; subst h0; rfl)) : Le g f st' st := ⟨h1, h2, h3, h4, h5⟩
theorem leQ9H {g : Nat} {f : Nat → Nat} {st' st : St} {H : Prop} (hh : H) (h1 : H → LeFr f st.fr st'.nx st'.fr := by intro hh; simp only [ren_q, renL_u, ren_z, ren_bl, ren_il, renL_id, ren_id, ren_wr, ren_wr0, ren_sl, lt_q, ltL_u, lt_z, lt_bl, lt_il, lt_wr, lt_wr0, lt_sl, LeFr, LeHp, lkp, V.ren, V.renL, Row.ren, V.lt, V.ltL, renL_u, ltL_u, List.length_append, List.length_cons, List.length_nil, List.length_set, id_eq, Option.some.injEq, V.i.injEq, V.b.injEq, V.own.injEq, Row.mk.injEq, decide_true, decide_eq_true_eq, true_and, and_true, Bool.and_true, Bool.true_and, if_true, if_false, and_self, Nat.reduceLT, Nat.reduceLeDiff, Nat.reduceEqDiff, Nat.reduceAdd, Nat.reduceSub, Nat.reduceMul, Nat.reducePow, Nat.reduceBEq, Int.reduceLE, Int.reduceLT, Int.reduceToNat, Int.reduceEq, Int.reduceNeg, reduceIte, reduceCtorEq] <;> (first | done | trivial | (and_intros <;> first | trivial | omega | rw [hh] | (simp only [hh]; done) | assumption)))
  (h2 : H → LeHp f st.hp st'.nx st'.hp := by intro hh; simp only [ren_q, renL_u, ren_z, ren_bl, ren_il, renL_id, ren_id, ren_wr, ren_wr0, ren_sl, lt_q, ltL_u, lt_z, lt_bl, lt_il, lt_wr, lt_wr0, lt_sl, LeFr, LeHp, lkp, V.ren, V.renL, Row.ren, V.lt, V.ltL, renL_u, ltL_u, List.length_append, List.length_cons, List.length_nil, List.length_set, id_eq, Option.some.injEq, V.i.injEq, V.b.injEq, V.own.injEq, Row.mk.injEq, decide_true, decide_eq_true_eq, true_and, and_true, Bool.and_true, Bool.true_and, if_true, if_false, and_self, Nat.reduceLT, Nat.reduceLeDiff, Nat.reduceEqDiff, Nat.reduceAdd, Nat.reduceSub, Nat.reduceMul, Nat.reducePow, Nat.reduceBEq, Int.reduceLE, Int.reduceLT, Int.reduceToNat, Int.reduceEq, Int.reduceNeg, reduceIte, reduceCtorEq] <;> (first | done | trivial | (and_intros <;> first | trivial | omega | rw [hh] | (simp only [hh]; done) | assumption)))
  (h3 : Apart f st'.hp := by simp [Apart]) (h4 : g ≤ st'.nx := by first | exact Nat.zero_le _ | simp) (h5 : ∀ n, n < g → f n = n := by intro n hn; first | rfl | exact absurd hn (Nat.not_lt_zero _) | (have h0 : n = 0 := Nat.lt_one_iff.1 hn; subst h0; rfl)) : Le g f st' st := ⟨h1 hh, h2 hh, h3, h4, h5⟩
theorem dnQ9 {P : Program} {rs : Array ResultVar} {vs : List V} {r v : V} {st : St} {hp : List (Nat × Row)} (h1 : resVs P st rs.toList = some vs := by simp (disch := omega) only [resVs, resV, go_sem, i64_of, u32_of, u64_of, Nat.reduceLT, Nat.reduceLeDiff, Nat.reduceEqDiff, Nat.reduceAdd, Nat.reduceSub, Nat.reduceMul, Nat.reducePow, Nat.reduceBEq, Int.reduceLE, Int.reduceLT, Int.reduceToNat, Int.reduceEq, Int.reduceNeg, reduceIte, reduceCtorEq]; rfl) (h2 : frz [] (packV vs) st.hp = some (v, hp) := by simp only [packV, frz, frzL]; rfl) (h : v = r := by rfl)
  (h3 : r.lt 0 = true := by simp only [V.lt, V.ltL, ltL_u, lt_q, ltL_u, lt_z, lt_bl, lt_il, lt_wr, lt_wr0, lt_sl]; first | done | rfl) (h4 : r.ren id = r := by simp only [V.ren, V.renL, renL_u, ren_q, renL_u, ren_z, ren_bl, ren_il, renL_id, ren_id, ren_wr, ren_wr0, ren_sl]; first | done | rfl) : Done P rs r [] st := Lift.Done.of h1 h2 h h3 h4
def okN (F : Nat → Nat → Bool) (r : Nat → Bool) (i : Nat) : Nat → Bool
 | 0 => true
 | k + 1 => okN F r i k && (!F i k || (F k i && !r k && decide (i ≤ k)))
def shutL (n : Nat) (F : Nat → Nat → Bool) (r : Nat → Bool) : Nat → List (List Nat)
 | 0 => []
 | i + 1 => if okN F r i n = true then shutL n F r i ++ [pick n (F i)] else shutL n F r i
theorem okN_iff {F : Nat → Nat → Bool} {r : Nat → Bool} {i : Nat} (n : Nat) : okN F r i n = true ↔ ∀ k, k < n → F i k = true → F k i = true ∧ r k = false ∧ i ≤ k := by
 induction n with
 | zero => simp [okN]
 | succ n ih =>
  rw [okN, Bool.and_eq_true, ih]
  constructor
  ·rintro ⟨h1, h2⟩ k hk hf
   by_cases e : k = n
   ·subst e
    rw [hf] at h2
    simpa [and_assoc] using h2
   ·exact h1 k (by omega) hf
  ·intro h
   refine ⟨fun k hk => h k (by omega), ?_⟩
   cases hf : F i n
   ·rfl
   ·obtain ⟨h1, h2, h3⟩ := h n (by omega) hf
    rw [h1, h2, decide_eq_true h3]
    rfl
theorem okN_false {F : Nat → Nat → Bool} {r : Nat → Bool} {i k n : Nat} (hk : k < n) (hf : F i k = true) (h : ¬ (F k i = true ∧ r k = false ∧ i ≤ k)) : okN F r i n = false := by
 cases h1 : okN F r i n
 ·rfl
 ·exact absurd ((okN_iff n).1 h1 k hk hf) h
set_option maxHeartbeats 16000000 in
theorem cshut_ok (n : Nat) (hn : n ≤ 60) (F : Nat → Nat → Bool) (r : Nat → Bool) : PCall Tryz.prog 96 [.sl (bll n F), .sl (bl n r)] (.sl (sll (shutL n F r n))) [] := by
 refine PCall.of_ax Tryz.call96 Tryz.func96 rfl (by simp [Tryz.ntmps96]) fun O w => ?_
 simp only [Tryz.ntmps96, Tryz.results96, argFr]
 have hlF := bll_length n F
 have hgF := fun i (hi : i < n) => bll_get F hi
 have hlr := bl_length n r
 have hgr := fun i (hi : i < n) => bl_get r hi
 have hlen : ∀ i, i ≤ n → (shutL n F r i).length ≤ i := by
  intro i
  induction i with
  | zero => intro _; exact Nat.le_refl _
  | succ i ih =>
   intro hi
   have := ih (by omega)
   unfold shutL
   split
   ·rw [List.length_append, List.length_singleton]
    omega
   ·omega
 generalize bll n F = Fw at *
 generalize bl n r = rw' at *
 refine AX.sR (rgAV [0, 1]) ?_
 refine AX.scope ?_
 refine AX.sR (rgAV [0, 1, 5]) ?_
 refine AX.own0 5 58 1 rfl ?_
 refine AX.seq ?_
 refine AX.label ?_
 refine nmZ ?_
 refine AX.seq ?_
 refine AX.sR (rgWV [0, 1, 5, 10, 11] (aI @hlF oT) oT) ?_
 refine AX.weaken id (st' := ⟨[(11, .i .i64 (0 : Nat)), (10, .i .i64 n), (5, .own 0 0 (shutL n F r 0).length 1), (1, .sl rw'), (0, .sl Fw)], [(0, ⟨58, sll (shutL n F r 0)⟩)], 1⟩)
  leQ9
  ?_
 refine AX.block ?_
 refine AX.loop (fun N st => ∃ (i : Nat) (L : List (List Nat)), i ≤ n ∧ N = n - i ∧ shutL n F r i = L ∧ st = ⟨[(11, .i .i64 i), (10, .i .i64 n), (5, .own 0 0 L.length 1), (1, .sl rw'), (0, .sl Fw)], [(0, ⟨58, sll L⟩)], 1⟩) n ⟨0, _, Nat.zero_le _, rfl, rfl, rfl⟩ ?_
 rintro N st ⟨i, L, hi, rfl, hL, rfl⟩
 have hLl : L.length ≤ i := hL ▸ hlen i hi
 by_cases h1 : i < n
 ·have hgi := hgF i h1
  have hno : okN F r i n = false → shutL n F r (i + 1) = L := fun h => by
   rw [shutL, if_neg (by rw [h]; exact Bool.false_ne_true), hL]
  have hyes : okN F r i n = true → shutL n F r (i + 1) = L ++ [pick n (F i)] := fun h => by
   rw [shutL, if_pos h, hL]
  clear hlen hL
  refine AX.sR (rgAV [0, 1, 5, 10, 11, 12]) ?_
  refine AX.seq ?_
  refine AX.condT ?_
  refine AX.keepA [0, 1, 5, 10, 11] ?_
  refine AX.skip ?_
  refine nmZ ?_
  refine AX.seq ?_
  refine AX.block ?_
  refine AX.sR (rgAV [0, 1, 5, 6, 10, 11]) ?_
  refine AX.sR (rgAV [0, 1, 5, 6, 7, 10, 11]) ?_
  refine AX.own0 7 3 1 rfl ?_
  refine AX.seq ?_
  refine AX.sR (rgWV [0, 1, 5, 6, 7, 10, 11, 15, 16] (aI @hlF oT) oT) ?_
  refine AX.weaken id (st' := ⟨[(16, .i .i64 (0 : Nat)), (15, .i .i64 n), (11, .i .i64 i), (10, .i .i64 n), (7, .own 1 0 (pick 0 (F i)).length 1), (6, .i .i64 i), (5, .own 0 0 L.length 1), (1, .sl rw'), (0, .sl Fw)], [(1, ⟨3, il (pick 0 (F i))⟩), (0, ⟨58, sll L⟩)], 2⟩)
   leQ9
   ?_
  refine AX.block ?_
  refine AX.loop (fun N st => ∃ (k : Nat) (s : List Nat), k ≤ n ∧ N = n - k ∧ pick k (F i) = s ∧ okN F r i k = true ∧ st = ⟨[(16, .i .i64 k), (15, .i .i64 n), (11, .i .i64 i), (10, .i .i64 n), (7, .own 1 0 s.length 1), (6, .i .i64 i), (5, .own 0 0 L.length 1), (1, .sl rw'), (0, .sl Fw)], [(1, ⟨3, il s⟩), (0, ⟨58, sll L⟩)], 2⟩) n ⟨0, _, Nat.zero_le _, rfl, rfl, rfl, rfl⟩ ?_
  rintro N st ⟨k, s, hk, rfl, hs, hok, rfl⟩
  have hsl := il_length s
  have hsb : s.length ≤ 60 := by
   have := pick_le k (F i)
   rw [hs] at this
   omega
  by_cases h2 : k < n
  ·have hb := bl_get (F i) h2
   have hbl := bl_length n (F i)
   have hgk := hgF k h2
   have hbk := bl_get (F k) h1
   have hbkl := bl_length n (F k)
   have hrk := hgr k h2
   have hps := pick_succ k (F i)
   have hoks : okN F r i (k + 1) = (okN F r i k && (!F i k || (F k i && !r k && decide (i ≤ k)))) := rfl
   have hnok := okN_false (F := F) (r := r) (i := i) h2
   rw [hs] at hps
   rw [hok] at hoks
   clear hgF hgr
   generalize bl n (F i) = Bi at *
   generalize bl n (F k) = Bk at *
   refine AX.sR (rgAV [0, 1, 5, 6, 7, 10, 11, 15, 16, 17]) ?_
   refine AX.seq ?_
   refine AX.condT ?_
   refine AX.keepA [0, 1, 5, 6, 7, 10, 11, 15, 16] ?_
   refine AX.skip ?_
   refine nmZ ?_
   refine AX.seq ?_
   refine AX.block ?_
   refine AX.sR (rgAV [0, 1, 5, 6, 7, 8, 10, 11, 15, 16]) ?_
   refine AX.seq ?_
   cases hf : F i k
   ·rw [hf] at hb hps hoks
    rw [if_neg Bool.false_ne_true] at hps
    have hoks : okN F r i (k + 1) = true := hoks
    refine AX.sR (rgWV [0, 1, 5, 6, 7, 8, 10, 11, 15, 16, 26] (aI @hlF (aI @hgi (aI @hbl (aI @hb oT)))) oT) ?_
    refine AX.condT ?_
    refine AX.exit ?_
    refine nmZ ?_
    refine AX.rR (rgWV [0, 1, 5, 6, 7, 10, 11, 15, 16] (aI @lit_add oT) oT) ?_
    refine nmZ ?_
    refine ⟨_, _, id, ?_,
     leQ9
     , ⟨k + 1, s, by omega, rfl, hps, hoks, rfl⟩⟩
    omega
   ·rw [hf] at hb hps hoks
    rw [if_pos rfl] at hps
    have hnok := hnok hf
    refine AX.sR (rgWV [0, 1, 5, 6, 7, 8, 10, 11, 15, 16, 26] (aI @hlF (aI @hgi (aI @hbl (aI @hb oT)))) oT) ?_
    refine AX.condF ?_
    refine AX.keepA [0, 1, 5, 6, 7, 8, 10, 11, 15, 16] ?_
    refine AX.skip ?_
    refine nmZ ?_
    refine AX.seq ?_
    by_cases hgood : F k i = true ∧ r k = false ∧ i ≤ k
    ·obtain ⟨g1, g2, g3⟩ := hgood
     rw [g1] at hbk
     rw [g2] at hrk
     have hoks : okN F r i (k + 1) = true := by rw [hoks, g1, g2, decide_eq_true g3]; rfl
     have happ := il_app s k
     have hlen : (s ++ [k]).length = s.length + 1 := by simp
     generalize s ++ [k] = s2 at *
     refine AX.sR (rgWV [0, 1, 5, 6, 7, 8, 10, 11, 15, 16, 45] (aI @hlF (aI @hgk (aI @hbkl (aI @hbk (aI @hlr (aI @hrk oT)))))) oT) ?_
     refine AX.condF ?_
     refine AX.keepA [0, 1, 5, 6, 7, 8, 10, 11, 15, 16] ?_
     refine AX.skip ?_
     refine nmZ ?_
     refine AX.rR (rgWV [0, 1, 5, 6, 7, 10, 11, 15, 16] (aI @hsl (aI @zerosV_1 (aI @tkS (aI @tk0 oT)))) oT) ?_
     refine nmZ ?_
     rw [happ]
     refine AX.rR (rgWV [0, 1, 5, 6, 7, 10, 11, 15, 16] (aI @lit_add oT) oT) ?_
     refine nmZ ?_
     refine ⟨_, _, fun n => if n = 1 then 3 else n, ?_,
      (leQ9H hlen)
      , ⟨k + 1, s2, by omega, rfl, hps, hoks, rfl⟩⟩
     omega
    ·have hnx := hno (hnok hgood)
     refine AX.cut (fun st => Le 0 id ⟨[(45, .b true), (11, .i .i64 i), (10, .i .i64 n), (5, .own 0 0 L.length 1), (1, .sl rw'), (0, .sl Fw)], [(0, ⟨58, sll L⟩)], 1⟩ st) ?_ ?_
     ·cases g1 : F k i
      ·rw [g1] at hbk
       refine AX.rR (rgWV [0, 1, 5, 10, 11, 45] (aI @hlF (aI @hgk (aI @hbkl (aI @hbk oT)))) oT) ?_
       exact ⟨by first | exact trivial | rfl,
        leQ9
        ⟩
      ·rw [g1] at hbk
       cases g2 : r k
       ·rw [g2] at hrk
        have g3 : k < i := by
         apply Classical.byContradiction
         intro h
         exact hgood ⟨g1, g2, by omega⟩
        refine AX.rR (rgWV [0, 1, 5, 10, 11, 45] (aI @hlF (aI @hgk (aI @hbkl (aI @hbk (aI @hlr (aI @hrk oT)))))) oT) ?_
        exact ⟨by first | exact trivial | rfl,
         leQ9
         ⟩
       ·rw [g2] at hrk
        refine AX.rR (rgWV [0, 1, 5, 10, 11, 45] (aI @hlF (aI @hgk (aI @hbkl (aI @hbk (aI @hlr (aI @hrk oT)))))) oT) ?_
        exact ⟨by first | exact trivial | rfl,
         leQ9
         ⟩
     rintro st hle
     refine AX.weaken id hle ?_
     refine AX.condT ?_
     refine AX.exit ?_
     refine nmZ ?_
     refine AX.rR (rgWV [0, 1, 5, 10, 11] (aI @lit_add oT) oT) ?_
     refine nmZ ?_
     refine ⟨_, _, id, ?_,
      leQ9
      , ⟨i + 1, L, by omega, rfl, hnx, rfl⟩⟩
     omega
  ·have e : k = n := by omega
   subst e
   have hnx := hyes hok
   rw [hs] at hnx
   have hfz := sll_fz (h := 1) L s
   have hlen : (L ++ [s]).length = L.length + 1 := by simp
   have hsllL := sll_length L
   have hsl2 : (sll (L ++ [s])).length = (sll L ++ [V.own 1 0 s.length 1]).length := by rw [sll_length, hlen, List.length_append, sll_length]; rfl
   clear hgF hgr hno hyes hok
   refine AX.sR (rgAV [0, 1, 5, 6, 7, 10, 11, 15, 16, 17]) ?_
   refine AX.seq ?_
   refine AX.condF ?_
   refine AX.exit ?_
   refine nmZ ?_
   refine AX.rR (rgWV [0, 1, 5, 10, 11] (aI @hsllL (aI @zerosV_1 (aI @tkS (aI @tk0 oT)))) oT) ?_
   refine nmZ ?_
   refine AX.fz 1 (fr' := [(11, .i .i64 i), (10, .i .i64 k), (5, .own 3 0 (L.length + 1) 1), (1, .sl rw'), (0, .sl Fw)]) (hp' := [(3, ⟨58, sll (L ++ [s])⟩)]) rfl (il_hf s).1 (.cons rfl .same (.cons rfl .same (.cons rfl .same (.cons rfl .same (.cons rfl .same .nil))))) (.cons (by decide) rfl rfl hsl2 hfz .nil) ?_
   clear hfz hsl2
   generalize L ++ [s] = L2 at *
   refine AX.rR (rgWV [0, 1, 5, 10, 11] (aI @lit_add oT) oT) ?_
   refine nmZ ?_
   refine ⟨_, _, fun n => if n = 0 then 3 else n, ?_,
    (leQ9H hlen)
    , ⟨i + 1, L2, by omega, rfl, hnx, rfl⟩⟩
   omega
 ·have e : i = n := by omega
  subst e
  rw [hL]
  refine AX.sR (rgAV [0, 1, 5, 10, 11, 12]) ?_
  refine AX.seq ?_
  refine AX.condF ?_
  refine AX.exit ?_
  refine nmZ ?_
  refine AX.sR (rgAV [4]) ?_
  refine AX.ret ⟨.inl rfl, ?_⟩
  exact Done.slS rfl rfl rfl
set_option maxHeartbeats 4000000 in
theorem cclosed_not (c : V) (R1 C1 R2 C2 : Int) (x y : List V) (hc : c = .agg [.i .i64 R1, .i .i64 C1, .sl x, .i .i64 R2, .i .i64 C2, .sl y]) (hr : PCall Tryz.prog 41 [c] (.b false) []) : PCall Tryz.prog 49 [c] (.sl []) [] := by
 subst hc
 refine PCall.of_ax Tryz.call49 Tryz.func49 rfl (by simp [Tryz.ntmps49]) fun O w => ?_
 simp only [Tryz.ntmps49, Tryz.results49, argFr]
 refine AX.sR (rgAV [1]) ?_
 refine AX.seq ?_
 refine AX.sR (rgCV [1, 5] (aI hr oT)) ?_
 refine AX.condT ?_
 refine AX.sR (rgAV [2]) ?_
 refine AX.ret ⟨.inl rfl, ?_⟩
 exact dnQ9
noncomputable def closedL (n m : Nat) (A B : Mx) : List (List Nat) := shutL n (toB n A) (rchB n m A B) n
set_option maxHeartbeats 4000000 in
theorem cclosed_ok (n m L : Nat) (hn : n ≤ 60) (hm : m ≤ 60) (A B : Mx) (hC : isC n m A B = true) (hA : ∀ i k, i < n → k < n → rL (A i k) ≤ L) (hB : ∀ i k, i < n → k < m → rL (B i k) ≤ L) (hL1 : 1 ≤ L) (hL : 120 * (L + 1) + 1 < 2 ^ 34) : PCall Tryz.prog 49 [cV n m A B] (.sl (sll (closedL n m A B))) [] := by
 have hr := cright_ok n m L hn hm A B hA hB hL1 hL
 rw [hC] at hr
 have c1 := cways_ok n hn A (isC_ok hC).M0
 have c2 := reaches_ok n m L hn hm A B hC
 have c3 := cshut_ok n hn (toB n A) (rchB n m A B)
 unfold closedL
 generalize sll (shutL n (toB n A) (rchB n m A B) n) = R at *
 generalize bll n (toB n A) = Tw at *
 generalize bl n (rchB n m A B) = Rw at *
 unfold cV at *
 generalize (mcells n A (n * n)).map rV = Ac at *
 generalize (mcells m B (n * m)).map rV = Bc at *
 refine PCall.of_ax Tryz.call49 Tryz.func49 rfl (by simp [Tryz.ntmps49]) fun O w => ?_
 simp only [Tryz.ntmps49, Tryz.results49, argFr]
 refine AX.sR (rgAV [1]) ?_
 refine AX.seq ?_
 refine AX.sR (rgCV [1, 5] (aI hr oT)) ?_
 refine AX.condF ?_
 refine AX.keepA [1] ?_
 refine AX.skip ?_
 refine nmZ ?_
 refine AX.sD (rgDCV [2] (aI c1 (aI c2 (aI c3 oT)))) ?_
 refine AX.ret ⟨.inl rfl, ?_⟩
 exact dnQ9
end Go.Proofs.YtepkjfnffbdcoaaGreat
