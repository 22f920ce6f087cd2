/- Chains: Ways. -/
import Derived.Test.YtepkjfnffbdcoaaGreatChJ
set_option linter.unusedVariables false
set_option maxRecDepth 20000
set_option linter.unusedSimpArgs false
namespace Go.Proofs.YtepkjfnffbdcoaaGreat
open Go Go.Proofs.YtepkjfnffbdcoaaGreat.Lift
attribute [local irreducible] Lift.PCall Lift.HCall
theorem cntF_le (n : Nat) (f : Nat → Bool) : cntF n f ≤ n := by
  induction n with
  | zero => exact Nat.le_refl _
  | succ n ih =>
    unfold cntF
    split <;> omega
set_option maxHeartbeats 16000000 in
theorem cways_ok (n : Nat) (hn : n ≤ 60) (A : Mx) (hA0 : ∀ i k, i < n → k < n → 0 ≤ A i k) :
    PCall Tryz.prog 97 [.agg [.i .i64 n, .i .i64 n, .sl ((mcells n A (n * n)).map rV)]] (.sl (bll n (toB n A))) [] := by
  refine PCall.of_ax Tryz.call97 Tryz.func97 rfl (by simp [Tryz.ntmps97]) fun O w => ?_
  simp only [Tryz.ntmps97, Tryz.results97, argFr]
  have hcA := fun (i k : Nat) (hi : i < n) (hk : k < n) => ccell_q hn hn A hi hk
  generalize (mcells n A (n * n)).map rV = Ac at *
  refine AX.sregAV [1] (hq := ?_)
  refine AX.sregAV [1, 3] (hq := ?_)
  refine AX.seq ?_
  refine AX.sregAV [1, 3, 12, 13] (hq := ?_)
  refine AX.weaken id (st' := ⟨[(13, .i .i64 (0 : Nat)), (12, .i .i64 n), (3, .own 1 0 n 1), (1, .ptr 0 0)], [(1, ⟨78, wr 2 n 0 false (toB n A)⟩), (0, ⟨24, [.i .i64 n, .i .i64 n, .sl Ac]⟩)], 2⟩)
    (leQ8H wr_zero)
    ?_
  refine AX.block ?_
  refine AX.loop (fun N st => ∃ i : Nat, i ≤ n ∧ N = n - i ∧ st = ⟨[(13, .i .i64 i), (12, .i .i64 n), (3, .own 1 0 n 1), (1, .ptr 0 0)], [(1, ⟨78, wr 2 n i false (toB n A)⟩), (0, ⟨24, [.i .i64 n, .i .i64 n, .sl Ac]⟩)], 2⟩) n ⟨0, Nat.zero_le _, rfl, rfl⟩ ?_
  rintro N st ⟨i, hi, rfl, rfl⟩
  by_cases h1 : i < n
  · have hwl1 := wr_length 2 n i false (toB n A)
    have hwo := wr_open (h := 2) (toB n A) h1
    have hwl := wr_length 2 n i true (toB n A)
    have hwg := wr_get (h := 2) (toB n A) h1
    have hone := FndT.one (A := A) h1
    have hb0 := bl_set (fun _ => false) true h1
    have hc1 : cntF n (updB (fun _ => false) i true) + 1 ≤ n := by
      have := cntF_upd (n := n) (f := fun _ => false) h1 rfl
      have := cntF_le n fun _ => false
      omega
    have hfz := fun (f : Nat → Bool) (hf : ∀ k, k < n → f k = toB n A i k) => wr_fz (h := 2) hf
    obtain ⟨f1, hf1⟩ : ∃ f1, updB (fun _ => false) i true = f1 := ⟨_, rfl⟩
    have hf1i : f1 i = true := by rw [← hf1]; exact hone.self
    have hf1x : ∀ a, f1 a = true → a = i := fun a h => by
      rw [← hf1] at h
      unfold updB at h
      split at h
      · assumption
      · cases h
    rw [hf1] at hone hb0 hc1
    have hil : il [i] = [.i .i64 (i : Int)] := rfl
    refine AX.sregAV [1, 3, 12, 13, 14] (hq := ?_)
    refine AX.seq ?_
    refine AX.condT (h := ?_)
    refine AX.keepA [1, 3, 12, 13] (h := ?_)
    refine AX.skip ?_
    try simp only [zn1,zn2,zn3,zn4,zn5,zn6,zn7,zn8,if_true]
    refine AX.seq ?_
    refine AX.block ?_
    refine AX.sregAV [1, 3, 4, 12, 13] (hq := ?_)
    refine AX.sregWV [1, 3, 4, 12, 13] (aI @hwl1 oT) oT (hq := ?_)
    rw [hwo]
    refine AX.sregWV [1, 3, 4, 12, 13] (aI @hwl (aI @hwg (aI @bl_zero (aI @bl_length oT)))) oT (hq := ?_)
    rw [hb0]
    refine AX.sregWV [1, 3, 4, 5, 12, 13] (aI @zerosV_1 (aI @tkS (aI @tk0 oT))) oT (hq := ?_)
    refine AX.weaken id (st' := ⟨[(13, .i .i64 i), (12, .i .i64 n), (5, .own 3 0 [i].length 1), (4, .i .i64 i), (3, .own 1 0 n 1), (1, .ptr 0 0)], [(3, ⟨3, il [i]⟩), (2, ⟨4, bl n f1⟩), (1, ⟨78, wr 2 n i true (toB n A)⟩), (0, ⟨24, [.i .i64 n, .i .i64 n, .sl Ac]⟩)], 4⟩)
      (leQ8H hil)
      ?_
    refine AX.block ?_
    refine AX.loop (fun N st => ∃ (f : Nat → Bool) (l : List Nat), N = 2 * cntF n f + l.length ∧ FndT n A i f ∧ (∀ x ∈ l, x < n ∧ f x = true) ∧ (∀ a, a < n → f a = true → a ∈ l ∨ ∀ b, b < n → 0 < A a b → f b = true) ∧ l.length + cntF n f ≤ n ∧ st = ⟨[(13, .i .i64 i), (12, .i .i64 n), (5, .own 3 0 l.length 1), (4, .i .i64 i), (3, .own 1 0 n 1), (1, .ptr 0 0)], [(3, ⟨3, il l⟩), (2, ⟨4, bl n f⟩), (1, ⟨78, wr 2 n i true (toB n A)⟩), (0, ⟨24, [.i .i64 n, .i .i64 n, .sl Ac]⟩)], 4⟩) (2 * cntF n f1 + 1) ⟨_, [i], rfl, hone, (fun x hx => by rw [List.mem_singleton.1 hx]; exact ⟨h1, hf1i⟩), (fun a _ h => .inl (by rw [hf1x a h]; exact List.mem_singleton.2 rfl)), (by show 1 + _ ≤ n; omega), rfl⟩ ?_
    clear hone hb0 hc1 hf1i hf1x hil hf1 f1 hwo hwl1
    rintro N st ⟨f0, l0, rfl, hfd0, hm0, hx0, hc0, rfl⟩
    have hll := il_length l0
    refine AX.seq ?_
    rcases List.eq_nil_or_concat l0 with rfl | ⟨l, a, rfl⟩
    · have hfin := hfd0.fin fun a b ha hb hfa hab => (hx0 a ha hfa).elim (fun h => nomatch h) (fun h => h b hb hab)
      have hz := hfz f0 hfin
      refine AX.sregAV [1, 3, 4, 5, 12, 13, 32] (hq := ?_)
      refine AX.condF (h := ?_)
      refine AX.exit ?_
      try simp only [zn1,zn2,zn3,zn4,zn5,zn6,zn7,zn8,if_true]
      refine AX.fz 2 (fr' := [(13, .i .i64 i), (12, .i .i64 n), (3, .own 1 0 n 1), (1, .ptr 0 0)]) (hp' := [(1, ⟨78, wr 2 n (i + 1) false (toB n A)⟩), (0, ⟨24, [.i .i64 n, .i .i64 n, .sl Ac]⟩)]) rfl (bl_hf n f0).1 (.cons rfl .same (.cons rfl .same (.cons rfl .same (.cons rfl .same .nil)))) (.cons (by decide) rfl rfl (by rw [wr_length]; exact hwl.symm) hz (.keep (by decide) rfl .nil)) ?_
      clear hz hfz
      have hlt2 : V.ltL 2 (wr 2 n (i + 1) false (toB n A)) = true := ltL_gl fun j => by
        split
        · simp only [V.lt]
        · rw [if_neg (fun h => by cases h.2)]
          simp only [V.lt]
      refine AX.regWV [1, 3, 12, 13] (aI @lit_add oT) oT (hq := ?_)
      try simp only [zn1,zn2,zn3,zn4,zn5,zn6,zn7,zn8,if_true]
      refine ⟨_, _, id, ?_,
        (leQ8H hlt2)
        , ⟨i + 1, by omega, rfl, rfl⟩⟩
      omega
    · clear hfz
      rw [List.concat_eq_append] at *
      have hal : (l ++ [a]).length = l.length + 1 := by simp
      obtain ⟨ha, hfa⟩ := hm0 a (by simp)
      have hga : (il (l ++ [a])).getD l.length .junk = .i .i64 (a : Int) := by
        rw [il_get (by rw [hal]; omega)]
        simp [List.getD_eq_getElem?_getD]
      have htk : (il (l ++ [a])).take l.length = il l := by
        unfold il
        rw [← List.map_take, List.take_left]
      have hlb : l.length ≤ 60 := by omega
      have hm1 : ∀ x ∈ l, x < n ∧ f0 x = true := fun x hx => hm0 x (by simp [hx])
      have hx1 : ∀ a', a' < n → f0 a' = true → a' ∈ l ∨ (a' = a ∧ ∀ b, b < 0 → 0 < A a' b → f0 b = true) ∨ ∀ b, b < n → 0 < A a' b → f0 b = true := fun a' h1 h2 => by
        rcases hx0 a' h1 h2 with h | h
        · rcases List.mem_append.1 h with h | h
          · exact .inl h
          · exact .inr (.inl ⟨List.mem_singleton.1 h, fun b hb => absurd hb (Nat.not_lt_zero _)⟩)
        · exact .inr (.inr h)
      have hpre : ((l.length + 1 : Nat) : Int) - 1 = (l.length : Int) := by omega
      clear hx0 hm0
      rw [hal] at hll hc0 ⊢
      obtain ⟨R, hR⟩ : ∃ R, il (l ++ [a]) = R := ⟨_, rfl⟩
      rw [hR] at hll hga htk ⊢
      refine AX.sregAV [1, 3, 4, 5, 12, 13, 32] (hq := ?_)
      refine AX.condT (h := ?_)
      refine AX.keepA [1, 3, 4, 5, 12, 13] (h := ?_)
      refine AX.skip ?_
      try simp only [zn1,zn2,zn3,zn4,zn5,zn6,zn7,zn8,if_true]
      refine AX.block ?_
      refine AX.sregWV [1, 3, 4, 5, 6, 12, 13] (aI @hpre (aI @hll (aI @hga oT))) oT (hq := ?_)
      refine AX.sregWV [1, 3, 4, 5, 6, 12, 13] (aI @hpre (aI @hll oT)) oT (hq := ?_)
      refine AX.short 3 l.length rfl htk ?_
      refine AX.sregAV [1, 3, 4, 5, 6, 12, 13, 45, 46] (hq := ?_)
      refine AX.weaken id (st' := ⟨[(46, .i .i64 (0 : Nat)), (45, .i .i64 n), (13, .i .i64 i), (12, .i .i64 n), (6, .i .i64 a), (5, .own 3 0 l.length 1), (4, .i .i64 i), (3, .own 1 0 n 1), (1, .ptr 0 0)], [(3, ⟨3, il l⟩), (2, ⟨4, bl n f0⟩), (1, ⟨78, wr 2 n i true (toB n A)⟩), (0, ⟨24, [.i .i64 n, .i .i64 n, .sl Ac]⟩)], 4⟩)
        leQ8
        ?_
      refine AX.block ?_
      refine AX.loop (fun N st => ∃ (k : Nat) (f : Nat → Bool) (l' : List Nat), k ≤ n ∧ N = n - k ∧ FndT n A i f ∧ f a = true ∧ (∀ x ∈ l', x < n ∧ f x = true) ∧ (∀ a', a' < n → f a' = true → a' ∈ l' ∨ (a' = a ∧ ∀ b, b < k → 0 < A a' b → f b = true) ∨ ∀ b, b < n → 0 < A a' b → f b = true) ∧ l'.length + cntF n f ≤ n ∧ 2 * cntF n f + l'.length ≤ 2 * cntF n f0 + l.length ∧ st = ⟨[(46, .i .i64 k), (45, .i .i64 n), (13, .i .i64 i), (12, .i .i64 n), (6, .i .i64 a), (5, .own 3 0 l'.length 1), (4, .i .i64 i), (3, .own 1 0 n 1), (1, .ptr 0 0)], [(3, ⟨3, il l'⟩), (2, ⟨4, bl n f⟩), (1, ⟨78, wr 2 n i true (toB n A)⟩), (0, ⟨24, [.i .i64 n, .i .i64 n, .sl Ac]⟩)], 4⟩) n ⟨0, f0, l, Nat.zero_le _, rfl, hfd0, hfa, hm1, hx1, by omega, Nat.le_refl _, rfl⟩ ?_
      clear hm1 hx1 hga htk hll hR R
      rintro N st ⟨k, f, l', hk, rfl, hfd, hfa', hm, hx, hc, hN, rfl⟩
      have hll := il_length l'
      have hl := bl_length n f
      by_cases h2 : k < n
      · have hgk := bl_get f h2
        have hce := hcA a k ha h2
        have nz := num0 (q := A a k)
        have hpos := hA0 a k ha h2
        have same : (f k = false → ¬ 0 < A a k) → ∀ a', a' < n → f a' = true → a' ∈ l' ∨ (a' = a ∧ ∀ b, b < k + 1 → 0 < A a' b → f b = true) ∨ ∀ b, b < n → 0 < A a' b → f b = true := fun hno a' g1 g2 => by
          rcases hx a' g1 g2 with h | ⟨h, h'⟩ | h
          · exact .inl h
          · refine .inr (.inl ⟨h, fun b hb hab => ?_⟩)
            by_cases e : b = k
            · subst e
              cases hfb : f b
              · rw [h] at hab
                exact absurd hab (hno hfb)
              · rfl
            · exact h' b (by omega) hab
          · exact .inr (.inr h)
        cases hfk : f k
        · rw [hfk] at hgk
          by_cases hz : 0 < A a k
          · have ez : 0 < (digits (A a k).num.natAbs).length := Nat.pos_of_ne_zero fun e => by
              rw [nz.1 e] at hz
              exact absurd hz (by decide)
            have hset := bl_set f true h2
            have hcnt := cntF_upd (n := n) h2 hfk
            have hfd' := hfd.more ha hfa' h2 hz
            have hup : ∀ x, f x = true → updB f k true x = true := fun x h => by
              unfold updB
              split
              · rfl
              · exact h
            have hkk : updB f k true k = true := if_pos rfl
            have hm' : ∀ x ∈ l' ++ [k], x < n ∧ updB f k true x = true := fun x h => by
              rcases List.mem_append.1 h with h | h
              · exact ⟨(hm x h).1, hup x (hm x h).2⟩
              · rw [List.mem_singleton.1 h]
                exact ⟨h2, hkk⟩
            have hx' : ∀ a', a' < n → updB f k true a' = true → a' ∈ l' ++ [k] ∨ (a' = a ∧ ∀ b, b < k + 1 → 0 < A a' b → updB f k true b = true) ∨ ∀ b, b < n → 0 < A a' b → updB f k true b = true := fun a' g1 g2 => by
              by_cases e : a' = k
              · exact .inl (by simp [e])
              · have g3 : f a' = true := by unfold updB at g2; rwa [if_neg e] at g2
                rcases hx a' g1 g3 with h | ⟨h, h'⟩ | h
                · exact .inl (by simp [h])
                · refine .inr (.inl ⟨h, fun b hb hab => ?_⟩)
                  by_cases e : b = k
                  · rw [e]; exact hkk
                  · exact hup b (h' b (by omega) hab)
                · exact .inr (.inr fun b hb hab => hup b (h b hb hab))
            have happ := il_app l' k
            have hlen : (l' ++ [k]).length = l'.length + 1 := by simp
            have hfa2 := hup a hfa'
            have hl'b : l'.length ≤ 60 := by omega
            clear same hx hm hcA hup hkk
            generalize updB f k true = f2 at *
            generalize A a k = p at *
            generalize l' ++ [k] = l2 at *
            refine AX.sregAV [1, 3, 4, 5, 6, 12, 13, 45, 46, 47] (hq := ?_)
            refine AX.seq ?_
            refine AX.condT (h := ?_)
            refine AX.keepA [1, 3, 4, 5, 6, 12, 13, 45, 46] (h := ?_)
            refine AX.skip ?_
            try simp only [zn1,zn2,zn3,zn4,zn5,zn6,zn7,zn8,if_true]
            refine AX.seq ?_
            refine AX.block ?_
            refine AX.sregAV [1, 3, 4, 5, 6, 7, 12, 13, 45, 46] (hq := ?_)
            refine AX.sregWV [1, 3, 4, 5, 6, 7, 12, 13, 45, 46, 65] (aI @hwl (aI @hwg (aI @hl (aI @hgk oT)))) (aI hce oT) (hq := ?_)
            refine AX.condT (h := ?_)
            refine AX.sregWV [1, 3, 4, 5, 6, 7, 12, 13, 45, 46] (aI @hwl (aI @hwg (aI @hl oT))) oT (hq := ?_)
            rw [hset]
            refine AX.regWV [1, 3, 4, 5, 6, 12, 13, 45, 46] (aI @hll (aI @zerosV_1 (aI @tkS (aI @tk0 oT)))) oT (hq := ?_)
            try simp only [zn1,zn2,zn3,zn4,zn5,zn6,zn7,zn8,if_true]
            rw [happ]
            refine AX.regWV [1, 3, 4, 5, 6, 12, 13, 45, 46] (aI @lit_add oT) oT (hq := ?_)
            try simp only [zn1,zn2,zn3,zn4,zn5,zn6,zn7,zn8,if_true]
            refine ⟨_, _, fun n => if n = 3 then 5 else n, ?_,
              (leQ8H hlen)
              , ⟨k + 1, f2, l2, by omega, rfl, hfd', hfa2, hm', hx', by omega, by omega, rfl⟩⟩
            omega
          · have ez0 : A a k = 0 := by
              rcases Rat.le_iff_lt_or_eq.1 hpos with h | h
              · exact absurd h hz
              · exact h.symm
            have ez := nz.2 ez0
            have hs := same fun _ => hz
            clear same hx hcA hpos
            generalize A a k = p at *
            refine AX.sregAV [1, 3, 4, 5, 6, 12, 13, 45, 46, 47] (hq := ?_)
            refine AX.seq ?_
            refine AX.condT (h := ?_)
            refine AX.keepA [1, 3, 4, 5, 6, 12, 13, 45, 46] (h := ?_)
            refine AX.skip ?_
            try simp only [zn1,zn2,zn3,zn4,zn5,zn6,zn7,zn8,if_true]
            refine AX.seq ?_
            refine AX.block ?_
            refine AX.sregAV [1, 3, 4, 5, 6, 7, 12, 13, 45, 46] (hq := ?_)
            refine AX.sregWV [1, 3, 4, 5, 6, 7, 12, 13, 45, 46, 65] (aI @hwl (aI @hwg (aI @hl (aI @hgk (aI @ez oT))))) (aI hce oT) (hq := ?_)
            refine AX.condF (h := ?_)
            refine AX.keepA [1, 3, 4, 5, 6, 12, 13, 45, 46] (h := ?_)
            refine AX.skip ?_
            try simp only [zn1,zn2,zn3,zn4,zn5,zn6,zn7,zn8,if_true]
            refine AX.regWV [1, 3, 4, 5, 6, 12, 13, 45, 46] (aI @lit_add oT) oT (hq := ?_)
            try simp only [zn1,zn2,zn3,zn4,zn5,zn6,zn7,zn8,if_true]
            refine ⟨_, _, id, ?_,
              leQ8
              , ⟨k + 1, f, l', by omega, rfl, hfd, hfa', hm, hs, hc, hN, rfl⟩⟩
            omega
        · rw [hfk] at hgk
          have hs := same fun h => by rw [hfk] at h; cases h
          clear same hx hcA
          refine AX.sregAV [1, 3, 4, 5, 6, 12, 13, 45, 46, 47] (hq := ?_)
          refine AX.seq ?_
          refine AX.condT (h := ?_)
          refine AX.keepA [1, 3, 4, 5, 6, 12, 13, 45, 46] (h := ?_)
          refine AX.skip ?_
          try simp only [zn1,zn2,zn3,zn4,zn5,zn6,zn7,zn8,if_true]
          refine AX.seq ?_
          refine AX.block ?_
          refine AX.sregAV [1, 3, 4, 5, 6, 7, 12, 13, 45, 46] (hq := ?_)
          refine AX.sregWV [1, 3, 4, 5, 6, 7, 12, 13, 45, 46, 65] (aI @hwl (aI @hwg (aI @hl (aI @hgk oT)))) oT (hq := ?_)
          refine AX.condF (h := ?_)
          refine AX.keepA [1, 3, 4, 5, 6, 12, 13, 45, 46] (h := ?_)
          refine AX.skip ?_
          try simp only [zn1,zn2,zn3,zn4,zn5,zn6,zn7,zn8,if_true]
          refine AX.regWV [1, 3, 4, 5, 6, 12, 13, 45, 46] (aI @lit_add oT) oT (hq := ?_)
          try simp only [zn1,zn2,zn3,zn4,zn5,zn6,zn7,zn8,if_true]
          refine ⟨_, _, id, ?_,
            leQ8
            , ⟨k + 1, f, l', by omega, rfl, hfd, hfa', hm, hs, hc, hN, rfl⟩⟩
          omega
      · have e : k = n := by omega
        subst e
        refine AX.sregAV [1, 3, 4, 5, 6, 12, 13, 45, 46, 47] (hq := ?_)
        refine AX.seq ?_
        refine AX.condF (h := ?_)
        refine AX.exit ?_
        try simp only [zn1,zn2,zn3,zn4,zn5,zn6,zn7,zn8,if_true]
        refine ⟨2 * cntF k f + l'.length, _, id, ?_,
          leQ8
          , ⟨f, l', rfl, hfd, hm, (fun a' g1 g2 => by
              rcases hx a' g1 g2 with h | ⟨h, h'⟩ | h
              · exact .inl h
              · exact .inr h'
              · exact .inr h), hc, rfl⟩⟩
        omega
  · have e : i = n := by omega
    subst e
    rw [wr_full]
    refine AX.sregAV [1, 3, 12, 13, 14] (hq := ?_)
    refine AX.seq ?_
    refine AX.condF (h := ?_)
    refine AX.exit ?_
    try simp only [zn1,zn2,zn3,zn4,zn5,zn6,zn7,zn8,if_true]
    refine AX.sregAV [2] (hq := ?_)
    refine AX.ret (And.intro (Or.inl rfl) ?_)
    exact Done.slW rfl rfl
end Go.Proofs.YtepkjfnffbdcoaaGreat
