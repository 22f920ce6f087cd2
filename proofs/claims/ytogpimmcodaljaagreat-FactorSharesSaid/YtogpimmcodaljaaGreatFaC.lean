/- Factors: what is right (the reference's), what is the same, constants. -/
import Derived.Test.YtogpimmcodaljaaGreatFaB
set_option linter.unusedVariables false
set_option maxRecDepth 20000
set_option linter.unusedSimpArgs false
namespace Go.Proofs.YtogpimmcodaljaaGreat
open Go Go.Proofs.YtogpimmcodaljaaGreat.Lift
attribute [local irreducible] Lift.PCall Lift.HCall
set_option maxHeartbeats 8000000 in
theorem fright26_ok (vs ws : List Int) (xs : List RT) (hv : vs.length < 2 ^ 40) (ha : ws.length < 2 ^ 40) (hl : xs.length < 2 ^ 40) (hx : okX xs) : PCall Tryz.prog 19 [fV vs ws xs] (.b (isF vs ws xs)) [] := by
 have cs := fcells_ok ws ha
 have hno := fun h => isF_not (vs := vs) (ws := ws) (xs := xs) h
 have hyes := fun h => isF_cells (vs := vs) (ws := ws) (xs := xs) h
 have hlong := fun h => isF_long (vs := vs) (ws := ws) (xs := xs) h
 have hzv := zl_length vs
 have hza := zl_length ws
 have hgv := fun j (hj : j < vs.length) => zl_get hj
 have hga := fun j (hj : j < ws.length) => zl_get hj
 have hml : (xs.map fR).length = xs.length := List.length_map ..
 have hmg := fun j (hj : j < xs.length) => fun x y => effIxR (els := xs.map fR) (j := j) (x := x) (y := y) (by rw [hml]; exact hj) (getD_fR hj)
 have hall : ∀ j, j < xs.length → isR3 (xs.getD j d0) = false → xs.all isR3 = false := fun j hj hb => by
  rw [Bool.eq_false_iff]
  intro h
  have := List.all_eq_true.1 h _ (getD_mem_RT hj)
  rw [hb] at this
  cases this
 have hall1 : (∀ j, j < xs.length → isR3 (xs.getD j d0) = true) → xs.all isR3 = true := fun h => by
  rw [List.all_eq_true]
  intro x hx
  obtain ⟨j, hj, e⟩ := List.getElem_of_mem hx
  have := h j hj
  rw [List.getD_eq_getElem?_getD, List.getElem?_eq_getElem hj] at this
  rw [← e]
  exact this
 generalize isF vs ws xs = w at *
 generalize xs.all isR3 = wc at *
 refine PCall.of_ax Tryz.call19 Tryz.func19 rfl (by simp [Tryz.ntmps19]) fun O w0 => ?_
 simp only [Tryz.ntmps19, Tryz.results19, argFr]
 unfold fV
 generalize zl vs = Vs at *
 generalize zl ws = As at *
 generalize xs.map fR = X at *
 refine AX.sR (rgAV [1]) ?_
 refine AX.seq ?_
 by_cases h0 : 64 < vs.length
 ·obtain rfl := hlong h0
  refine AX.sR (rgWV [1, 20] (aI @hzv oT) oT) ?_
  refine AX.condT ?_
  refine AX.sR (rgAV [2]) ?_
  refine AX.ret ⟨.inl rfl, ?_⟩
  exact Done.one rfl rfl rfl rfl
 by_cases h1 : ws.length = vs.length
 ·have hl1 : (ws.length : Int) = (vs.length : Int) := by omega
  refine AX.sR (rgWV [1, 20] (aI @hzv (aI @hza (aI @hl1 oT))) oT) ?_
  refine AX.condF ?_
  refine AX.keepA [1] ?_
  refine AX.skip ?_
  refine nmZ ?_
  refine AX.seq ?_
  refine AX.sR (rgWV [1, 22, 23, 24] (aI @hzv oT) oT) ?_
  refine AX.weaken id (st' := ⟨[(24, .i .i64 (0 : Nat)), (23, .i .i64 vs.length), (22, .sl Vs), (1, .ptr 0 0)], [(0, ⟨30, [.sl Vs, .sl As, .sl X]⟩)], 1⟩)
   leA
   ?_
  refine AX.block ?_
  refine AX.loop (fun N st => ∃ i : Nat, i ≤ vs.length ∧ N = vs.length - i ∧ (∀ j, j < i → okV vs ws j) ∧ st = ⟨[(24, .i .i64 i), (23, .i .i64 vs.length), (22, .sl Vs), (1, .ptr 0 0)], [(0, ⟨30, [.sl Vs, .sl As, .sl X]⟩)], 1⟩) vs.length ⟨0, Nat.zero_le _, rfl, fun j hj => absurd hj (Nat.not_lt_zero _), rfl⟩ ?_
  rintro N st ⟨i, hi, rfl, hp, rfl⟩
  by_cases h2 : i < vs.length
  ·have g1 := hgv i h2
   have g2 := hga i (by omega)
   have g3 := hgv (i - 1) (by omega)
   have hbad : ¬ okV vs ws i → w = false := fun hb => hno fun hh => hb (hh.2.1 i h2)
   have hok : okV vs ws i → ∀ j, j < i + 1 → okV vs ws j := fun hb j hj => by
    by_cases e : j = i
    ·rw [e]; exact hb
    ·exact hp j (by omega)
   unfold okV at hbad
   have hok' : (0 ≤ vs.getD i 0 ∧ vs.getD i 0 < 64 ∧ (i = 0 ∨ vs.getD (i - 1) 0 < vs.getD i 0) ∧ 1 ≤ ws.getD i 0 ∧ ws.getD i 0 ≤ 64) → ∀ j, j < i + 1 → okV vs ws j := hok
   clear hok hno hyes hgv hga hlong cs hmg hall hall1
   generalize vs.getD (i - 1) 0 = p at *
   generalize vs.getD i 0 = v at *
   generalize ws.getD i 0 = a at *
   refine AX.sR (rgAV [1, 22, 23, 24, 25]) ?_
   refine AX.seq ?_
   refine AX.condT ?_
   refine AX.keepA [1, 22, 23, 24] ?_
   refine AX.skip ?_
   refine nmZ ?_
   refine AX.seq ?_
   refine AX.block ?_
   refine AX.sR (rgWV [1, 3, 4, 22, 23, 24] (aI @hzv (aI @g1 oT)) oT) ?_
   by_cases k1 : v < 0
   ·obtain rfl := hbad (by omega)
    refine AX.sR (rgAV [1, 22, 23, 24, 64]) ?_
    refine AX.condT ?_
    refine AX.sR (rgAV [2]) ?_
    refine AX.ret ⟨.inl rfl, ?_⟩
    exact Done.one rfl rfl rfl rfl
   by_cases k2 : 63 < v
   ·obtain rfl := hbad (by omega)
    refine AX.sR (rgAV [1, 22, 23, 24, 64]) ?_
    refine AX.condT ?_
    refine AX.sR (rgAV [2]) ?_
    refine AX.ret ⟨.inl rfl, ?_⟩
    exact Done.one rfl rfl rfl rfl
   by_cases k3 : i = 0
   ·subst k3
    by_cases k4 : a < 1
    ·obtain rfl := hbad (by omega)
     refine AX.sR (rgWV [1, 22, 23, 24, 64] (aI @hza (aI @g2 oT)) oT) ?_
     refine AX.condT ?_
     refine AX.sR (rgAV [2]) ?_
     refine AX.ret ⟨.inl rfl, ?_⟩
     exact Done.one rfl rfl rfl rfl
    by_cases k5 : 64 < a
    ·obtain rfl := hbad (by omega)
     refine AX.sR (rgWV [1, 22, 23, 24, 64] (aI @hza (aI @g2 oT)) oT) ?_
     refine AX.condT ?_
     refine AX.sR (rgAV [2]) ?_
     refine AX.ret ⟨.inl rfl, ?_⟩
     exact Done.one rfl rfl rfl rfl
    have hp' := hok' (by omega)
    refine AX.sR (rgWV [1, 22, 23, 24, 64] (aI @hza (aI @g2 oT)) oT) ?_
    refine AX.condF ?_
    refine AX.keepA [1, 22, 23, 24] ?_
    refine AX.skip ?_
    refine nmZ ?_
    refine AX.rR (rgWV [1, 22, 23, 24] (aI @lit_add oT) oT) ?_
    refine nmZ ?_
    refine ⟨_, _, id, ?_,
     leA
     , ⟨0 + 1, by omega, rfl, hp', rfl⟩⟩
    omega
   ·have e1 : ((i : Int) - 1).toNat = i - 1 := by omega
    by_cases k6 : v ≤ p
    ·obtain rfl := hbad (by omega)
     refine AX.sR (rgWV [1, 22, 23, 24, 64] (aI @hzv (aI @e1 (aI @g3 oT))) oT) ?_
     refine AX.condT ?_
     refine AX.sR (rgAV [2]) ?_
     refine AX.ret ⟨.inl rfl, ?_⟩
     exact Done.one rfl rfl rfl rfl
    by_cases k4 : a < 1
    ·obtain rfl := hbad (by omega)
     refine AX.sR (rgWV [1, 22, 23, 24, 64] (aI @hzv (aI @e1 (aI @g3 (aI @hza (aI @g2 oT))))) oT) ?_
     refine AX.condT ?_
     refine AX.sR (rgAV [2]) ?_
     refine AX.ret ⟨.inl rfl, ?_⟩
     exact Done.one rfl rfl rfl rfl
    by_cases k5 : 64 < a
    ·obtain rfl := hbad (by omega)
     refine AX.sR (rgWV [1, 22, 23, 24, 64] (aI @hzv (aI @e1 (aI @g3 (aI @hza (aI @g2 oT))))) oT) ?_
     refine AX.condT ?_
     refine AX.sR (rgAV [2]) ?_
     refine AX.ret ⟨.inl rfl, ?_⟩
     exact Done.one rfl rfl rfl rfl
    have hp' := hok' (by omega)
    refine AX.sR (rgWV [1, 22, 23, 24, 64] (aI @hzv (aI @e1 (aI @g3 (aI @hza (aI @g2 oT))))) oT) ?_
    refine AX.condF ?_
    refine AX.keepA [1, 22, 23, 24] ?_
    refine AX.skip ?_
    refine nmZ ?_
    refine AX.rR (rgWV [1, 22, 23, 24] (aI @lit_add oT) oT) ?_
    refine nmZ ?_
    refine ⟨_, _, id, ?_,
     leA
     , ⟨i + 1, by omega, rfl, hp', rfl⟩⟩
    omega
  ·obtain rfl : i = vs.length := by omega
   have cs := cs fun j hj => ⟨(hp j (by omega)).2.2.2.1, (hp j (by omega)).2.2.2.2⟩
   have hpos : 1 ≤ prZ ws ws.length := prZ_mono (fun j hj => (hp j (by omega)).2.2.2.1) 0 (Nat.zero_le _)
   have hno1 : ¬ (prZ ws ws.length ≤ 4096 ∧ xs.length = prZ ws ws.length) → w = false := fun hb => hno fun hh => hb hh.2.2
   have hyes1 : (prZ ws ws.length ≤ 4096 ∧ xs.length = prZ ws ws.length) → w = wc := fun hb => hyes ⟨h1, hp, hb⟩
   unfold ceZ at cs
   clear hno hyes hgv hga hlong
   generalize prZ ws ws.length = P at *
   refine AX.sR (rgAV [1, 22, 23, 24, 25]) ?_
   refine AX.seq ?_
   refine AX.condF ?_
   refine AX.exit ?_
   refine nmZ ?_
   refine AX.seq ?_
   by_cases k1 : P ≤ 4096
   ·rw [if_pos k1] at cs
    refine AX.sR (rgCV [1, 5] (aI cs oT)) ?_
    by_cases k2 : P = xs.length
    ·obtain rfl := hyes1 ⟨k1, k2.symm⟩
     subst k2
     have k3 : ¬ ((xs.length : Int) = 0) := by omega
     refine AX.sR (rgWV [1, 77] (aI @hml (aI @k3 oT)) oT) ?_
     refine AX.condF ?_
     refine AX.keepA [1] ?_
     refine AX.skip ?_
     refine nmZ ?_
     refine AX.seq ?_
     refine AX.sR (rgWV [79, 80, 81] (aI @hml oT) oT) ?_
     refine AX.weaken id (st' := ⟨[(81, .i .i64 (0 : Nat)), (80, .i .i64 xs.length), (79, .sl X)], [], 1⟩)
      leA
      ?_
     refine AX.block ?_
     refine AX.loop (fun N st => ∃ i : Nat, i ≤ xs.length ∧ N = xs.length - i ∧ (∀ j, j < i → isR3 (xs.getD j d0) = true) ∧ st = ⟨[(81, .i .i64 i), (80, .i .i64 xs.length), (79, .sl X)], [], 1⟩) xs.length ⟨0, Nat.zero_le _, rfl, fun j hj => absurd hj (Nat.not_lt_zero _), rfl⟩ ?_
     rintro N st ⟨i, hi, rfl, hp2, rfl⟩
     by_cases h4 : i < xs.length
     ·have hg := hmg i h4
      obtain ⟨d1, d2, d3, d4⟩ := hx _ (getD_mem_RT h4)
      have c1 := wR3_ok _ d1 d2 d3 d4
      have hb1 := hall i h4
      have hb2 : isR3 (xs.getD i d0) = true → ∀ j, j < i + 1 → isR3 (xs.getD j d0) = true := fun hb j hj => by
       by_cases e : j = i
       ·rw [e]; exact hb
       ·exact hp2 j (by omega)
      clear hmg hall hall1 hx hp hp2 hno1 hyes1 d1 d2 d3 d4
      generalize xs.getD i d0 = x at hg c1 hb1 hb2
      obtain ⟨s, a, b⟩ := x
      unfold rR at c1
      refine AX.sR (rgAV [79, 80, 81, 82]) ?_
      refine AX.seq ?_
      refine AX.condT ?_
      refine AX.keepA [79, 80, 81] ?_
      refine AX.skip ?_
      refine nmZ ?_
      refine AX.seq ?_
      refine AX.block ?_
      refine AX.sR (rgEV [7, 79, 80, 81] oT oT (aI hg oT)) ?_
      cases hb : isR3 (s, a, b)
      ·obtain rfl := hb1 hb
       rw [hb] at c1
       refine AX.sR (rgCV [79, 80, 81, 87] (aI c1 oT)) ?_
       refine AX.condT ?_
       refine AX.sR (rgAV [2]) ?_
       refine AX.ret ⟨.inl rfl, ?_⟩
       exact Done.one rfl rfl rfl rfl
      ·have hp3 := hb2 hb
       rw [hb] at c1
       refine AX.sR (rgCV [79, 80, 81, 87] (aI c1 oT)) ?_
       refine AX.condF ?_
       refine AX.keepA [79, 80, 81] ?_
       refine AX.skip ?_
       refine nmZ ?_
       refine AX.rR (rgWV [79, 80, 81] (aI @lit_add oT) oT) ?_
       refine nmZ ?_
       refine ⟨_, _, id, ?_,
        leA
        , ⟨i + 1, by omega, rfl, hp3, rfl⟩⟩
       omega
     ·obtain rfl : i = xs.length := by omega
      obtain rfl := hall1 hp2
      refine AX.sR (rgAV [79, 80, 81, 82]) ?_
      refine AX.seq ?_
      refine AX.condF ?_
      refine AX.exit ?_
      refine nmZ ?_
      refine AX.sR (rgAV [2]) ?_
      refine AX.ret ⟨.inl rfl, ?_⟩
      exact Done.one rfl rfl rfl rfl
    ·obtain rfl := hno1 (fun h => k2 h.2.symm)
     have k3 : ¬ ((P : Int) = 0) := by omega
     have k4 : ¬ ((P : Int) = (xs.length : Int)) := by omega
     refine AX.sR (rgWV [1, 77] (aI @hml (aI @k3 (aI @k4 oT))) oT) ?_
     refine AX.condT ?_
     refine AX.sR (rgAV [2]) ?_
     refine AX.ret ⟨.inl rfl, ?_⟩
     exact Done.one rfl rfl rfl rfl
   ·obtain rfl := hno1 (fun h => k1 h.1)
    rw [if_neg k1] at cs
    refine AX.sR (rgCV [1, 5] (aI cs oT)) ?_
    refine AX.sR (rgAV [1, 77]) ?_
    refine AX.condT ?_
    refine AX.sR (rgAV [2]) ?_
    refine AX.ret ⟨.inl rfl, ?_⟩
    exact Done.one rfl rfl rfl rfl
 ·obtain rfl := hno (fun h => h1 h.1)
  have hl1 : ¬ ((ws.length : Int) = (vs.length : Int)) := by omega
  refine AX.sR (rgWV [1, 20] (aI @hzv (aI @hza (aI @hl1 oT))) oT) ?_
  refine AX.condT ?_
  refine AX.sR (rgAV [2]) ?_
  refine AX.ret ⟨.inl rfl, ?_⟩
  exact Done.one rfl rfl rfl rfl
theorem list_eq {l l' : List Int} (hl : l.length = l'.length) (h : ∀ j, j < l.length → l.getD j 0 = l'.getD j 0) : l = l' := by
 apply List.ext_getElem hl
 intro j h1 h2
 have := h j h1
 rwa [List.getD_eq_getElem?_getD, List.getD_eq_getElem?_getD, List.getElem?_eq_getElem h1, List.getElem?_eq_getElem h2] at this
set_option maxHeartbeats 4000000 in
theorem mints_ok (l l' : List Int) (h1 : l.length < 2 ^ 40) (h2 : l'.length < 2 ^ 40) : PCall Tryz.prog 48 [.sl (zl l), .sl (zl l')] (.b (decide (l = l'))) [] := by
 have hno1 : l.length ≠ l'.length → decide (l = l') = false := fun h => decide_eq_false fun e => h (by rw [e])
 have hno2 : ∀ j, j < l.length → l.getD j 0 ≠ l'.getD j 0 → decide (l = l') = false := fun j hj h => decide_eq_false fun e => h (by rw [e])
 have hyes : l.length = l'.length → (∀ j, j < l.length → l.getD j 0 = l'.getD j 0) → decide (l = l') = true := fun h h' => decide_eq_true (list_eq h h')
 have hz1 := zl_length l
 have hz2 := zl_length l'
 have hg1 := fun j (hj : j < l.length) => zl_get hj
 have hg2 := fun j (hj : j < l'.length) => zl_get hj
 generalize decide (l = l') = w at *
 generalize zl l = A at *
 generalize zl l' = B at *
 refine PCall.of_ax Tryz.call48 Tryz.func48 rfl (by simp [Tryz.ntmps48]) fun O w0 => ?_
 simp only [Tryz.ntmps48, Tryz.results48, argFr]
 refine AX.sR (rgAV [0, 1]) ?_
 refine AX.seq ?_
 by_cases k1 : l.length = l'.length
 ·have k2 : (l.length : Int) = (l'.length : Int) := by omega
  refine AX.sR (rgWV [0, 1, 10] (aI @hz1 (aI @hz2 (aI @k2 oT))) oT) ?_
  refine AX.condF ?_
  refine AX.keepA [0, 1] ?_
  refine AX.skip ?_
  refine nmZ ?_
  refine AX.seq ?_
  refine AX.sR (rgWV [0, 1, 12, 13] (aI @hz1 oT) oT) ?_
  refine AX.weaken id (st' := ⟨[(13, .i .i64 (0 : Nat)), (12, .i .i64 l.length), (1, .sl B), (0, .sl A)], [], 0⟩)
   leA
   ?_
  refine AX.block ?_
  refine AX.loop (fun N st => ∃ i : Nat, i ≤ l.length ∧ N = l.length - i ∧ (∀ j, j < i → l.getD j 0 = l'.getD j 0) ∧ st = ⟨[(13, .i .i64 i), (12, .i .i64 l.length), (1, .sl B), (0, .sl A)], [], 0⟩) l.length ⟨0, Nat.zero_le _, rfl, fun j hj => absurd hj (Nat.not_lt_zero _), rfl⟩ ?_
  rintro N st ⟨i, hi, rfl, hp, rfl⟩
  by_cases h3 : i < l.length
  ·have g1 := hg1 i h3
   have g2 := hg2 i (by omega)
   have hn := hno2 i h3
   have hp' : l.getD i 0 = l'.getD i 0 → ∀ j, j < i + 1 → l.getD j 0 = l'.getD j 0 := fun hb j hj => by
    by_cases e : j = i
    ·rw [e]; exact hb
    ·exact hp j (by omega)
   clear hp hg1 hg2 hno1 hno2 hyes
   generalize l.getD i 0 = a at g1 hn hp'
   generalize l'.getD i 0 = b at g2 hn hp'
   refine AX.sR (rgAV [0, 1, 12, 13, 14]) ?_
   refine AX.seq ?_
   refine AX.condT ?_
   refine AX.keepA [0, 1, 12, 13] ?_
   refine AX.skip ?_
   refine nmZ ?_
   refine AX.seq ?_
   refine AX.block ?_
   refine AX.sR (rgAV [0, 1, 5, 12, 13]) ?_
   by_cases e : a = b
   ·have hp'' := hp' e
    subst e
    refine AX.sD (rgDWV [0, 1, 12, 13, 24] (aI @hz1 (aI @hz2 (aI @g1 (aI @g2 oT)))) oT) ?_
    refine AX.condF ?_
    refine AX.keepA [0, 1, 12, 13] ?_
    refine AX.skip ?_
    refine nmZ ?_
    refine AX.rR (rgWV [0, 1, 12, 13] (aI @lit_add oT) oT) ?_
    refine nmZ ?_
    refine ⟨_, _, id, ?_,
     leA
     , ⟨i + 1, by omega, rfl, hp'', rfl⟩⟩
    omega
   ·obtain rfl := hn e
    refine AX.sD (rgDWV [0, 1, 12, 13, 24] (aI @hz1 (aI @hz2 (aI @g1 (aI @g2 (aI @e oT))))) oT) ?_
    refine AX.condT ?_
    refine AX.sR (rgAV [4]) ?_
    refine AX.ret ⟨.inl rfl, ?_⟩
    exact Done.one rfl rfl rfl rfl
  ·obtain rfl : i = l.length := by omega
   obtain rfl := hyes k1 hp
   refine AX.sR (rgAV [0, 1, 12, 13, 14]) ?_
   refine AX.seq ?_
   refine AX.condF ?_
   refine AX.exit ?_
   refine nmZ ?_
   refine AX.sR (rgAV [4]) ?_
   refine AX.ret ⟨.inl rfl, ?_⟩
   exact Done.one rfl rfl rfl rfl
 ·obtain rfl := hno1 k1
  have k2 : ¬ ((l.length : Int) = (l'.length : Int)) := by omega
  refine AX.sR (rgWV [0, 1, 10] (aI @hz1 (aI @hz2 (aI @k2 oT))) oT) ?_
  refine AX.condT ?_
  refine AX.sR (rgAV [4]) ?_
  refine AX.ret ⟨.inl rfl, ?_⟩
  exact Done.one rfl rfl rfl rfl
set_option maxHeartbeats 4000000 in
theorem wints_ok (l l' : List Int) (h1 : l.length < 2 ^ 40) (h2 : l'.length < 2 ^ 40) : PCall Tryz.prog 72 [.sl (zl l), .sl (zl l')] (.b (decide (l = l'))) [] := by
 have hno1 : l.length ≠ l'.length → decide (l = l') = false := fun h => decide_eq_false fun e => h (by rw [e])
 have hno2 : ∀ j, j < l.length → l.getD j 0 ≠ l'.getD j 0 → decide (l = l') = false := fun j hj h => decide_eq_false fun e => h (by rw [e])
 have hyes : l.length = l'.length → (∀ j, j < l.length → l.getD j 0 = l'.getD j 0) → decide (l = l') = true := fun h h' => decide_eq_true (list_eq h h')
 have hz1 := zl_length l
 have hz2 := zl_length l'
 have hg1 := fun j (hj : j < l.length) => zl_get hj
 have hg2 := fun j (hj : j < l'.length) => zl_get hj
 generalize decide (l = l') = w at *
 generalize zl l = A at *
 generalize zl l' = B at *
 refine PCall.of_ax Tryz.call72 Tryz.func72 rfl (by simp [Tryz.ntmps72]) fun O w0 => ?_
 simp only [Tryz.ntmps72, Tryz.results72, argFr]
 refine AX.sR (rgAV [0, 1]) ?_
 refine AX.seq ?_
 by_cases k1 : l.length = l'.length
 ·have k2 : (l.length : Int) = (l'.length : Int) := by omega
  refine AX.sR (rgWV [0, 1, 10] (aI @hz1 (aI @hz2 (aI @k2 oT))) oT) ?_
  refine AX.condF ?_
  refine AX.keepA [0, 1] ?_
  refine AX.skip ?_
  refine nmZ ?_
  refine AX.seq ?_
  refine AX.sR (rgWV [0, 1, 12, 13] (aI @hz1 oT) oT) ?_
  refine AX.weaken id (st' := ⟨[(13, .i .i64 (0 : Nat)), (12, .i .i64 l.length), (1, .sl B), (0, .sl A)], [], 0⟩)
   leA
   ?_
  refine AX.block ?_
  refine AX.loop (fun N st => ∃ i : Nat, i ≤ l.length ∧ N = l.length - i ∧ (∀ j, j < i → l.getD j 0 = l'.getD j 0) ∧ st = ⟨[(13, .i .i64 i), (12, .i .i64 l.length), (1, .sl B), (0, .sl A)], [], 0⟩) l.length ⟨0, Nat.zero_le _, rfl, fun j hj => absurd hj (Nat.not_lt_zero _), rfl⟩ ?_
  rintro N st ⟨i, hi, rfl, hp, rfl⟩
  by_cases h3 : i < l.length
  ·have g1 := hg1 i h3
   have g2 := hg2 i (by omega)
   have hn := hno2 i h3
   have hp' : l.getD i 0 = l'.getD i 0 → ∀ j, j < i + 1 → l.getD j 0 = l'.getD j 0 := fun hb j hj => by
    by_cases e : j = i
    ·rw [e]; exact hb
    ·exact hp j (by omega)
   clear hp hg1 hg2 hno1 hno2 hyes
   generalize l.getD i 0 = a at g1 hn hp'
   generalize l'.getD i 0 = b at g2 hn hp'
   refine AX.sR (rgAV [0, 1, 12, 13, 14]) ?_
   refine AX.seq ?_
   refine AX.condT ?_
   refine AX.keepA [0, 1, 12, 13] ?_
   refine AX.skip ?_
   refine nmZ ?_
   refine AX.seq ?_
   refine AX.block ?_
   refine AX.sR (rgAV [0, 1, 5, 12, 13]) ?_
   by_cases e : a = b
   ·have hp'' := hp' e
    subst e
    refine AX.sD (rgDWV [0, 1, 12, 13, 24] (aI @hz1 (aI @hz2 (aI @g1 (aI @g2 oT)))) oT) ?_
    refine AX.condF ?_
    refine AX.keepA [0, 1, 12, 13] ?_
    refine AX.skip ?_
    refine nmZ ?_
    refine AX.rR (rgWV [0, 1, 12, 13] (aI @lit_add oT) oT) ?_
    refine nmZ ?_
    refine ⟨_, _, id, ?_,
     leA
     , ⟨i + 1, by omega, rfl, hp'', rfl⟩⟩
    omega
   ·obtain rfl := hn e
    refine AX.sD (rgDWV [0, 1, 12, 13, 24] (aI @hz1 (aI @hz2 (aI @g1 (aI @g2 (aI @e oT))))) oT) ?_
    refine AX.condT ?_
    refine AX.sR (rgAV [4]) ?_
    refine AX.ret ⟨.inl rfl, ?_⟩
    exact Done.one rfl rfl rfl rfl
  ·obtain rfl : i = l.length := by omega
   obtain rfl := hyes k1 hp
   refine AX.sR (rgAV [0, 1, 12, 13, 14]) ?_
   refine AX.seq ?_
   refine AX.condF ?_
   refine AX.exit ?_
   refine nmZ ?_
   refine AX.sR (rgAV [4]) ?_
   refine AX.ret ⟨.inl rfl, ?_⟩
   exact Done.one rfl rfl rfl rfl
 ·obtain rfl := hno1 k1
  have k2 : ¬ ((l.length : Int) = (l'.length : Int)) := by omega
  refine AX.sR (rgWV [0, 1, 10] (aI @hz1 (aI @hz2 (aI @k2 oT))) oT) ?_
  refine AX.condT ?_
  refine AX.sR (rgAV [4]) ?_
  refine AX.ret ⟨.inl rfl, ?_⟩
  exact Done.one rfl rfl rfl rfl
def qv (x : RT) : Rat := rq x.1 (val x.2.1) (val x.2.2)
def okY (xs : List RT) : Prop := ∀ x ∈ xs, Dg x.2.1 ∧ Dg x.2.2 ∧ x.2.1.length ≤ 2 ^ 30 ∧ x.2.2.length ≤ 2 ^ 30
theorem okY.x {xs : List RT} (h : okY xs) : okX xs := fun x hx => by
 obtain ⟨h1, h2, h3, h4⟩ := h x hx
 exact ⟨h1, h2, by omega, by omega⟩
def eqX (xs ys : List RT) : Bool := decide (xs.length = ys.length ∧ ∀ j, j < xs.length → qv (xs.getD j d0) = qv (ys.getD j d0))
theorem okY.isq {xs : List RT} (h : okY xs) {j : Nat} (hj : j < xs.length) : IsQ (.agg [.b (xs.getD j d0).1, dg (xs.getD j d0).2.1, dg (xs.getD j d0).2.2]) (qv (xs.getD j d0)) (2 ^ 30) := by
 obtain ⟨h1, h2, h3, h4⟩ := h _ (getD_mem_RT hj)
 exact IsQ.raw h1 h2 h3 h4
set_option maxHeartbeats 8000000 in
theorem feqf_ok (xs ys : List RT) (h1 : xs.length < 2 ^ 40) (h2 : ys.length < 2 ^ 40) (hx : okY xs) (hy : okY ys) : PCall Tryz.prog 49 [.sl (xs.map fR), .sl (ys.map fR), .fn 50 []] (.b (eqX xs ys)) [] := by
 have hno1 : xs.length ≠ ys.length → eqX xs ys = false := fun h => decide_eq_false fun e => h e.1
 have hno2 : ∀ j, j < xs.length → qv (xs.getD j d0) ≠ qv (ys.getD j d0) → eqX xs ys = false := fun j hj h => decide_eq_false fun e => h (e.2 j hj)
 have hyes : xs.length = ys.length → (∀ j, j < xs.length → qv (xs.getD j d0) = qv (ys.getD j d0)) → eqX xs ys = true := fun h h' => decide_eq_true ⟨h, h'⟩
 have hz1 : (xs.map fR).length = xs.length := List.length_map ..
 have hz2 : (ys.map fR).length = ys.length := List.length_map ..
 have hg1 := fun j (hj : j < xs.length) => fun x y => effIxR (els := xs.map fR) (j := j) (x := x) (y := y) (by rw [hz1]; exact hj) (getD_fR hj)
 have hg2 := fun j (hj : j < ys.length) => fun x y => effIxR (els := ys.map fR) (j := j) (x := x) (y := y) (by rw [hz2]; exact hj) (getD_fR hj)
 have hsm := fun j (hj : j < xs.length) (hj' : j < ys.length) => qsame_ok (hx.isq hj) (hy.isq hj') (by decide)
 generalize eqX xs ys = w at *
 generalize xs.map fR = A at *
 generalize ys.map fR = B at *
 refine PCall.of_ax Tryz.call49 Tryz.func49 rfl (by simp [Tryz.ntmps49]) fun O w0 => ?_
 simp only [Tryz.ntmps49, Tryz.results49, argFr]
 refine AX.sR (rgAV [0, 1, 2]) ?_
 refine AX.seq ?_
 by_cases k1 : xs.length = ys.length
 ·have k2 : (xs.length : Int) = (ys.length : Int) := by omega
  refine AX.sR (rgWV [0, 1, 2, 14] (aI @hz1 (aI @hz2 (aI @k2 oT))) oT) ?_
  refine AX.condF ?_
  refine AX.keepA [0, 1, 2] ?_
  refine AX.skip ?_
  refine nmZ ?_
  refine AX.seq ?_
  refine AX.sR (rgWV [1, 2, 15, 16, 17] (aI @hz1 oT) oT) ?_
  refine AX.weaken id (st' := ⟨[(17, .i .i64 (0 : Nat)), (16, .i .i64 xs.length), (15, .sl A), (2, .fn 50 []), (1, .sl B)], [], 0⟩)
   leA
   ?_
  refine AX.block ?_
  refine AX.loop (fun N st => ∃ i : Nat, i ≤ xs.length ∧ N = xs.length - i ∧ (∀ j, j < i → qv (xs.getD j d0) = qv (ys.getD j d0)) ∧ st = ⟨[(17, .i .i64 i), (16, .i .i64 xs.length), (15, .sl A), (2, .fn 50 []), (1, .sl B)], [], 0⟩) xs.length ⟨0, Nat.zero_le _, rfl, fun j hj => absurd hj (Nat.not_lt_zero _), rfl⟩ ?_
  rintro N st ⟨i, hi, rfl, hp, rfl⟩
  by_cases h3 : i < xs.length
  ·have g1 := hg1 i h3
   have g2 := hg2 i (by omega)
   have hn := hno2 i h3
   have cs := hsm i h3 (by omega)
   have hp' : qv (xs.getD i d0) = qv (ys.getD i d0) → ∀ j, j < i + 1 → qv (xs.getD j d0) = qv (ys.getD j d0) := fun hb j hj => by
    by_cases e : j = i
    ·rw [e]; exact hb
    ·exact hp j (by omega)
   clear hp hg1 hg2 hno1 hno2 hyes hsm hx hy
   generalize qv (xs.getD i d0) = p at *
   generalize qv (ys.getD i d0) = q at *
   generalize xs.getD i d0 = x at *
   generalize ys.getD i d0 = y at *
   obtain ⟨s, a, b⟩ := x
   obtain ⟨s', a', b'⟩ := y
   refine AX.sR (rgAV [1, 2, 15, 16, 17, 18]) ?_
   refine AX.seq ?_
   refine AX.condT ?_
   refine AX.keepA [1, 2, 15, 16, 17] ?_
   refine AX.skip ?_
   refine nmZ ?_
   refine AX.seq ?_
   refine AX.block ?_
   refine AX.sR (rgEV [1, 2, 7, 8, 15, 16, 17] oT oT (aI g1 oT)) ?_
   refine AX.sR (rgEV [2, 8, 9, 1, 15, 16, 17] oT oT (aI g2 oT)) ?_
   by_cases e : p = q
   ·have hp'' := hp' e
    rw [decide_eq_true e] at cs
    refine AX.sR (rgCV [1, 2, 15, 16, 17, 30] (aI cs oT)) ?_
    refine AX.condF ?_
    refine AX.keepA [1, 2, 15, 16, 17] ?_
    refine AX.skip ?_
    refine nmZ ?_
    refine AX.rR (rgWV [1, 2, 15, 16, 17] (aI @lit_add oT) oT) ?_
    refine nmZ ?_
    refine ⟨_, _, id, ?_,
     leA
     , ⟨i + 1, by omega, rfl, hp'', rfl⟩⟩
    omega
   ·obtain rfl := hn e
    rw [decide_eq_false e] at cs
    refine AX.sR (rgCV [1, 2, 15, 16, 17, 30] (aI cs oT)) ?_
    refine AX.condT ?_
    refine AX.sR (rgAV [6]) ?_
    refine AX.ret ⟨.inl rfl, ?_⟩
    exact Done.one rfl rfl rfl rfl
  ·obtain rfl : i = xs.length := by omega
   obtain rfl := hyes k1 hp
   refine AX.sR (rgAV [1, 2, 15, 16, 17, 18]) ?_
   refine AX.seq ?_
   refine AX.condF ?_
   refine AX.exit ?_
   refine nmZ ?_
   refine AX.sR (rgAV [6]) ?_
   refine AX.ret ⟨.inl rfl, ?_⟩
   exact Done.one rfl rfl rfl rfl
 ·obtain rfl := hno1 k1
  have k2 : ¬ ((xs.length : Int) = (ys.length : Int)) := by omega
  refine AX.sR (rgWV [0, 1, 2, 14] (aI @hz1 (aI @hz2 (aI @k2 oT))) oT) ?_
  refine AX.condT ?_
  refine AX.sR (rgAV [6]) ?_
  refine AX.ret ⟨.inl rfl, ?_⟩
  exact Done.one rfl rfl rfl rfl
def sameF (vs ws : List Int) (xs : List RT) (vs' ws' : List Int) (ys : List RT) : Bool := decide (vs = vs') && (decide (ws = ws') && eqX xs ys)
set_option maxHeartbeats 4000000 in
theorem fsame_ok (vs ws : List Int) (xs : List RT) (vs' ws' : List Int) (ys : List RT) (h1 : vs.length < 2 ^ 40) (h2 : ws.length < 2 ^ 40) (h3 : xs.length < 2 ^ 40) (h4 : vs'.length < 2 ^ 40) (h5 : ws'.length < 2 ^ 40) (h6 : ys.length < 2 ^ 40) (hx : okY xs) (hy : okY ys) :
  PCall Tryz.prog 23 [fV vs ws xs, fV vs' ws' ys] (.b (sameF vs ws xs vs' ws' ys)) [] := by
 have c1 := mints_ok vs vs' h1 h4
 have c2 := mints_ok ws ws' h2 h5
 have c3 := feqf_ok xs ys h3 h6 hx hy
 unfold sameF fV
 generalize decide (vs = vs') = w1 at *
 generalize decide (ws = ws') = w2 at *
 generalize eqX xs ys = w3 at *
 generalize zl vs = V1 at *
 generalize zl ws = V2 at *
 generalize zl vs' = V3 at *
 generalize zl ws' = V4 at *
 generalize xs.map fR = V5 at *
 generalize ys.map fR = V6 at *
 refine PCall.of_ax Tryz.call23 Tryz.func23 rfl (by simp [Tryz.ntmps23]) fun O w0 => ?_
 simp only [Tryz.ntmps23, Tryz.results23, argFr]
 refine AX.sR (rgAV [2, 3]) ?_
 cases w1
 ·refine AX.sR (rgCV [4] (aI c1 (aI c2 (aI c3 oT)))) ?_
  refine AX.ret ⟨.inl rfl, ?_⟩
  exact Done.one rfl rfl rfl rfl
 ·cases w2
  ·refine AX.sR (rgCV [4] (aI c1 (aI c2 (aI c3 oT)))) ?_
   refine AX.ret ⟨.inl rfl, ?_⟩
   exact Done.one rfl rfl rfl rfl
  ·refine AX.sR (rgCV [4] (aI c1 (aI c2 (aI c3 oT)))) ?_
   refine AX.ret ⟨.inl rfl, ?_⟩
   exact Done.one rfl rfl rfl rfl
set_option maxHeartbeats 8000000 in
theorem fsame26_ok (vs ws : List Int) (xs : List RT) (vs' ws' : List Int) (ys : List RT) (h1 : vs.length < 2 ^ 40) (h2 : ws.length < 2 ^ 40) (h3 : xs.length < 2 ^ 40) (h4 : vs'.length < 2 ^ 40) (h5 : ws'.length < 2 ^ 40) (h6 : ys.length < 2 ^ 40) (hx : okY xs) (hy : okY ys) :
  PCall Tryz.prog 39 [fV vs ws xs, fV vs' ws' ys] (.b (sameF vs ws xs vs' ws' ys)) [] := by
 have c1 := wints_ok vs vs' h1 h4
 have c2 := wints_ok ws ws' h2 h5
 have hno1 : xs.length ≠ ys.length → eqX xs ys = false := fun h => decide_eq_false fun e => h e.1
 have hno2 : ∀ j, j < xs.length → qv (xs.getD j d0) ≠ qv (ys.getD j d0) → eqX xs ys = false := fun j hj h => decide_eq_false fun e => h (e.2 j hj)
 have hyes : xs.length = ys.length → (∀ j, j < xs.length → qv (xs.getD j d0) = qv (ys.getD j d0)) → eqX xs ys = true := fun h h' => decide_eq_true ⟨h, h'⟩
 have hz1 : (xs.map fR).length = xs.length := List.length_map ..
 have hz2 : (ys.map fR).length = ys.length := List.length_map ..
 have hg1 := fun j (hj : j < xs.length) => fun x y => effIxR (els := xs.map fR) (j := j) (x := x) (y := y) (by rw [hz1]; exact hj) (getD_fR hj)
 have hg2 := fun j (hj : j < ys.length) => fun x y => effIxR (els := ys.map fR) (j := j) (x := x) (y := y) (by rw [hz2]; exact hj) (getD_fR hj)
 have hsm := fun j (hj : j < xs.length) (hj' : j < ys.length) => psame_ok (hx.isq hj) (hy.isq hj') (by decide) (by decide)
 unfold sameF fV
 generalize decide (vs = vs') = w1 at *
 generalize decide (ws = ws') = w2 at *
 generalize eqX xs ys = w3 at *
 generalize zl vs = V1 at *
 generalize zl ws = V2 at *
 generalize zl vs' = V3 at *
 generalize zl ws' = V4 at *
 generalize xs.map fR = A at *
 generalize ys.map fR = B at *
 refine PCall.of_ax Tryz.call39 Tryz.func39 rfl (by simp [Tryz.ntmps39]) fun O w0 => ?_
 simp only [Tryz.ntmps39, Tryz.results39, argFr]
 refine AX.sR (rgAV [2, 3]) ?_
 refine AX.seq ?_
 cases w1
 ·refine AX.sR (rgCV [2, 3, 28] (aI c1 (aI c2 oT))) ?_
  refine AX.condT ?_
  refine AX.sR (rgAV [4]) ?_
  refine AX.ret ⟨.inl rfl, ?_⟩
  exact Done.one rfl rfl rfl rfl
 cases w2
 ·refine AX.sR (rgCV [2, 3, 28] (aI c1 (aI c2 oT))) ?_
  refine AX.condT ?_
  refine AX.sR (rgAV [4]) ?_
  refine AX.ret ⟨.inl rfl, ?_⟩
  exact Done.one rfl rfl rfl rfl
 by_cases k1 : xs.length = ys.length
 ·have k2 : (xs.length : Int) = (ys.length : Int) := by omega
  refine AX.sR (rgWV [2, 3, 28] (aI @hz1 (aI @hz2 (aI @k2 oT))) (aI c1 (aI c2 oT))) ?_
  refine AX.condF ?_
  refine AX.keepA [2, 3] ?_
  refine AX.skip ?_
  refine nmZ ?_
  refine AX.seq ?_
  refine AX.sR (rgWV [2, 3, 31, 32] (aI @hz1 oT) oT) ?_
  refine AX.weaken id (st' := ⟨[(32, .i .i64 (0 : Nat)), (31, .i .i64 xs.length), (3, .ptr 1 0), (2, .ptr 0 0)], [(1, ⟨30, [.sl V3, .sl V4, .sl B]⟩), (0, ⟨30, [.sl V1, .sl V2, .sl A]⟩)], 2⟩)
   leA
   ?_
  refine AX.block ?_
  refine AX.loop (fun N st => ∃ i : Nat, i ≤ xs.length ∧ N = xs.length - i ∧ (∀ j, j < i → qv (xs.getD j d0) = qv (ys.getD j d0)) ∧ st = ⟨[(32, .i .i64 i), (31, .i .i64 xs.length), (3, .ptr 1 0), (2, .ptr 0 0)], [(1, ⟨30, [.sl V3, .sl V4, .sl B]⟩), (0, ⟨30, [.sl V1, .sl V2, .sl A]⟩)], 2⟩) xs.length ⟨0, Nat.zero_le _, rfl, fun j hj => absurd hj (Nat.not_lt_zero _), rfl⟩ ?_
  rintro N st ⟨i, hi, rfl, hp, rfl⟩
  by_cases h7 : i < xs.length
  ·have g1 := hg1 i h7
   have g2 := hg2 i (by omega)
   have hn := hno2 i h7
   have cs := hsm i h7 (by omega)
   have hp' : qv (xs.getD i d0) = qv (ys.getD i d0) → ∀ j, j < i + 1 → qv (xs.getD j d0) = qv (ys.getD j d0) := fun hb j hj => by
    by_cases e : j = i
    ·rw [e]; exact hb
    ·exact hp j (by omega)
   clear hp hg1 hg2 hno1 hno2 hyes hsm hx hy c1 c2
   generalize qv (xs.getD i d0) = p at *
   generalize qv (ys.getD i d0) = q at *
   generalize xs.getD i d0 = x at *
   generalize ys.getD i d0 = y at *
   obtain ⟨s, a, b⟩ := x
   obtain ⟨s', a', b'⟩ := y
   refine AX.sR (rgAV [2, 3, 31, 32, 33]) ?_
   refine AX.seq ?_
   refine AX.condT ?_
   refine AX.keepA [2, 3, 31, 32] ?_
   refine AX.skip ?_
   refine nmZ ?_
   refine AX.seq ?_
   refine AX.block ?_
   refine AX.sR (rgAV [2, 3, 5, 31, 32]) ?_
   by_cases e : p = q
   ·have hp'' := hp' e
    rw [decide_eq_true e] at cs
    refine AX.sD (rgDEV [2, 3, 31, 32, 46] oT (aI cs oT) (aI g1 (aI g2 oT))) ?_
    refine AX.condF ?_
    refine AX.keepA [2, 3, 31, 32] ?_
    refine AX.skip ?_
    refine nmZ ?_
    refine AX.rR (rgWV [2, 3, 31, 32] (aI @lit_add oT) oT) ?_
    refine nmZ ?_
    refine ⟨_, _, id, ?_,
     leA
     , ⟨i + 1, by omega, rfl, hp'', rfl⟩⟩
    omega
   ·obtain rfl := hn e
    rw [decide_eq_false e] at cs
    refine AX.sD (rgDEV [2, 3, 31, 32, 46] oT (aI cs oT) (aI g1 (aI g2 oT))) ?_
    refine AX.condT ?_
    refine AX.sR (rgAV [4]) ?_
    refine AX.ret ⟨.inl rfl, ?_⟩
    exact Done.one rfl rfl rfl rfl
  ·obtain rfl : i = xs.length := by omega
   obtain rfl := hyes k1 hp
   refine AX.sR (rgAV [2, 3, 31, 32, 33]) ?_
   refine AX.seq ?_
   refine AX.condF ?_
   refine AX.exit ?_
   refine nmZ ?_
   refine AX.sR (rgAV [4]) ?_
   refine AX.ret ⟨.inl rfl, ?_⟩
   exact Done.one rfl rfl rfl rfl
 ·obtain rfl := hno1 k1
  have k2 : ¬ ((xs.length : Int) = (ys.length : Int)) := by omega
  refine AX.sR (rgWV [2, 3, 28] (aI @hz1 (aI @hz2 (aI @k2 oT))) (aI c1 (aI c2 oT))) ?_
  refine AX.condT ?_
  refine AX.sR (rgAV [4]) ?_
  refine AX.ret ⟨.inl rfl, ?_⟩
  exact Done.one rfl rfl rfl rfl
theorem fown_ok {x : V} {q : Rat} {L : Nat} (h : IsQ x q L) (hL : L < 2 ^ 33) (hL1 : 1 ≤ L) : PCall Tryz.prog 28 [x] (rV q) [] := by
 have c0 : PCall Tryz.prog 52 [] (.agg [.b (decide ((0 : Rat).num < 0)), dg (digits (0 : Rat).num.natAbs), dg (digits (0 : Rat).den)]) [] := zero_ok
 have c1 : PCall Tryz.prog 47 [x, .agg [.b (decide ((0 : Rat).num < 0)), dg (digits (0 : Rat).num.natAbs), dg (digits (0 : Rat).den)]] (.agg [.b (decide ((q + 0).num < 0)), dg (digits (q + 0).num.natAbs), dg (digits (q + 0).den)]) [] := qadd_ok h (IsQ.of (q := 0) (Nat.le_trans (by decide +kernel : rL 0 ≤ 1) hL1)) (by omega)
 rw [Rat.add_zero] at c1
 obtain ⟨s, a, b, rfl, _⟩ := h
 unfold rR at *
 refine PCall.of_ax Tryz.call28 Tryz.func28 rfl (by simp [Tryz.ntmps28]) fun O w0 => ?_
 simp only [Tryz.ntmps28, Tryz.results28, argFr]
 refine AX.sR (rgAV [1, 2]) ?_
 refine AX.sD (rgDCV [2] (aI c0 (aI c1 oT))) ?_
 refine AX.ret ⟨.inl rfl, ?_⟩
 exact Done.cell rfl rfl
end Go.Proofs.YtogpimmcodaljaaGreat
