/- Factors: what is right (the reference's), what is the same, constants. -/
import Derived.Test.YtogpimmcodaljaaFaB
set_option linter.unusedVariables false
set_option maxRecDepth 20000
set_option linter.unusedSimpArgs false
namespace Go.Proofs.Ytogpimmcodaljaa
open Go Go.Proofs.Ytogpimmcodaljaa.Lift
attribute [local irreducible] Lift.PCall Lift.HCall
set_option maxHeartbeats 8000000 in
theorem fright26_ok (vs ws : List Int) (xs : List RT) (hv : vs.length < 2 ^ 40) (ha : ws.length < 2 ^ 40) (hl : xs.length < 2 ^ 40) (hx : okX xs) : PCall Try.prog 14 [fV vs ws xs] (.b (isF vs ws xs)) [] := by
 have cs := fcells_ok ws ha
 have hno := fun h => isF_not (vs := vs) (ws := ws) (xs := xs) h
 have hyes := fun h => isF_cells (vs := vs) (ws := ws) (xs := xs) h
 have hlong := fun h => isF_long (vs := vs) (ws := ws) (xs := xs) h
 have hzv := zl_length vs
 have hza := zl_length ws
 have hgv := fun j (hj : j < vs.length) => zl_get hj
 have hga := fun j (hj : j < ws.length) => zl_get hj
 have hml : (xs.map fR).length = xs.length := List.length_map ..
 have hmg := fun j (hj : j < xs.length) => fun x y => effIxR (els := xs.map fR) (j := j) (x := x) (y := y) (by rw [hml]; exact hj) (getD_fR hj)
 have hall : ∀ j, j < xs.length → isR3 (xs.getD j d0) = false → xs.all isR3 = false := fun j hj hb => by
  rw [Bool.eq_false_iff]
  intro h
  have := List.all_eq_true.1 h _ (getD_mem_RT hj)
  rw [hb] at this
  cases this
 have hall1 : (∀ j, j < xs.length → isR3 (xs.getD j d0) = true) → xs.all isR3 = true := fun h => by
  rw [List.all_eq_true]
  intro x hx
  obtain ⟨j, hj, e⟩ := List.getElem_of_mem hx
  have := h j hj
  rw [List.getD_eq_getElem?_getD, List.getElem?_eq_getElem hj] at this
  rw [← e]
  exact this
 generalize isF vs ws xs = w at *
 generalize xs.all isR3 = wc at *
 refine PCall.of_ax Try.call14 Try.func14 rfl (by simp [Try.ntmps14]) fun O w0 => ?_
 simp only [Try.ntmps14, Try.results14, argFr]
 unfold fV
 generalize zl vs = Vs at *
 generalize zl ws = As at *
 generalize xs.map fR = X at *
 refine AX.sR (rgAV [1]) ?_
 refine AX.seq ?_
 by_cases h0 : 64 < vs.length
 ·obtain rfl := hlong h0
  refine AX.sR (rgWV [1, 20] (aI @hzv oT) oT) ?_
  refine AX.condT ?_
  refine AX.sR (rgAV [2]) ?_
  refine AX.ret ⟨.inl rfl, ?_⟩
  exact Done.one rfl rfl rfl rfl
 by_cases h1 : ws.length = vs.length
 ·have hl1 : (ws.length : Int) = (vs.length : Int) := by omega
  refine AX.sR (rgWV [1, 20] (aI @hzv (aI @hza (aI @hl1 oT))) oT) ?_
  refine AX.condF ?_
  refine AX.keepA [1] ?_
  refine AX.skip ?_
  refine nmZ ?_
  refine AX.seq ?_
  refine AX.sR (rgWV [1, 22, 23, 24] (aI @hzv oT) oT) ?_
  refine AX.weaken id (st' := ⟨[(24, .i .i64 (0 : Nat)), (23, .i .i64 vs.length), (22, .sl Vs), (1, .ptr 0 0)], [(0, ⟨35, [.sl Vs, .sl As, .sl X]⟩)], 1⟩)
   leA
   ?_
  refine AX.block ?_
  refine AX.loop (fun N st => ∃ i : Nat, i ≤ vs.length ∧ N = vs.length - i ∧ (∀ j, j < i → okV vs ws j) ∧ st = ⟨[(24, .i .i64 i), (23, .i .i64 vs.length), (22, .sl Vs), (1, .ptr 0 0)], [(0, ⟨35, [.sl Vs, .sl As, .sl X]⟩)], 1⟩) vs.length ⟨0, Nat.zero_le _, rfl, fun j hj => absurd hj (Nat.not_lt_zero _), rfl⟩ ?_
  rintro N st ⟨i, hi, rfl, hp, rfl⟩
  by_cases h2 : i < vs.length
  ·have g1 := hgv i h2
   have g2 := hga i (by omega)
   have g3 := hgv (i - 1) (by omega)
   have hbad : ¬ okV vs ws i → w = false := fun hb => hno fun hh => hb (hh.2.1 i h2)
   have hok : okV vs ws i → ∀ j, j < i + 1 → okV vs ws j := fun hb j hj => by
    by_cases e : j = i
    ·rw [e]; exact hb
    ·exact hp j (by omega)
   unfold okV at hbad
   have hok' : (0 ≤ vs.getD i 0 ∧ vs.getD i 0 < 64 ∧ (i = 0 ∨ vs.getD (i - 1) 0 < vs.getD i 0) ∧ 1 ≤ ws.getD i 0 ∧ ws.getD i 0 ≤ 64) → ∀ j, j < i + 1 → okV vs ws j := hok
   clear hok hno hyes hgv hga hlong cs hmg hall hall1
   generalize vs.getD (i - 1) 0 = p at *
   generalize vs.getD i 0 = v at *
   generalize ws.getD i 0 = a at *
   refine AX.sR (rgAV [1, 22, 23, 24, 25]) ?_
   refine AX.seq ?_
   refine AX.condT ?_
   refine AX.keepA [1, 22, 23, 24] ?_
   refine AX.skip ?_
   refine nmZ ?_
   refine AX.seq ?_
   refine AX.block ?_
   refine AX.sR (rgWV [1, 3, 4, 22, 23, 24] (aI @hzv (aI @g1 oT)) oT) ?_
   by_cases k1 : v < 0
   ·obtain rfl := hbad (by omega)
    refine AX.sR (rgAV [1, 22, 23, 24, 64]) ?_
    refine AX.condT ?_
    refine AX.sR (rgAV [2]) ?_
    refine AX.ret ⟨.inl rfl, ?_⟩
    exact Done.one rfl rfl rfl rfl
   by_cases k2 : 63 < v
   ·obtain rfl := hbad (by omega)
    refine AX.sR (rgAV [1, 22, 23, 24, 64]) ?_
    refine AX.condT ?_
    refine AX.sR (rgAV [2]) ?_
    refine AX.ret ⟨.inl rfl, ?_⟩
    exact Done.one rfl rfl rfl rfl
   by_cases k3 : i = 0
   ·subst k3
    by_cases k4 : a < 1
    ·obtain rfl := hbad (by omega)
     refine AX.sR (rgWV [1, 22, 23, 24, 64] (aI @hza (aI @g2 oT)) oT) ?_
     refine AX.condT ?_
     refine AX.sR (rgAV [2]) ?_
     refine AX.ret ⟨.inl rfl, ?_⟩
     exact Done.one rfl rfl rfl rfl
    by_cases k5 : 64 < a
    ·obtain rfl := hbad (by omega)
     refine AX.sR (rgWV [1, 22, 23, 24, 64] (aI @hza (aI @g2 oT)) oT) ?_
     refine AX.condT ?_
     refine AX.sR (rgAV [2]) ?_
     refine AX.ret ⟨.inl rfl, ?_⟩
     exact Done.one rfl rfl rfl rfl
    have hp' := hok' (by omega)
    refine AX.sR (rgWV [1, 22, 23, 24, 64] (aI @hza (aI @g2 oT)) oT) ?_
    refine AX.condF ?_
    refine AX.keepA [1, 22, 23, 24] ?_
    refine AX.skip ?_
    refine nmZ ?_
    refine AX.rR (rgWV [1, 22, 23, 24] (aI @lit_add oT) oT) ?_
    refine nmZ ?_
    refine ⟨_, _, id, ?_,
     leA
     , ⟨0 + 1, by omega, rfl, hp', rfl⟩⟩
    omega
   ·have e1 : ((i : Int) - 1).toNat = i - 1 := by omega
    by_cases k6 : v ≤ p
    ·obtain rfl := hbad (by omega)
     refine AX.sR (rgWV [1, 22, 23, 24, 64] (aI @hzv (aI @e1 (aI @g3 oT))) oT) ?_
     refine AX.condT ?_
     refine AX.sR (rgAV [2]) ?_
     refine AX.ret ⟨.inl rfl, ?_⟩
     exact Done.one rfl rfl rfl rfl
    by_cases k4 : a < 1
    ·obtain rfl := hbad (by omega)
     refine AX.sR (rgWV [1, 22, 23, 24, 64] (aI @hzv (aI @e1 (aI @g3 (aI @hza (aI @g2 oT))))) oT) ?_
     refine AX.condT ?_
     refine AX.sR (rgAV [2]) ?_
     refine AX.ret ⟨.inl rfl, ?_⟩
     exact Done.one rfl rfl rfl rfl
    by_cases k5 : 64 < a
    ·obtain rfl := hbad (by omega)
     refine AX.sR (rgWV [1, 22, 23, 24, 64] (aI @hzv (aI @e1 (aI @g3 (aI @hza (aI @g2 oT))))) oT) ?_
     refine AX.condT ?_
     refine AX.sR (rgAV [2]) ?_
     refine AX.ret ⟨.inl rfl, ?_⟩
     exact Done.one rfl rfl rfl rfl
    have hp' := hok' (by omega)
    refine AX.sR (rgWV [1, 22, 23, 24, 64] (aI @hzv (aI @e1 (aI @g3 (aI @hza (aI @g2 oT))))) oT) ?_
    refine AX.condF ?_
    refine AX.keepA [1, 22, 23, 24] ?_
    refine AX.skip ?_
    refine nmZ ?_
    refine AX.rR (rgWV [1, 22, 23, 24] (aI @lit_add oT) oT) ?_
    refine nmZ ?_
    refine ⟨_, _, id, ?_,
     leA
     , ⟨i + 1, by omega, rfl, hp', rfl⟩⟩
    omega
  ·obtain rfl : i = vs.length := by omega
   have cs := cs fun j hj => ⟨(hp j (by omega)).2.2.2.1, (hp j (by omega)).2.2.2.2⟩
   have hpos : 1 ≤ prZ ws ws.length := prZ_mono (fun j hj => (hp j (by omega)).2.2.2.1) 0 (Nat.zero_le _)
   have hno1 : ¬ (prZ ws ws.length ≤ 4096 ∧ xs.length = prZ ws ws.length) → w = false := fun hb => hno fun hh => hb hh.2.2
   have hyes1 : (prZ ws ws.length ≤ 4096 ∧ xs.length = prZ ws ws.length) → w = wc := fun hb => hyes ⟨h1, hp, hb⟩
   unfold ceZ at cs
   clear hno hyes hgv hga hlong
   generalize prZ ws ws.length = P at *
   refine AX.sR (rgAV [1, 22, 23, 24, 25]) ?_
   refine AX.seq ?_
   refine AX.condF ?_
   refine AX.exit ?_
   refine nmZ ?_
   refine AX.seq ?_
   by_cases k1 : P ≤ 4096
   ·rw [if_pos k1] at cs
    refine AX.sR (rgCV [1, 5] (aI cs oT)) ?_
    by_cases k2 : P = xs.length
    ·obtain rfl := hyes1 ⟨k1, k2.symm⟩
     subst k2
     have k3 : ¬ ((xs.length : Int) = 0) := by omega
     refine AX.sR (rgWV [1, 77] (aI @hml (aI @k3 oT)) oT) ?_
     refine AX.condF ?_
     refine AX.keepA [1] ?_
     refine AX.skip ?_
     refine nmZ ?_
     refine AX.seq ?_
     refine AX.sR (rgWV [79, 80, 81] (aI @hml oT) oT) ?_
     refine AX.weaken id (st' := ⟨[(81, .i .i64 (0 : Nat)), (80, .i .i64 xs.length), (79, .sl X)], [], 1⟩)
      leA
      ?_
     refine AX.block ?_
     refine AX.loop (fun N st => ∃ i : Nat, i ≤ xs.length ∧ N = xs.length - i ∧ (∀ j, j < i → isR3 (xs.getD j d0) = true) ∧ st = ⟨[(81, .i .i64 i), (80, .i .i64 xs.length), (79, .sl X)], [], 1⟩) xs.length ⟨0, Nat.zero_le _, rfl, fun j hj => absurd hj (Nat.not_lt_zero _), rfl⟩ ?_
     rintro N st ⟨i, hi, rfl, hp2, rfl⟩
     by_cases h4 : i < xs.length
     ·have hg := hmg i h4
      obtain ⟨d1, d2, d3, d4⟩ := hx _ (getD_mem_RT h4)
      have c1 := wR3_ok _ d1 d2 d3 d4
      have hb1 := hall i h4
      have hb2 : isR3 (xs.getD i d0) = true → ∀ j, j < i + 1 → isR3 (xs.getD j d0) = true := fun hb j hj => by
       by_cases e : j = i
       ·rw [e]; exact hb
       ·exact hp2 j (by omega)
      clear hmg hall hall1 hx hp hp2 hno1 hyes1 d1 d2 d3 d4
      generalize xs.getD i d0 = x at hg c1 hb1 hb2
      obtain ⟨s, a, b⟩ := x
      unfold rR at c1
      refine AX.sR (rgAV [79, 80, 81, 82]) ?_
      refine AX.seq ?_
      refine AX.condT ?_
      refine AX.keepA [79, 80, 81] ?_
      refine AX.skip ?_
      refine nmZ ?_
      refine AX.seq ?_
      refine AX.block ?_
      refine AX.sR (rgEV [7, 79, 80, 81] oT oT (aI hg oT)) ?_
      cases hb : isR3 (s, a, b)
      ·obtain rfl := hb1 hb
       rw [hb] at c1
       refine AX.sR (rgCV [79, 80, 81, 87] (aI c1 oT)) ?_
       refine AX.condT ?_
       refine AX.sR (rgAV [2]) ?_
       refine AX.ret ⟨.inl rfl, ?_⟩
       exact Done.one rfl rfl rfl rfl
      ·have hp3 := hb2 hb
       rw [hb] at c1
       refine AX.sR (rgCV [79, 80, 81, 87] (aI c1 oT)) ?_
       refine AX.condF ?_
       refine AX.keepA [79, 80, 81] ?_
       refine AX.skip ?_
       refine nmZ ?_
       refine AX.rR (rgWV [79, 80, 81] (aI @lit_add oT) oT) ?_
       refine nmZ ?_
       refine ⟨_, _, id, ?_,
        leA
        , ⟨i + 1, by omega, rfl, hp3, rfl⟩⟩
       omega
     ·obtain rfl : i = xs.length := by omega
      obtain rfl := hall1 hp2
      refine AX.sR (rgAV [79, 80, 81, 82]) ?_
      refine AX.seq ?_
      refine AX.condF ?_
      refine AX.exit ?_
      refine nmZ ?_
      refine AX.sR (rgAV [2]) ?_
      refine AX.ret ⟨.inl rfl, ?_⟩
      exact Done.one rfl rfl rfl rfl
    ·obtain rfl := hno1 (fun h => k2 h.2.symm)
     have k3 : ¬ ((P : Int) = 0) := by omega
     have k4 : ¬ ((P : Int) = (xs.length : Int)) := by omega
     refine AX.sR (rgWV [1, 77] (aI @hml (aI @k3 (aI @k4 oT))) oT) ?_
     refine AX.condT ?_
     refine AX.sR (rgAV [2]) ?_
     refine AX.ret ⟨.inl rfl, ?_⟩
     exact Done.one rfl rfl rfl rfl
   ·obtain rfl := hno1 (fun h => k1 h.1)
    rw [if_neg k1] at cs
    refine AX.sR (rgCV [1, 5] (aI cs oT)) ?_
    refine AX.sR (rgAV [1, 77]) ?_
    refine AX.condT ?_
    refine AX.sR (rgAV [2]) ?_
    refine AX.ret ⟨.inl rfl, ?_⟩
    exact Done.one rfl rfl rfl rfl
 ·obtain rfl := hno (fun h => h1 h.1)
  have hl1 : ¬ ((ws.length : Int) = (vs.length : Int)) := by omega
  refine AX.sR (rgWV [1, 20] (aI @hzv (aI @hza (aI @hl1 oT))) oT) ?_
  refine AX.condT ?_
  refine AX.sR (rgAV [2]) ?_
  refine AX.ret ⟨.inl rfl, ?_⟩
  exact Done.one rfl rfl rfl rfl
theorem list_eq {l l' : List Int} (hl : l.length = l'.length) (h : ∀ j, j < l.length → l.getD j 0 = l'.getD j 0) : l = l' := by
 apply List.ext_getElem hl
 intro j h1 h2
 have := h j h1
 rwa [List.getD_eq_getElem?_getD, List.getD_eq_getElem?_getD, List.getElem?_eq_getElem h1, List.getElem?_eq_getElem h2] at this
def okY (xs : List RT) : Prop := ∀ x ∈ xs, Dg x.2.1 ∧ Dg x.2.2 ∧ x.2.1.length ≤ 2 ^ 30 ∧ x.2.2.length ≤ 2 ^ 30
theorem okY.x {xs : List RT} (h : okY xs) : okX xs := fun x hx => by
 obtain ⟨h1, h2, h3, h4⟩ := h x hx
 exact ⟨h1, h2, by omega, by omega⟩
theorem fown_ok {x : V} {q : Rat} {L : Nat} (h : IsQ x q L) (hL : L < 2 ^ 33) (hL1 : 1 ≤ L) : PCall Try.prog 30 [x] (rV q) [] := by
 have c0 : PCall Try.prog 65 [] (.agg [.b (decide ((0 : Rat).num < 0)), dg (digits (0 : Rat).num.natAbs), dg (digits (0 : Rat).den)]) [] := zero_ok
 have c1 : PCall Try.prog 55 [x, .agg [.b (decide ((0 : Rat).num < 0)), dg (digits (0 : Rat).num.natAbs), dg (digits (0 : Rat).den)]] (.agg [.b (decide ((q + 0).num < 0)), dg (digits (q + 0).num.natAbs), dg (digits (q + 0).den)]) [] := qadd_ok h (IsQ.of (q := 0) (Nat.le_trans (by decide +kernel : rL 0 ≤ 1) hL1)) (by omega)
 rw [Rat.add_zero] at c1
 obtain ⟨s, a, b, rfl, _⟩ := h
 unfold rR at *
 refine PCall.of_ax Try.call30 Try.func30 rfl (by simp [Try.ntmps30]) fun O w0 => ?_
 simp only [Try.ntmps30, Try.results30, argFr]
 refine AX.sR (rgAV [1, 2]) ?_
 refine AX.sD (rgDCV [2] (aI c0 (aI c1 oT))) ?_
 refine AX.ret ⟨.inl rfl, ?_⟩
 exact Done.cell rfl rfl
end Go.Proofs.Ytogpimmcodaljaa
