/- The reference's matrices: rows. -/
import Derived.Test.YtepkjfnffbdcoaaGreatLiftR
import Derived.Test.YtepkjfnffbdcoaaGreatHD
import Derived.Test.YtepkjfnffbdcoaaGreatRfF
set_option linter.unusedVariables false
set_option maxRecDepth 20000
set_option linter.unusedSimpArgs false
namespace Go.Proofs.YtepkjfnffbdcoaaGreat
open Go Go.Proofs.YtepkjfnffbdcoaaGreat.Lift
attribute [local irreducible] Lift.PCall Lift.HCall
theorem leFm {g : Nat} {f : Nat → Nat} {st : St} {fr' : List (Nat × V)} {pre : List (Nat × Row)} {b n nx' : Nat} {F : Nat → Row} (h : Le g f ⟨fr', pre, nx'⟩ st)
  (h3 : ∀ a, a < n → b + a < nx' ∧ lkp st.hp (f (b + a)) = some ((F a).ren f) ∧ V.ltL nx' (F a).cells = true) (h4 : Apart f (pre ++ fam b n F)) : Le g f ⟨fr', pre ++ fam b n F, nx'⟩ st := leF h.fr h.hp h3 h4 h.nx h.id
def famQ (w : Nat) (X : Mx) : Nat → Row := fun a => ⟨41, qrow (vl w (X a))⟩
theorem famQ_ren (w : Nat) (X : Mx) (f : Nat → Nat) (a : Nat) : (famQ w X a).ren f = famQ w X a := by
 unfold famQ Row.ren
 rw [ren_q]
theorem famQ_lt (w n : Nat) (X : Mx) (a : Nat) : V.ltL n (famQ w X a).cells = true := lt_q _ _
theorem leFq {g : Nat} {st : St} {fr' : List (Nat × V)} {pre : List (Nat × Row)} {b n w nx' : Nat} {X : Mx} (h : Le g id ⟨fr', pre, nx'⟩ st) (hb : b + n ≤ nx')
  (h3 : ∀ a, a < n → lkp st.hp (b + a) = some (famQ w X a)) : Le g id ⟨fr', pre ++ fam b n (famQ w X), nx'⟩ st :=
 leFm h (fun a ha => ⟨by omega, by rw [famQ_ren]; exact h3 a ha, famQ_lt _ _ _ _⟩) (fun p _ q _ h => h)
theorem leFq2 {g : Nat} {st : St} {fr' : List (Nat × V)} {k0 k1 : Nat} {q0 q1 : Row} {b n w nx' : Nat} {X : Mx} (h : Le g id ⟨fr', [(k1, q1), (k0, q0)], nx'⟩ st) (hb : b + n ≤ nx')
  (h3 : ∀ a, a < n → lkp st.hp (b + a) = some (famQ w X a)) : Le g id ⟨fr', (k1, q1) :: (k0, q0) :: fam b n (famQ w X), nx'⟩ st := leFq (pre := [(k1, q1), (k0, q0)]) h hb h3
def ogR (n c i : Nat) : List V := gl n fun a => if a < i then .own (10 + a) 0 c 3 else .nl
theorem ogR_length (n c i : Nat) : (ogR n c i).length = n := gl_length ..
theorem ogR_zero (n c : Nat) : List.replicate n V.nl = ogR n c 0 := by
 rw [gl_rep]
 exact gl_congr fun i hi => (if_neg (Nat.not_lt_zero _)).symm
theorem renL_glf (f : Nat → Nat) (n : Nat) (G : Nat → V) : V.renL f (gl n G) = gl n fun a => (G a).ren f := by
 unfold gl
 generalize List.range n = l
 induction l with
 | nil => rfl
 | cons a l ih => simp only [List.map_cons, V.renL, ih]
theorem ltL_gln {k : Nat} : ∀ (n : Nat) {G : Nat → V}, (∀ i, i < n → (G i).lt k = true) → V.ltL k (gl n G) = true := by
 intro n G h
 have h' : ∀ i, i ∈ List.range n → (G i).lt k = true := fun i hi => h i (by simpa using hi)
 unfold gl
 generalize List.range n = l at h'
 induction l with
 | nil => rfl
 | cons a l ih => simp only [List.map_cons, V.ltL, ih fun i hi => h' i (List.mem_cons_of_mem _ hi), h' a (List.mem_cons_self ..), Bool.and_self]
theorem ogR_lt (n c i : Nat) (hi : i ≤ 60) : V.ltL 100 (ogR n c i) = true := ltL_gln n fun a ha => by
 split
 ·simp only [V.lt, decide_eq_true_eq]; omega
 ·simp only [V.lt]
theorem ogR_next {n c i : Nat} (hi : i < n) (f : Nat → Nat) (h1 : f (10 + i) = 101) (h2 : ∀ x, x ≠ 10 + i → f x = x) : V.renL f (ogR n c (i + 1)) = (ogR n c i).set i (.own 101 0 c 3) := by
 unfold ogR
 rw [renL_glf, gl_set _ _ hi]
 refine gl_congr fun a ha => ?_
 show V.ren f (if a < i + 1 then .own (10 + a) 0 c 3 else .nl) = if a = i then .own 101 0 c 3 else if a < i then .own (10 + a) 0 c 3 else .nl
 by_cases e : a = i
 ·subst e
  rw [if_pos rfl, if_pos (by omega)]
  simp only [V.ren, h1]
 ·rw [if_neg e]
  by_cases h : a < i
  ·rw [if_pos h, if_pos (by omega)]
   simp only [V.ren, h2 (10 + a) (by omega)]
  ·rw [if_neg h, if_neg (by omega)]
   simp only [V.ren]
attribute [go_sem] Tryz.underlying125
def outR (n w : Nat) (s : Nat → Nat) : Row := ⟨22, gl n fun i => .own (1 + s i) 0 w 3⟩
set_option maxHeartbeats 8000000 in
theorem rrows_ok (n c : Nat) (hn : n ≤ 60) (hc : c ≤ 60) (X : Mx) : PCall Tryz.prog 107 [qM n c X] (.own 0 0 n 1) (outR n c id :: (List.range n).map (famQ c X)) := by
 refine PCall.of_ax Tryz.call107 Tryz.func107 rfl (by simp [Tryz.ntmps107]) fun O w => ?_
 simp only [Tryz.ntmps107, Tryz.results107, argFr]
 have hsl := fun (i : Nat) (hi : i < n) => effSliceSeg (p := n) (m := c) (i := i) (o := 0) (t := c) X hi (by omega) (Nat.mul_le_mul hn hc)
 have hXl : ((mcells c X (n * c)).map rV).length = n * c := by rw [List.length_map, mcells_length]
 have hnc : n * c ≤ 60 * 60 := Nat.mul_le_mul hn hc
 unfold qM mV
 generalize (mcells c X (n * c)).map rV = Xc at *
 refine AX.sR (rgAV [1]) ?_
 refine AX.sR (rgAV [1, 3]) ?_
 refine AX.seq ?_
 refine AX.sR (rgAV [1, 3, 9, 10]) ?_
 have e0 := ogR_zero n c
 have hl0 := ogR_lt n c 0 (by omega)
 refine AX.weaken id (st' := ⟨[(10, .i .i64 (0 : Nat)), (9, .i .i64 n), (3, .own 1 0 n 1), (1, .ptr 0 0)], (1, ⟨22, ogR n c 0⟩) :: (0, ⟨32, [.i .i64 n, .i .i64 c, .sl Xc]⟩) :: fam 10 0 (famQ c X), 100⟩)
  (leFq2
   (leQ8H (And.intro e0 hl0))
   (by omega) (fun a ha => absurd ha (Nat.not_lt_zero a)))
  ?_
 refine AX.block ?_
 refine AX.loop (fun N st => ∃ i : Nat, i ≤ n ∧ N = n - i ∧ st = ⟨[(10, .i .i64 i), (9, .i .i64 n), (3, .own 1 0 n 1), (1, .ptr 0 0)], (1, ⟨22, ogR n c i⟩) :: (0, ⟨32, [.i .i64 n, .i .i64 c, .sl Xc]⟩) :: fam 10 i (famQ c X), 100⟩) n ⟨0, Nat.zero_le _, rfl, rfl⟩ ?_
 rintro N st ⟨i, hi, rfl, rfl⟩
 by_cases h1 : i < n
 ·have hs := hsl i h1
  have eA : (vl c fun k => X i (0 + k)) = vl c (X i) := vl_congr fun k _ => by rw [Nat.zero_add]
  rw [eA] at hs
  have m1 : (i : Int) * (c : Int) = ((i * c : Nat) : Int) := (Int.natCast_mul i c).symm
  have m2 : ((i + 1 : Nat) : Int) * (c : Int) = ((i * c + c : Nat) : Int) := by rw [← Int.natCast_mul, Nat.succ_mul]
  have hs := fun x lo hi' => hs x lo hi' (a := ((i * c : Nat) : Int)) (b := ((i * c + c : Nat) : Int)) rfl rfl
  have bn : i * c ≤ 60 * 60 := Nat.mul_le_mul (by omega) hc
  have hol := ogR_length n c i
  have hdl := dlt_fam (b := 10) (n := i) (m := 100) (famQ c X) (by omega)
  obtain ⟨z, hz⟩ : ∃ z, i * c = z := ⟨_, rfl⟩
  rw [hz] at m1 m2 hs bn
  refine AX.sR (rgAV [1, 3, 9, 10, 11]) ?_
  refine AX.seq ?_
  refine AX.condT (h := ?_)
  refine AX.keepA [1, 3, 9, 10] (h := ?_)
  refine AX.skip ?_
  refine nmZ (h := ?_)
  refine AX.seq ?_
  refine AX.block ?_
  refine AX.sR (rgAV [1, 3, 4, 9, 10]) ?_
  refine AX.rR (rgEV [1, 3, 9, 10] (aI @lit_add (aI @m1 (aI @m2 (aI @hol (aI @hdl (aI @vl_mlen (aI @flatCells_q (aI @vl_len3 (aI @flat_q (aI @vl_one oT)))))))))) oT (aI (hs _) oT)) ?_
  refine nmZ (h := ?_)
  refine AX.rR (rgWV [1, 3, 9, 10] (aI @lit_add oT) oT) ?_
  refine nmZ (h := ?_)
  obtain ⟨f, hf⟩ : ∃ f : Nat → Nat, f = fun x => if x = 10 + i then 101 else x := ⟨_, rfl⟩
  have hf1 : f (10 + i) = 101 := by rw [hf]; exact if_pos rfl
  have hfo : ∀ x, x ≠ 10 + i → f x = x := fun x hx => by rw [hf]; exact if_neg hx
  have hf0 := hfo 0 (by omega)
  have hf9 := hfo 1 (by omega)
  have hog := ogR_next (c := c) h1 f hf1 hfo
  have hlt := ogR_lt n c (i + 1) (by omega)
  refine ⟨_, _, f, ?_,
   leFm (pre := [(1, ⟨22, ogR n c (i + 1)⟩), (0, ⟨32, [.i .i64 n, .i .i64 c, .sl Xc]⟩)]) ⟨?_, ?_, ?_, ?_, ?_⟩ ?_ ?_
   , ⟨i + 1, by omega, rfl, rfl⟩⟩
  ·omega
  ·simp [LeFr, lkp, V.ren, V.lt, hf9, hf0]
  ·simp [LeHp, lkp, Row.ren, V.ren, V.renL, hf9, hf0, hog, hlt, V.ltL, V.lt]
  ·simp [Apart, hf0, hf9]
  ·exact Nat.zero_le _
  ·exact fun n hn => absurd hn (Nat.not_lt_zero _)
  ·intro a ha
   refine ⟨by omega, ?_, famQ_lt _ _ _ _⟩
   rw [famQ_ren]
   by_cases e : a = i
   ·subst e
    rw [hf1]
    rfl
   ·rw [hfo _ (by omega)]
    rw [lkp_ne (by omega), lkp_ne (by omega), lkp_ne (by omega)]
    exact lkp_fam _ (by omega)
  ·have hlt9 : ∀ p ∈ [(1, (⟨22, ogR n c (i + 1)⟩ : Row)), (0, ⟨32, [.i .i64 n, .i .i64 c, .sl Xc]⟩)] ++ fam 10 (i + 1) (famQ c X), p.1 < 101 := fun p hp => by
    rcases List.mem_append.1 hp with h | h
    ·simp at h
     rcases h with h | h <;> (rw [h]; omega)
    ·have := fam_mem h
     omega
   intro p hp q hq he
   have a1 := hlt9 p hp
   have a2 := hlt9 q hq
   rw [hf] at he
   simp only at he
   split at he <;> split at he <;> omega
 ·have e : i = n := by omega
  subst e
  refine AX.sR (rgAV [1, 3, 9, 10, 11]) ?_
  refine AX.seq ?_
  refine AX.condF (h := ?_)
  refine AX.exit ?_
  refine nmZ (h := ?_)
  refine AX.sR (rgAV [2]) ?_
  refine AX.ret ⟨.inl rfl, ?_⟩
  refine ⟨[.own 1 0 i 1], rfl, [1], fun x => if x = 0 then 1 else 9 + x, .own 1 0 i 1, _, rfl, rfl, by simp [V.lt], fun h q hq => ?_, fun h h' _ _ e => by dsimp only at e; split at e <;> split at e <;> omega⟩
  cases h with
  | zero =>
   cases hq
   refine ⟨?_, ?_⟩
   ·show lkp _ 1 = _
    unfold outR Row.ren ogR
    rw [renL_glf]
    show some (⟨22, _⟩ : Row) = _
    congr 2
    refine gl_congr fun a ha => ?_
    rw [if_pos ha]
    show V.own (10 + a) 0 c 3 = .own (if 1 + a = 0 then 1 else 9 + (1 + a)) 0 c 3
    rw [if_neg (by omega), show 9 + (1 + a) = 10 + a by omega]
   ·refine ltL_gln i fun a ha => ?_
    simp only [V.lt, decide_eq_true_eq, List.length_cons, List.length_map, List.length_range]
    show 1 + a < _
    omega
  | succ h =>
   rw [List.getElem?_cons_succ] at hq
   have hh : h < i := by
    have := (List.getElem?_eq_some_iff.1 hq).1
    simpa using this
   have eq : q = famQ c X h := by
    rw [List.getElem?_map, List.getElem?_range hh] at hq
    cases hq
    rfl
   subst eq
   refine ⟨?_, famQ_lt _ _ _ _⟩
   rw [famQ_ren]
   show lkp _ (if h + 1 = 0 then 1 else 9 + (h + 1)) = _
   rw [if_neg (by omega), show 9 + (h + 1) = 10 + h by omega, lkp_ne (by omega), lkp_ne (by omega)]
   exact lkp_fam _ hh
end Go.Proofs.YtepkjfnffbdcoaaGreat
