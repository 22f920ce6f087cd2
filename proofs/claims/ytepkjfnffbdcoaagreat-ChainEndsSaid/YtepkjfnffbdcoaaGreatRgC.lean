/- The reference's matrices: cleared. -/
import Derived.Test.YtepkjfnffbdcoaaGreatRgA
import Derived.Test.YtepkjfnffbdcoaaGreatRgM
set_option linter.unusedVariables false
set_option maxRecDepth 20000
set_option linter.unusedSimpArgs false
namespace Go.Proofs.YtepkjfnffbdcoaaGreat
open Go Go.Proofs.YtepkjfnffbdcoaaGreat.Lift
attribute [local irreducible] Lift.PCall Lift.HCall
theorem leGq {g : Nat} {st : St} {fr' : List (Nat × V)} {pre : List (Nat × Row)} {b n w nx' : Nat} {X : Mx} (h : Le 0 id ⟨fr', pre, nx'⟩ st) (hg : g ≤ nx') (hb : b + n ≤ nx')
  (h3 : ∀ a, a < n → lkp st.hp (b + a) = some (famQ w X a)) : Le g id ⟨fr', pre ++ fam b n (famQ w X), nx'⟩ st :=
 have h' : Le g id ⟨fr', pre, nx'⟩ st := ⟨h.fr, h.hp, h.ap, hg, fun _ _ => rfl⟩
 leFq h' hb h3
theorem leG1 {g : Nat} {st : St} {fr' : List (Nat × V)} {k0 : Nat} {q0 : Row} {b n w nx' : Nat} {X : Mx} (h : Le 0 id ⟨fr', [(k0, q0)], nx'⟩ st) (hg : g ≤ nx') (hb : b + n ≤ nx')
  (h3 : ∀ a, a < n → lkp st.hp (b + a) = some (famQ w X a)) : Le g id ⟨fr', (k0, q0) :: fam b n (famQ w X), nx'⟩ st := leGq (pre := [(k0, q0)]) h hg hb h3
theorem leG4 {g : Nat} {st : St} {fr' : List (Nat × V)} {k0 k1 k2 k3 : Nat} {q0 q1 q2 q3 : Row} {b n w nx' : Nat} {X : Mx} (h : Le 0 id ⟨fr', [(k0, q0), (k1, q1), (k2, q2), (k3, q3)], nx'⟩ st) (hg : g ≤ nx') (hb : b + n ≤ nx')
  (h3 : ∀ a, a < n → lkp st.hp (b + a) = some (famQ w X a)) : Le g id ⟨fr', (k0, q0) :: (k1, q1) :: (k2, q2) :: (k3, q3) :: fam b n (famQ w X), nx'⟩ st := leGq (pre := [(k0, q0), (k1, q1), (k2, q2), (k3, q3)]) h hg hb h3
theorem leG5 {g : Nat} {st : St} {fr' : List (Nat × V)} {k0 k1 k2 k3 k4 : Nat} {q0 q1 q2 q3 q4 : Row} {b n w nx' : Nat} {X : Mx} (h : Le 0 id ⟨fr', [(k0, q0), (k1, q1), (k2, q2), (k3, q3), (k4, q4)], nx'⟩ st) (hg : g ≤ nx') (hb : b + n ≤ nx')
  (h3 : ∀ a, a < n → lkp st.hp (b + a) = some (famQ w X a)) : Le g id ⟨fr', (k0, q0) :: (k1, q1) :: (k2, q2) :: (k3, q3) :: (k4, q4) :: fam b n (famQ w X), nx'⟩ st := leGq (pre := [(k0, q0), (k1, q1), (k2, q2), (k3, q3), (k4, q4)]) h hg hb h3
theorem fam_at1 {n w : Nat} {X : Mx} {k0 : Nat} {q0 : Row} (h0 : k0 = 0) (a : Nat) (ha : a < n) : lkp ((k0, q0) :: fam 1 n (famQ w X)) (1 + a) = some (famQ w X a) := by
 rw [lkp_ne (by omega)]
 exact lkp_fam _ ha
theorem fam_at4 {n w : Nat} {X : Mx} {q0 q1 q2 q3 : Row} (hn : n ≤ 60) (a : Nat) (ha : a < n) : lkp ((102, q0) :: (101, q1) :: (100, q2) :: (0, q3) :: fam 1 n (famQ w X)) (1 + a) = some (famQ w X a) := by
 rw [lkp_ne (by omega), lkp_ne (by omega), lkp_ne (by omega), lkp_ne (by omega)]
 exact lkp_fam _ ha
theorem fam_at5 {n w : Nat} {X : Mx} {q0 q1 q2 q3 q4 : Row} (hn : n ≤ 60) (a : Nat) (ha : a < n) : lkp ((103, q4) :: (102, q0) :: (101, q1) :: (100, q2) :: (0, q3) :: fam 1 n (famQ w X)) (1 + a) = some (famQ w X a) := by
 rw [lkp_ne (by omega)]
 exact fam_at4 hn a ha
theorem famQ_congr {n w : Nat} {X Y : Mx} (h : ∀ a j, a < n → j < w → X a j = Y a j) : fam 1 n (famQ w X) = fam 1 n (famQ w Y) := fam_congr fun a ha => by
 unfold famQ
 rw [vl_congr fun j hj => h a j ha hj]
theorem famQ_set {n w a : Nat} {X Y : Mx} {p : Nat} (hp : 1 + a = p) (ha : a < n) (h : ∀ b j, b < n → j < w → Y b j = if b = a then Y a j else X b j) : setL (fam 1 n (famQ w X)) p ⟨41, qrow (vl w (Y a))⟩ = fam 1 n (famQ w Y) := by
 subst hp
 rw [setL_fam _ _ ha]
 refine fam_congr fun b hb => ?_
 unfold updR
 by_cases e : b = a
 ·subst e
  rw [if_pos rfl]
  rfl
 ·rw [if_neg e]
  unfold famQ
  rw [vl_congr fun j hj => (h b j hb hj).trans (if_neg e)]
def tkL (n k : Nat) : List V := gl n fun i => .i .i64 (if i < k then i else (0 : Nat))
theorem tkL_zero (n : Nat) : List.replicate n (V.i .i64 0) = tkL n 0 := by
 rw [gl_rep]
 exact gl_congr fun i hi => by rw [if_neg (Nat.not_lt_zero _)]; rfl
theorem tkL_len (n k : Nat) : (tkL n k).length = n := gl_length ..
theorem tkL_next {n k : Nat} (hk : k < n) (v : V) : ((tkL n k).set k v).set k (.i .i64 k) = tkL n (k + 1) := by
 rw [List.set_set]
 unfold tkL
 rw [gl_set _ _ hk]
 refine gl_congr fun i hi => ?_
 show (if i = k then V.i .i64 k else .i .i64 (if i < k then (i : Int) else ((0 : Nat) : Int))) = .i .i64 (if i < k + 1 then (i : Int) else ((0 : Nat) : Int))
 by_cases e : i = k
 ·subst e
  rw [if_pos rfl, if_pos (by omega)]
 ·rw [if_neg e]
  by_cases h : i < k
  ·rw [if_pos h, if_pos (by omega)]
  ·rw [if_neg h, if_neg (by omega)]
theorem lt_tk (k n m : Nat) : V.ltL k (tkL n m) = true := ltL_gl fun i => by simp only [V.lt]
theorem lt_tk1 {k n m : Nat} (hm : m < n) (z : Int) : V.ltL k ((tkL n m).set m (.i .i64 z)) = true := by
 unfold tkL
 rw [gl_set _ _ hm]
 refine ltL_gl fun i => ?_
 unfold updG
 split <;> simp only [V.lt]
theorem tk_flat (n m : Nat) : (tkL n m).all V.flat = true := by
 unfold tkL gl
 rw [List.all_eq_true]
 intro v hv
 obtain ⟨i, _, rfl⟩ := List.mem_map.1 hv
 rfl
theorem tk_hf (n m : Nat) : V.hfL (tkL n m) = true := by
 unfold tkL gl
 generalize List.range n = l
 induction l with
 | nil => rfl
 | cons a l ih => simp only [List.map_cons, V.hfL, V.hf, ih, Bool.and_self]
theorem fzHp_rows {n : Nat} {cs : List V} {hp : List (Nat × Row)} : ∀ (qs : List Row) (b : Nat), (∀ a, a < qs.length → b + a ≠ n ∧ lkp hp (b + a) = some (qs.getD a r0)) → FzHp n cs hp (rowsFr b qs)
 | [], _, _ => .nil
 | q :: qs, b, h => .cons (h 0 (by simp)).1 (h 0 (by simp)).2 rfl rfl (fun k hk => .same) (fzHp_rows qs (b + 1) fun a ha => by
  have := h (a + 1) (by simpa using ha)
  rw [show b + (a + 1) = b + 1 + a by omega] at this
  exact this)
theorem og_lt {n w k : Nat} {s : Nat → Nat} (h : ∀ i, i < n → 1 + s i < k) : V.ltL k (gl n fun i => .own (1 + s i) 0 w 3) = true := ltL_gln n fun i hi => by
 simp only [V.lt, decide_eq_true_eq]
 exact h i hi
theorem og_sw {n w p k : Nat} (s : Nat → Nat) (hp : p < n) (hk : k < n) : ((gl n fun i => V.own (1 + s i) 0 w 3).set p (.own (1 + s k) 0 w 3)).set k (.own (1 + s p) 0 w 3) = gl n fun i => V.own (1 + s (sw p k i)) 0 w 3 := by
 rw [gl_set _ _ hp, gl_set _ _ hk]
 refine gl_congr fun i hi => ?_
 show (if i = k then V.own (1 + s p) 0 w 3 else if i = p then V.own (1 + s k) 0 w 3 else V.own (1 + s i) 0 w 3) = _
 unfold sw
 by_cases e1 : i = k
 ·subst e1
  rw [if_pos rfl]
  by_cases e2 : i = p
  ·subst e2; rw [if_pos rfl]
  ·rw [if_neg e2, if_pos rfl]
 ·rw [if_neg e1]
  by_cases e2 : i = p
  ·rw [if_pos e2, if_pos e2]
  ·rw [if_neg e2, if_neg e2, if_neg e1]
def okClashM (ms : List Nat) (infos : List Info) : Bool :=
 (List.range infos.length).all fun j => (List.range j).all fun i => match infos[i]?, infos[j]? with
  | some a, some b => (ms.getD j 0).testBit i || !(clash a b)
  | _, _ => true
theorem okDraw_of {ops : Array Oper} {infos : List Info} {nx0 nxN : Nat} (h : (okMasks (Region.before ops).toList 0 ops.toList && okClashM (Region.before ops).toList infos && okNames nx0 nxN infos) = true) : okDraw ops infos nx0 nxN = true := by
 have e : okClashM (Region.before ops).toList infos = okClash (Region.before ops).toList infos := by
  unfold okClashM okClash
  congr 1
  funext j
  congr 1
  funext i
  cases infos[i]? <;> cases infos[j]? <;> first | rfl | exact Bool.or_comm _ _
 rw [e] at h
 exact h
def scR (R : Mx) (q k j : Nat) : Mx := fun b j' => if b = q ∧ j' < j then R q j' / R q k else R b j'
def elR (R : Mx) (t : Nat → Nat) (q k i j : Nat) : Mx := fun b j' => if b = q then R q j' / R q k else if t b < i ∨ (t b = i ∧ j' < j) then R b j' - R b k * (R q j' / R q k) else R b j'
theorem pne {p : Nat} (h1 : 0 < p) (h2 : p < 100) : (((p = 0) = False) ∧ ((p = 100) = False) ∧ ((p = 101) = False) ∧ ((p = 102) = False) ∧ ((p = 103) = False)) ∧ (((0 = p) = False) ∧ ((100 = p) = False) ∧ ((101 = p) = False) ∧ ((102 = p) = False) ∧ ((103 = p) = False)) := by
 simp only [eq_iff_iff, iff_false]
 omega
set_option maxHeartbeats 64000000 in
theorem rcleared_ok (n w L : Nat) (hn : n ≤ 60) (hw : w ≤ 120) (hnw : n ≤ w) (A : Mx) (hN : NonSing n A) (hL : ∀ a j, a < n → j < w → rL (A a j) ≤ L) (hL1 : 1 ≤ L) (hL2 : 5 ^ n * L < 2 ^ 30) :
  GCall Tryz.prog 108 [.own 0 0 n 1, .i .i64 n] (outR n w id :: (List.range n).map (famQ w A)) (outR n w (gj n A n).s :: (List.range n).map (famQ w (gj n A n).R)) (.tup [.sl (tkL n n), rV (gj n A n).D]) := by
 refine GCall.of_ax (by simp) Tryz.call108 Tryz.func108 rfl (by simp [Tryz.ntmps108]) fun O M w0 G => ?_
 have hq0 : (outR n w id :: (List.range n).map (famQ w A)).length = n + 1 := by simp
 simp only [Tryz.ntmps108, Tryz.results108, argFr, hq0]
 show AX _ _ _ ⟨_, (0, outR n w id) :: fam 1 n (famQ w A), _⟩ _
 unfold outR
 have cone : PCall Tryz.prog 45 [] (.agg [.b (decide ((1 : Rat).num < 0)), dg (digits (1 : Rat).num.natAbs), dg (digits (1 : Rat).den)]) [] := pone_ok
 have hok := fun k hk => gj_ok (w := w) hN hnw k hk
 have hlen := fun k hk => gj_len hN hnw hL hL1 k hk
 have hpw : ∀ k, k ≤ n → 5 ^ k * L < 2 ^ 30 := fun k hk => Nat.lt_of_le_of_lt (Nat.mul_le_mul_right _ (Nat.pow_le_pow_right (by decide) hk)) hL2
 have hol := fun s : Nat → Nat => gl_length n fun i => V.own (1 + s i) 0 w 3
 have hlt0 : V.ltL 100 (gl n fun i => V.own (1 + id i) 0 w 3) = true := og_lt fun i hi => by simp only [id_eq]; omega
 have htz := tkL_zero n
 refine AX.weaken id (st' := ⟨[(1, .i .i64 n), (0, .own 0 0 n 1)], (0, ⟨22, gl n fun i => .own (1 + id i) 0 w 3⟩) :: fam 1 n (famQ w A), 100⟩)
  (leG1
   (leQ8H hlt0)
   (by show n + 1 ≤ 100; omega) (by omega) (fam_at1 rfl))
  ?_
 refine AX.sR (rgAV [0, 1, 5]) ?_
 refine AX.sR (rgCV [0, 1, 5, 6] (aI cone oT)) ?_
 refine AX.sR (rgAV [0, 1, 5, 6, 7]) ?_
 refine AX.sR (rgAV [0, 1, 5, 6, 7, 8]) ?_
 refine AX.seq ?_
 refine AX.sR (rgAV [0, 1, 5, 6, 7, 8, 9]) ?_
 refine AX.block ?_
 refine AX.loop (fun N st => ∃ k : Nat, k ≤ n ∧ N = n - k ∧ st = ⟨[(9, .i .i64 k), (8, .i .i64 k), (7, .own 102 0 n 1), (6, .ptr 101 0), (5, .ptr 100 0), (1, .i .i64 n), (0, .own 0 0 n 1)], (102, ⟨3, tkL n k⟩) :: (101, ⟨41, [.b (decide (((gj n A k).D).num < 0)), dg (digits ((gj n A k).D).num.natAbs), dg (digits ((gj n A k).D).den)]⟩) :: (100, ⟨41, [.b false, .nl, .nl]⟩) :: (0, ⟨22, gl n fun i => .own (1 + (gj n A k).s i) 0 w 3⟩) :: fam 1 n (famQ w ((gj n A k).R)), 103⟩) n ⟨0, Nat.zero_le _, rfl, by rw [← htz]; rfl⟩ ?_
 rintro N st ⟨k, hk, rfl, rfl⟩
 refine AX.seq ?_
 by_cases h1 : k < n
 ·have ok := hok k hk
  obtain ⟨l1, l2⟩ := hlen k hk
  have ok2 := hok (k + 1) (by omega)
  have hB := hpw k hk
  obtain ⟨p1, p2, p3, p4⟩ := ok.piv hN h1 hnw
  have e1 : gj n A (k + 1) = (gj n A k).step n k := rfl
  rw [e1] at ok2
  have hstp : (gj n A k).step n k = ⟨elimG ((gj n A k).s (piv n k (gj n A k))) k (gj n A k).R, fun i => (gj n A k).s (sw (piv n k (gj n A k)) k i), fun a => sw (piv n k (gj n A k)) k ((gj n A k).t a), (if piv n k (gj n A k) = k then (gj n A k).D else -(gj n A k).D) * (gj n A k).R ((gj n A k).s (piv n k (gj n A k))) k⟩ := rfl
  have htn := fun v => tkL_next h1 v
  have htl := tkL_len n k
  have hgo : ∀ Q : GJ → Prop, Q ⟨elimG ((gj n A k).s (piv n k (gj n A k))) k (gj n A k).R, fun i => (gj n A k).s (sw (piv n k (gj n A k)) k i), fun a => sw (piv n k (gj n A k)) k ((gj n A k).t a), (if piv n k (gj n A k) = k then (gj n A k).D else -(gj n A k).D) * (gj n A k).R ((gj n A k).s (piv n k (gj n A k))) k⟩ → Q (gj n A (k + 1)) := fun Q h => h
  clear hok hlen
  rw [hstp] at ok2
  clear hstp e1
  obtain ⟨e2, he2⟩ : ∃ x, gj n A (k + 1) = x := ⟨_, rfl⟩
  rw [he2] at hgo
  generalize gj n A k = g at *
  obtain ⟨R, s, t, D⟩ := g
  dsimp only at *
  generalize piv n k ⟨R, s, t, D⟩ = pv at *
  obtain ⟨tk, htk⟩ : ∃ x, tkL n k = x := ⟨_, rfl⟩
  rw [htk] at htn htl
  refine AX.sR (rgAV [0, 1, 5, 6, 7, 8, 9, 21]) ?_
  refine AX.condT (h := ?_)
  refine AX.keepA [0, 1, 5, 6, 7, 8, 9] (h := ?_)
  refine AX.skip ?_
  refine nmZ (h := ?_)
  refine AX.seq ?_
  refine AX.block ?_
  rw [htk]
  refine AX.sR (rgWV [0, 1, 5, 6, 7, 8, 9] (aI @htl oT) oT) ?_
  refine AX.sR (rgAV [0, 1, 5, 6, 7, 8, 9, 10]) ?_
  obtain ⟨tk1, htk1⟩ : ∃ x, tk.set k (V.i .i64 (-1)) = x := ⟨_, rfl⟩
  have htn := htn (V.i .i64 (-1))
  have hlt1 : V.ltL 103 tk1 = true := by rw [← htk1, ← htk]; exact lt_tk1 h1 _
  rw [htk1] at htn
  have hlt14 : V.ltL 104 tk1 = true := by rw [← htk1, ← htk]; exact lt_tk1 h1 _
  obtain ⟨og, hog⟩ : ∃ x, (gl n fun i => V.own (1 + s i) 0 w 3) = x := ⟨_, rfl⟩
  have hsn : ∀ i, i < n → s i < n := fun i hi => (ok.s i hi).1
  have hol := hol s
  have hog1 : ∀ i, i < n → og.getD i .junk = .own (1 + s i) 0 w 3 := fun i hi => by rw [← hog]; exact gl_get _ hi
  have holt : V.ltL 103 og = true := by rw [← hog]; exact og_lt fun i hi => by have := hsn i hi; omega
  have hsw := og_sw (w := w) s p2 h1
  rw [hog] at hsw hol
  rw [htk1, hog]
  have hrow : ∀ a, a < n → lkp (fam 1 n (famQ w R)) (1 + a) = some ⟨41, qrow (vl w (R a))⟩ := fun a ha => lkp_fam (famQ w R) ha
  refine AX.seq ?_
  refine AX.block ?_
  refine AX.loop (fun N st => ∃ a : Nat, k ≤ a ∧ a ≤ pv ∧ N = pv - a ∧ st = ⟨[(10, .i .i64 a), (9, .i .i64 k), (8, .i .i64 k), (7, .own 102 0 n 1), (6, .ptr 101 0), (5, .ptr 100 0), (1, .i .i64 n), (0, .own 0 0 n 1)], (102, ⟨3, tk1⟩) :: (101, ⟨41, [.b (decide ((D).num < 0)), dg (digits (D).num.natAbs), dg (digits (D).den)]⟩) :: (100, ⟨41, [.b false, .nl, .nl]⟩) :: (0, ⟨22, og⟩) :: fam 1 n (famQ w (R)), 103⟩) (pv - k) ⟨k, Nat.le_refl _, p1, rfl, rfl⟩ ?_
  rintro N st ⟨a, g1, g2, rfl, rfl⟩
  refine AX.seq ?_
  have ha : a < n := by omega
  have hsa := hsn a ha
  have cs : PCall Tryz.prog 31 [.agg [.b (decide (((R (s a) k)).num < 0)), dg (digits ((R (s a) k)).num.natAbs), dg (digits ((R (s a) k)).den)]] (.i .i64 (sgnR (R (s a) k))) [] := psign_ok (IsQ.of (l1 _ k hsa (by omega))) (by omega)
  have og1 := hog1 a ha
  have lk1 := hrow _ hsa
  have ln1 := vl_len3 w (R (s a))
  have gt1 := vl_get3 (R (s a)) (show k < w by omega)
  obtain ⟨⟨c0, c1, c2, c3, c4⟩, d0, d1, d2, d3, d4⟩ := pne (p := 1 + s a) (by omega) (by omega)
  obtain ⟨p, hp⟩ : ∃ p, 1 + s a = p := ⟨_, rfl⟩
  rw [hp] at og1 lk1 c0 c1 c2 c3 c4 d0 d1 d2 d3 d4
  by_cases h2 : a < pv
  ·have hz := sgnR_eq_zero.2 (p4 a g1 h2)
   rw [hz] at cs
   generalize R (s a) k = qq at *
   refine AX.sR (rgWV [0, 1, 5, 6, 7, 8, 9, 10, 42] (aI @hol (aI @og1 (aI @lk1 (aI @ln1 (aI @gt1 (aI @c0 (aI @c1 (aI @c2 (aI @c3 oT))))))))) (aI cs oT)) ?_
   refine AX.condT (h := ?_)
   refine AX.keepA [0, 1, 5, 6, 7, 8, 9, 10] (h := ?_)
   refine AX.skip ?_
   refine nmZ (h := ?_)
   refine AX.block ?_
   refine AX.rR (rgWV [0, 1, 5, 6, 7, 8, 9, 10] (aI @lit_add oT) oT) ?_
   refine nmZ (h := ?_)
   refine ⟨_, _, id, ?_,
    (leG4
     (leQ8H (And.intro hlt1 holt))
     (by show _ + 1 ≤ 103; omega) (by omega) (fam_at4 hn)), ⟨a + 1, by omega, by omega, rfl, rfl⟩⟩
   omega
  ·obtain rfl : a = pv := by omega
   have hz : ¬ sgnR (R (s a) k) = 0 := fun e => p3 (sgnR_eq_zero.1 e)
   have hne : ¬ (a : Int) = (n : Int) := by omega
   obtain ⟨rq9, hrq9⟩ : ∃ x, R (s a) k = x := ⟨_, rfl⟩
   rw [hrq9] at gt1 cs hz
   refine AX.sR (rgWV [0, 1, 5, 6, 7, 8, 9, 10, 42] (aI @hol (aI @og1 (aI @lk1 (aI @ln1 (aI @gt1 (aI @c0 (aI @c1 (aI @c2 (aI @c3 (aI @hz oT)))))))))) (aI cs oT)) ?_
   refine AX.condF (h := ?_)
   refine AX.exit ?_
   refine nmZ (h := ?_)
   refine AX.seq ?_
   refine AX.sR (rgWV [0, 1, 5, 6, 7, 8, 9, 10, 48] (aI @hol (aI @hne oT)) oT) ?_
   refine AX.condF (h := ?_)
   refine AX.keepA [0, 1, 5, 6, 7, 8, 9, 10] (h := ?_)
   refine AX.skip ?_
   refine nmZ (h := ?_)
   clear gt1 lk1 ln1 cs hz
   obtain ⟨og2, hog2⟩ : ∃ x, (gl n fun i => V.own (1 + s (sw a k i)) 0 w 3) = x := ⟨_, rfl⟩
   have ol2 : og2.length = n := by rw [← hog2]; exact gl_length ..
   have hs2 : ∀ i, i < n → s (sw a k i) < n := fun i hi => hsn _ (sw_lt p2 h1 hi)
   have og2g : ∀ i, i < n → og2.getD i .junk = .own (1 + s (sw a k i)) 0 w 3 := fun i hi => by rw [← hog2]; exact gl_get _ hi
   have og2lt : V.ltL 103 og2 = true := by rw [← hog2]; exact og_lt fun i hi => by have := hs2 i hi; omega
   have og2l4 : V.ltL 104 og2 = true := by rw [← hog2]; exact og_lt fun i hi => by have := hs2 i hi; omega
   obtain ⟨D1, hD1⟩ : ∃ x, (if a = k then D else -D) = x := ⟨_, rfl⟩
   refine AX.cutR (fun st => Le (n + 1) id ⟨[(9, .i .i64 k), (8, .i .i64 k), (7, .own 102 0 n 1), (6, .ptr 101 0), (5, .ptr 100 0), (1, .i .i64 n), (0, .own 0 0 n 1)], (102, ⟨3, tk1⟩) :: (101, ⟨41, [.b (decide ((D1).num < 0)), dg (digits (D1).num.natAbs), dg (digits (D1).den)]⟩) :: (100, ⟨41, [.b false, .nl, .nl]⟩) :: (0, ⟨22, og2⟩) :: fam 1 n (famQ w (R)), 103⟩ st) ?_ ?_
   ·by_cases h4 : a = k
    ·subst h4
     have e9 : og = og2 := by
      rw [← hog, ← hog2]
      exact gl_congr fun i hi => by rw [sw_id]
     have e8 : D = D1 := by rw [← hD1, if_pos rfl]
     subst e9 e8
     refine AX.sR (rgAV [0, 1, 5, 6, 7, 8, 9, 10, 52]) ?_
     refine AX.condF (h := ?_)
     refine AX.keepA [0, 1, 5, 6, 7, 8, 9] (h := ?_)
     refine AX.skip ?_
     refine nmZ (h := ?_)
     exact leG4
      (leQ8H (And.intro hlt1 og2lt))
      (by omega) (by omega) (fam_at4 hn)
    ·have hak : ¬ (a : Int) = (k : Int) := by omega
     have og3 := hog1 k h1
     have e8 : -D = D1 := by rw [← hD1, if_neg h4]
     have cn : PCall Tryz.prog 95 [.agg [.b (decide ((D).num < 0)), dg (digits (D).num.natAbs), dg (digits (D).den)]] (.agg [.b (decide (((-D)).num < 0)), dg (digits ((-D)).num.natAbs), dg (digits ((-D)).den)]) [] := pneg_ok (IsQ.of l2) (by omega)
     rw [e8] at cn
     rw [hp, hog2] at hsw
     refine AX.sR (rgWV [0, 1, 5, 6, 7, 8, 9, 10, 52] (aI @hak oT) oT) ?_
     refine AX.condT (h := ?_)
     apply AX.sdreg [0, 1, 5, 6, 7, 8, 9] (by kernel_rfl) (by simp only [pq]; rfl)
     ·repeat (first
     |(apply RunD.op rfl; · rfl
       ·(simp only [opsOf, valsOf, valOf, lkp, ofConst, ofCell, Array.toList, Option.toList, List.map_cons, List.map_nil, List.cons_append, List.nil_append, List.append_nil, Nat.reduceEqDiff, Nat.reducePow, Nat.reduceLT, Nat.reduceLeDiff, reduceIte, if_true, if_false, IntKind.min, IntKind.max, IntKind.bits, IntKind.signed, Int.reduceLE, Int.reduceNeg, Int.reducePow, Int.reduceSub, and_self, Bool.false_eq_true, Nat.reduceSub]; rfl)
       iterate 2 (· (simp (disch := omega) only [go_sem, i64_of, u32_of, u64_of, Nat.reduceLT, Nat.reduceLeDiff, Nat.reduceEqDiff, Nat.reduceAdd, Nat.reduceSub, Nat.reduceMul, Nat.reducePow, Nat.reduceBEq, Int.reduceLE, Int.reduceLT, Int.reduceToNat, Int.reduceEq, Int.reduceNeg, reduceIte, reduceCtorEq, hol, og1, og3, List.length_set]; rfl))
       ·(simp only [pb, Nat.reduceLT, Nat.reduceAdd, reduceIte]; rfl)
       ·rfl)
     |(apply RunD.skip; · rfl
       ·(simp only [pb, Nat.reduceLT, Nat.reduceAdd, reduceIte]; rfl)
       ·rfl))
      exact RunD.nil
     ·repeat (first | exact Keep.nil | (apply Keep.take; · rfl) | (apply Keep.drop; · rfl))
     ·kernel_rfl
     rw [hsw]
     refine AX.rR (rgCV [0, 1, 5, 6, 7, 8, 9] (aI cn oT)) ?_
     exact leG4
      (leQ8H (And.intro hlt1 og2lt))
      (by omega) (by omega) (fam_at4 hn)
   ·intro st hle
    refine AX.weaken id hle ?_
    clear hle hsw hog1 holt hol hog og og1 c0 c1 c2 c3 c4 d0 d1 d2 d3 d4
    obtain ⟨q0, hq0⟩ : ∃ x, s a = x := ⟨_, rfl⟩
    have hqn : q0 < n := by rw [← hq0]; exact hsn a p2
    have og2k : og2.getD k .junk = .own (1 + q0) 0 w 3 := by rw [og2g k h1, sw_k, hq0]
    obtain ⟨⟨c0, c1, c2, c3, c4⟩, d0, d1, d2, d3, d4⟩ := pne (p := 1 + q0) (by omega) (by omega)
    obtain ⟨q, hq⟩ : ∃ q, 1 + q0 = q := ⟨_, rfl⟩
    rw [hq] at og2k c0 c1 c2 c3 c4 d0 d1 d2 d3 d4
    rw [hq0] at p3 ok2 hgo hp
    have hts : ∀ i, i < n → s (sw a k i) < n ∧ sw a k (t (s (sw a k i))) = i := fun i hi => ok2.s i hi
    have hst : ∀ b, b < n → sw a k (t b) < n ∧ s (sw a k (sw a k (t b))) = b := fun b hb => ok2.t b hb
    have htq : sw a k (t q0) = k := by
     have := (hts k h1).2
     rwa [sw_k, hq0] at this
    have hsq : s (sw a k k) = q0 := by rw [sw_k, hq0]
    obtain ⟨s2, hs2e⟩ : ∃ x, (fun i => s (sw a k i)) = x := ⟨_, rfl⟩
    obtain ⟨t2, ht2e⟩ : ∃ x, (fun b => sw a k (t b)) = x := ⟨_, rfl⟩
    have hs2' : ∀ i, s (sw a k i) = s2 i := fun i => congrFun hs2e i
    have ht2' : ∀ i, sw a k (t i) = t2 i := fun i => congrFun ht2e i
    simp only [hs2', ht2'] at hog2 hs2 og2g hts hst htq hsq hgo ok2
    rw [hD1] at hgo ok2
    have hrL : ∀ b j, b < n → j < w → rL (R b j) ≤ 5 ^ k * L := l1
    have hlD : rL D1 ≤ 5 ^ k * L := by
     rw [← hD1]
     split
     ·exact l2
     ·rw [rL_neg]; exact l2
    have hB1 : 1 ≤ 5 ^ k * L := Nat.mul_le_mul (Nat.one_le_pow _ _ (by decide)) hL1
    generalize 5 ^ k * L = B at *
    have hkw : k < w := by omega
    have cm : PCall Tryz.prog 34 [.agg [.b (decide ((D1).num < 0)), dg (digits (D1).num.natAbs), dg (digits (D1).den)], .agg [.b (decide (((R q0 k)).num < 0)), dg (digits ((R q0 k)).num.natAbs), dg (digits ((R q0 k)).den)]] (.agg [.b (decide (((D1 * R q0 k)).num < 0)), dg (digits ((D1 * R q0 k)).num.natAbs), dg (digits ((D1 * R q0 k)).den)]) [] := pmul_ok (IsQ.of hlD) (IsQ.of (hrL q0 k hqn hkw)) hB1 (by omega)
    have lkq := hrow q0 hqn
    have lnq := vl_len3 w (R q0)
    have gtq := vl_get3 (R q0) hkw
    rw [hq] at lkq
    have es0 : fam 1 n (famQ w R) = fam 1 n (famQ w (scR R q0 k 0)) := famQ_congr fun b j hb hj => (if_neg (fun h => Nat.not_lt_zero _ h.2)).symm
    obtain ⟨D2, hD2⟩ : ∃ x, D1 * R q0 k = x := ⟨_, rfl⟩
    obtain ⟨ld, hld⟩ : ∃ x, R q0 k = x := ⟨_, rfl⟩
    rw [hld] at hD2 p3 gtq
    rw [hld, hD2] at cm
    refine AX.sR (rgWV [0, 1, 5, 6, 7, 8, 9, 11] (aI @ol2 (aI @og2k (aI @lkq (aI @lnq (aI @gtq (aI @c0 (aI @c1 (aI @c2 (aI @c3 (aI @c4 oT)))))))))) oT) ?_
    refine AX.sR (rgCV [0, 1, 5, 6, 7, 8, 9, 11] (aI cm oT)) ?_
    rw [es0]
    clear gtq lnq lkq
    refine AX.seq ?_
    refine AX.sR (rgWV [0, 1, 5, 6, 7, 8, 9, 11, 83, 84] (aI @ol2 (aI @og2k (aI @c0 (aI @c1 (aI @c2 (aI @c3 (aI @c4 oT))))))) oT) ?_
    refine AX.block ?_
    refine AX.loop (fun N st => ∃ j : Nat, j ≤ w ∧ N = w - j ∧ st = ⟨[(84, .i .i64 j), (83, .i .i64 w), (11, .ptr 103 0), (9, .i .i64 k), (8, .i .i64 k), (7, .own 102 0 n 1), (6, .ptr 101 0), (5, .ptr 100 0), (1, .i .i64 n), (0, .own 0 0 n 1)], (103, ⟨41, [.b (decide ((ld).num < 0)), dg (digits (ld).num.natAbs), dg (digits (ld).den)]⟩) :: (102, ⟨3, tk1⟩) :: (101, ⟨41, [.b (decide ((D2).num < 0)), dg (digits (D2).num.natAbs), dg (digits (D2).den)]⟩) :: (100, ⟨41, [.b false, .nl, .nl]⟩) :: (0, ⟨22, og2⟩) :: fam 1 n (famQ w (scR R q0 k j)), 104⟩) w ⟨0, Nat.zero_le _, rfl, rfl⟩ ?_
    rintro N st ⟨j, hj, rfl, rfl⟩
    by_cases h5 : j < w
    ·have hlq : lkp (fam 1 n (famQ w (scR R q0 k j))) (1 + q0) = some ⟨41, qrow (vl w (scR R q0 k j q0))⟩ := lkp_fam (famQ w (scR R q0 k j)) hqn
     have ln := vl_len3 w (scR R q0 k j q0)
     have gt := vl_get3 (scR R q0 k j q0) h5
     have ev : scR R q0 k j q0 j = R q0 j := if_neg (fun h => Nat.lt_irrefl _ h.2)
     rw [ev] at gt
     rw [hq] at hlq
     have hset := vl_set3 (scR R q0 k j q0) (R q0 j / ld) h5
     have hset2 : (vl w fun k' => if k' = j then R q0 j / ld else scR R q0 k j q0 k') = vl w (scR R q0 k (j + 1) q0) := vl_congr fun k' hk' => by
      unfold scR
      by_cases e : k' = j
      ·subst e
       rw [if_pos rfl, if_pos ⟨rfl, by omega⟩, hld]
      ·rw [if_neg e]
       by_cases e2 : k' < j
       ·rw [if_pos ⟨rfl, e2⟩, if_pos ⟨rfl, by omega⟩]
       ·rw [if_neg (fun h => e2 h.2), if_neg (fun h => e2 (by omega))]
     rw [hset2] at hset
     have hfs : setL (fam 1 n (famQ w (scR R q0 k j))) q ⟨41, qrow (vl w (scR R q0 k (j + 1) q0))⟩ = fam 1 n (famQ w (scR R q0 k (j + 1))) := famQ_set (Y := scR R q0 k (j + 1)) hq hqn fun b j' hb hj' => by
      unfold scR
      by_cases e : b = q0
      ·rw [e, if_pos rfl]
      ·rw [if_neg e, if_neg (fun h => e h.1), if_neg (fun h => e h.1)]
     have cd : PCall Tryz.prog 132 [.agg [.b (decide (((R q0 j)).num < 0)), dg (digits ((R q0 j)).num.natAbs), dg (digits ((R q0 j)).den)], .agg [.b (decide ((ld).num < 0)), dg (digits (ld).num.natAbs), dg (digits (ld).den)]] (.tup [.agg [.b (decide (((R q0 j / ld)).num < 0)), dg (digits ((R q0 j / ld)).num.natAbs), dg (digits ((R q0 j / ld)).den)], .i .i64 0]) [] := by
      have := pdiv_ok (IsQ.of (hrL q0 j hqn h5)) (IsQ.of (hld ▸ hrL q0 k hqn hkw)) hB1 (by omega)
      unfold qdivV at this
      rw [if_neg p3] at this
      exact this
     generalize R q0 j / ld = y1 at *
     generalize R q0 j = y2 at *
     refine AX.sR (rgAV [0, 1, 5, 6, 7, 8, 9, 11, 83, 84, 85]) ?_
     refine AX.seq ?_
     refine AX.condT (h := ?_)
     refine AX.keepA [0, 1, 5, 6, 7, 8, 9, 11, 83, 84] (h := ?_)
     refine AX.skip ?_
     refine nmZ (h := ?_)
     refine AX.seq ?_
     refine AX.block ?_
     refine AX.sR (rgAV [0, 1, 5, 6, 7, 8, 9, 11, 12, 83, 84]) ?_
     refine AX.rD (rgDWV [0, 1, 5, 6, 7, 8, 9, 11, 83, 84] (aI ol2 (aI og2k (aI hlq (aI ln (aI gt (aI c0 (aI c1 (aI c2 (aI c3 (aI c4 (aI d0 (aI d1 (aI d2 (aI d3 (aI d4 oT))))))))))))))) (aI cd oT) (hok := okDraw_of (by kernel_rfl))) ?_
     refine nmZ (h := ?_)
     rw [hset, hfs]
     refine AX.rR (rgWV [0, 1, 5, 6, 7, 8, 9, 11, 83, 84] (aI @lit_add oT) oT) ?_
     refine nmZ (h := ?_)
     refine ⟨_, _, id, ?_,
      (leG5
       (leQ8H (And.intro hlt14 og2l4))
       (by show _ + 1 ≤ 104; omega) (by omega) (fam_at5 hn)), ⟨j + 1, by omega, rfl, rfl⟩⟩
     omega
    ·obtain rfl : w = j := by omega
     have ee0 : fam 1 n (famQ w (scR R q0 k w)) = fam 1 n (famQ w (elR R t2 q0 k 0 0)) := famQ_congr fun b j' hb hj' => by
      unfold scR elR
      by_cases e : b = q0
      ·rw [if_pos ⟨e, hj'⟩, if_pos e]
      ·rw [if_neg (fun h => e h.1), if_neg e, if_neg (fun h => by omega)]
     refine AX.sR (rgAV [0, 1, 5, 6, 7, 8, 9, 11, 83, 84, 85]) ?_
     refine AX.seq ?_
     refine AX.condF (h := ?_)
     refine AX.exit ?_
     refine nmZ (h := ?_)
     rw [ee0]
     refine AX.seq ?_
     refine AX.sR (rgWV [0, 1, 5, 6, 7, 8, 9, 107, 108] (aI @ol2 oT) oT) ?_
     refine AX.weaken id (st' := ⟨[(108, .i .i64 (0 : Nat)), (107, .i .i64 n), (9, .i .i64 k), (8, .i .i64 k), (7, .own 102 0 n 1), (6, .ptr 101 0), (5, .ptr 100 0), (1, .i .i64 n), (0, .own 0 0 n 1)], (102, ⟨3, tk1⟩) :: (101, ⟨41, [.b (decide ((D2).num < 0)), dg (digits (D2).num.natAbs), dg (digits (D2).den)]⟩) :: (100, ⟨41, [.b false, .nl, .nl]⟩) :: (0, ⟨22, og2⟩) :: fam 1 n (famQ w (elR R t2 q0 k 0 0)), 103⟩)
      (leG4
       (leQ8H (And.intro hlt1 og2lt))
       (by show _ + 1 ≤ 103; omega) (by omega) (fam_at5 hn))
      ?_
     clear ee0 es0
     refine AX.block ?_
     refine AX.loop (fun N st => ∃ i : Nat, i ≤ n ∧ N = n - i ∧ st = ⟨[(108, .i .i64 i), (107, .i .i64 n), (9, .i .i64 k), (8, .i .i64 k), (7, .own 102 0 n 1), (6, .ptr 101 0), (5, .ptr 100 0), (1, .i .i64 n), (0, .own 0 0 n 1)], (102, ⟨3, tk1⟩) :: (101, ⟨41, [.b (decide ((D2).num < 0)), dg (digits (D2).num.natAbs), dg (digits (D2).den)]⟩) :: (100, ⟨41, [.b false, .nl, .nl]⟩) :: (0, ⟨22, og2⟩) :: fam 1 n (famQ w (elR R t2 q0 k i 0)), 103⟩) n ⟨0, Nat.zero_le _, rfl, rfl⟩ ?_
     rintro N st ⟨i, hi, rfl, rfl⟩
     by_cases h6 : i < n
     ·have hsi := (hts i h6).1
      have htsi := (hts i h6).2
      have hskip : (s2 i = q0 ∨ R (s2 i) k = 0) → fam 1 n (famQ w (elR R t2 q0 k i 0)) = fam 1 n (famQ w (elR R t2 q0 k (i + 1) 0)) := fun hc => famQ_congr fun b j' hb hj' => by
       unfold elR
       by_cases e : b = q0
       ·rw [if_pos e, if_pos e]
       ·rw [if_neg e, if_neg e]
        by_cases e2 : t2 b = i
        ·have e3 : b = s2 i := by rw [← e2]; exact (hst b hb).2.symm
         have e4 : R b k = 0 := by
          rcases hc with h | h
          ·exact absurd (e3.trans h) e
          ·rw [e3]; exact h
         rw [if_neg (by omega), if_pos (by omega), e4, Rat.zero_mul]
         grind
        ·by_cases e5 : t2 b < i
         ·rw [if_pos (by omega), if_pos (by omega)]
         ·rw [if_neg (by omega), if_neg (by omega)]
      by_cases h7 : i = k
      ·have hfe := hskip (.inl (by rw [h7]; exact hsq))
       have hik : (i : Int) = (k : Int) := by omega
       rw [hfe]
       refine AX.sR (rgAV [0, 1, 5, 6, 7, 8, 9, 107, 108, 109]) ?_
       refine AX.seq ?_
       refine AX.condT (h := ?_)
       refine AX.keepA [0, 1, 5, 6, 7, 8, 9, 107, 108] (h := ?_)
       refine AX.skip ?_
       refine nmZ (h := ?_)
       refine AX.seq ?_
       refine AX.block ?_
       refine AX.sR (rgAV [0, 1, 5, 6, 7, 8, 9, 13, 107, 108]) ?_
       refine AX.seq ?_
       refine AX.sR (rgWV [0, 1, 5, 6, 7, 8, 9, 13, 107, 108, 124] (aI @hik oT) oT) ?_
       refine AX.condT (h := ?_)
       refine AX.exit ?_
       refine nmZ (h := ?_)
       refine AX.rR (rgWV [0, 1, 5, 6, 7, 8, 9, 107, 108] (aI @lit_add oT) oT) ?_
       refine nmZ (h := ?_)
       refine ⟨_, _, id, ?_,
        (leG4
         (leQ8H (And.intro hlt1 og2lt))
         (by show _ + 1 ≤ 103; omega) (by omega) (fam_at4 hn)), ⟨i + 1, by omega, rfl, rfl⟩⟩
       omega
      ·have hik : ¬ (i : Int) = (k : Int) := by omega
       have hnq : s2 i ≠ q0 := fun e => h7 (by rw [← htsi, e, htq])
       have ogi := og2g i h6
       obtain ⟨⟨x0, x1, x2, x3, x4⟩, y0, y1, y2, y3, y4⟩ := pne (p := 1 + s2 i) (by omega) (by omega)
       have hlp : lkp (fam 1 n (famQ w (elR R t2 q0 k i 0))) (1 + s2 i) = some ⟨41, qrow (vl w (elR R t2 q0 k i 0 (s2 i)))⟩ := lkp_fam (famQ w (elR R t2 q0 k i 0)) hsi
       have lnp := vl_len3 w (elR R t2 q0 k i 0 (s2 i))
       have gtp := vl_get3 (elR R t2 q0 k i 0 (s2 i)) hkw
       have ev : elR R t2 q0 k i 0 (s2 i) k = R (s2 i) k := by
        unfold elR
        rw [if_neg hnq, if_neg (by omega)]
       rw [ev] at gtp
       have cs : PCall Tryz.prog 31 [.agg [.b (decide (((R (s2 i) k)).num < 0)), dg (digits ((R (s2 i) k)).num.natAbs), dg (digits ((R (s2 i) k)).den)]] (.i .i64 (sgnR (R (s2 i) k))) [] := psign_ok (IsQ.of (hrL _ k hsi hkw)) (by omega)
       obtain ⟨p9, hp9⟩ : ∃ x, 1 + s2 i = x := ⟨_, rfl⟩
       rw [hp9] at ogi x0 x1 x2 x3 x4 y0 y1 y2 y3 y4 hlp
       by_cases h8 : R (s2 i) k = 0
       ·have hfe := hskip (.inr h8)
        have hz := sgnR_eq_zero.2 h8
        rw [hz] at cs
        clear hskip
        generalize R (s2 i) k = qq at *
        refine AX.sR (rgAV [0, 1, 5, 6, 7, 8, 9, 107, 108, 109]) ?_
        refine AX.seq ?_
        refine AX.condT (h := ?_)
        refine AX.keepA [0, 1, 5, 6, 7, 8, 9, 107, 108] (h := ?_)
        refine AX.skip ?_
        refine nmZ (h := ?_)
        refine AX.seq ?_
        refine AX.block ?_
        refine AX.sR (rgAV [0, 1, 5, 6, 7, 8, 9, 13, 107, 108]) ?_
        refine AX.seq ?_
        refine AX.sR (rgWV [0, 1, 5, 6, 7, 8, 9, 13, 107, 108, 124] (aI @hik (aI @ol2 (aI @ogi (aI @hlp (aI @lnp (aI @gtp (aI @x0 (aI @x1 (aI @x2 (aI @x3 (aI @x4 oT))))))))))) (aI cs oT)) ?_
        refine AX.condT (h := ?_)
        refine AX.exit ?_
        refine nmZ (h := ?_)
        rw [hfe]
        refine AX.rR (rgWV [0, 1, 5, 6, 7, 8, 9, 107, 108] (aI @lit_add oT) oT) ?_
        refine nmZ (h := ?_)
        refine ⟨_, _, id, ?_,
         (leG4
          (leQ8H (And.intro hlt1 og2lt))
          (by show _ + 1 ≤ 103; omega) (by omega) (fam_at4 hn)), ⟨i + 1, by omega, rfl, rfl⟩⟩
        omega
       ·have hz : ¬ sgnR (R (s2 i) k) = 0 := fun e => h8 (sgnR_eq_zero.1 e)
        clear hskip
        obtain ⟨qq, hqq⟩ : ∃ x, R (s2 i) k = x := ⟨_, rfl⟩
        rw [hqq] at hz cs gtp ev
        refine AX.sR (rgAV [0, 1, 5, 6, 7, 8, 9, 107, 108, 109]) ?_
        refine AX.seq ?_
        refine AX.condT (h := ?_)
        refine AX.keepA [0, 1, 5, 6, 7, 8, 9, 107, 108] (h := ?_)
        refine AX.skip ?_
        refine nmZ (h := ?_)
        refine AX.seq ?_
        refine AX.block ?_
        refine AX.sR (rgAV [0, 1, 5, 6, 7, 8, 9, 13, 107, 108]) ?_
        refine AX.seq ?_
        refine AX.sR (rgWV [0, 1, 5, 6, 7, 8, 9, 13, 107, 108, 124] (aI @hik (aI @ol2 (aI @ogi (aI @hlp (aI @lnp (aI @gtp (aI @x0 (aI @x1 (aI @x2 (aI @x3 (aI @x4 (aI @hz oT)))))))))))) (aI cs oT)) ?_
        refine AX.condF (h := ?_)
        refine AX.keepA [0, 1, 5, 6, 7, 8, 9, 13, 107, 108] (h := ?_)
        refine AX.skip ?_
        refine nmZ (h := ?_)
        refine AX.sR (rgWV [0, 1, 5, 6, 7, 8, 9, 13, 14, 107, 108] (aI @ol2 (aI @ogi (aI @hlp (aI @lnp (aI @gtp (aI @x0 (aI @x1 (aI @x2 (aI @x3 (aI @x4 oT)))))))))) oT) ?_
        refine AX.sR (rgWV [0, 1, 5, 6, 7, 8, 9, 13, 14, 107, 108, 136, 137] (aI @ol2 (aI @ogi (aI @x0 (aI @x1 (aI @x2 (aI @x3 (aI @x4 oT))))))) oT) ?_
        clear hlp lnp gtp cs hz ev
        refine AX.block ?_
        refine AX.loop (fun N st => ∃ j : Nat, j ≤ w ∧ N = w - j ∧ st = ⟨[(137, .i .i64 j), (136, .i .i64 w), (14, .ptr 103 0), (13, .i .i64 i), (108, .i .i64 i), (107, .i .i64 n), (9, .i .i64 k), (8, .i .i64 k), (7, .own 102 0 n 1), (6, .ptr 101 0), (5, .ptr 100 0), (1, .i .i64 n), (0, .own 0 0 n 1)], (103, ⟨41, [.b (decide ((qq).num < 0)), dg (digits (qq).num.natAbs), dg (digits (qq).den)]⟩) :: (102, ⟨3, tk1⟩) :: (101, ⟨41, [.b (decide ((D2).num < 0)), dg (digits (D2).num.natAbs), dg (digits (D2).den)]⟩) :: (100, ⟨41, [.b false, .nl, .nl]⟩) :: (0, ⟨22, og2⟩) :: fam 1 n (famQ w (elR R t2 q0 k i j)), 104⟩) w ⟨0, Nat.zero_le _, rfl, rfl⟩ ?_
        rintro N st ⟨j, hj, rfl, rfl⟩
        by_cases h9 : j < w
        ·have hlp : lkp (fam 1 n (famQ w (elR R t2 q0 k i j))) (1 + s2 i) = some ⟨41, qrow (vl w (elR R t2 q0 k i j (s2 i)))⟩ := lkp_fam (famQ w (elR R t2 q0 k i j)) hsi
         have hlq : lkp (fam 1 n (famQ w (elR R t2 q0 k i j))) (1 + q0) = some ⟨41, qrow (vl w (elR R t2 q0 k i j q0))⟩ := lkp_fam (famQ w (elR R t2 q0 k i j)) hqn
         have lnp := vl_len3 w (elR R t2 q0 k i j (s2 i))
         have lnq := vl_len3 w (elR R t2 q0 k i j q0)
         have gtp := vl_get3 (elR R t2 q0 k i j (s2 i)) h9
         have gtq := vl_get3 (elR R t2 q0 k i j q0) h9
         have ev : elR R t2 q0 k i j (s2 i) j = R (s2 i) j := by
          unfold elR
          rw [if_neg hnq, if_neg (by omega)]
         have evq : elR R t2 q0 k i j q0 j = R q0 j / R q0 k := if_pos rfl
         rw [ev] at gtp
         rw [evq] at gtq
         rw [hp9] at hlp
         rw [hq] at hlq
         have g1 := rL_div (R q0 j) (R q0 k) (hrL q0 j hqn h9) (hrL q0 k hqn hkw) (by omega)
         have g2 := rL_mul qq _ (hqq ▸ hrL (s2 i) k hsi hkw) g1 (by omega)
         have cm : PCall Tryz.prog 34 [.agg [.b (decide ((qq).num < 0)), dg (digits (qq).num.natAbs), dg (digits (qq).den)], .agg [.b (decide (((R q0 j / R q0 k)).num < 0)), dg (digits ((R q0 j / R q0 k)).num.natAbs), dg (digits ((R q0 j / R q0 k)).den)]] (.agg [.b (decide (((qq * (R q0 j / R q0 k))).num < 0)), dg (digits ((qq * (R q0 j / R q0 k))).num.natAbs), dg (digits ((qq * (R q0 j / R q0 k))).den)]) [] := pmul_ok (L := 2 * B) (IsQ.of (Nat.le_trans (hqq ▸ hrL (s2 i) k hsi hkw) (by omega))) (IsQ.of (by omega)) (by omega) (by omega)
         have cb : PCall Tryz.prog 48 [.agg [.b (decide (((R (s2 i) j)).num < 0)), dg (digits ((R (s2 i) j)).num.natAbs), dg (digits ((R (s2 i) j)).den)], .agg [.b (decide (((qq * (R q0 j / R q0 k))).num < 0)), dg (digits ((qq * (R q0 j / R q0 k))).num.natAbs), dg (digits ((qq * (R q0 j / R q0 k))).den)]] (.agg [.b (decide (((R (s2 i) j - qq * (R q0 j / R q0 k))).num < 0)), dg (digits ((R (s2 i) j - qq * (R q0 j / R q0 k))).num.natAbs), dg (digits ((R (s2 i) j - qq * (R q0 j / R q0 k))).den)]) [] := psub_ok (L := 3 * B) (IsQ.of (Nat.le_trans (hrL (s2 i) j hsi h9) (by omega))) (IsQ.of (by omega)) (by omega) (by omega)
         have hset := vl_set3 (elR R t2 q0 k i j (s2 i)) (R (s2 i) j - qq * (R q0 j / R q0 k)) h9
         have hset2 : (vl w fun k' => if k' = j then R (s2 i) j - qq * (R q0 j / R q0 k) else elR R t2 q0 k i j (s2 i) k') = vl w (elR R t2 q0 k i (j + 1) (s2 i)) := vl_congr fun k' hk' => by
          unfold elR
          rw [if_neg hnq, if_neg hnq]
          by_cases e : k' = j
          ·rw [if_pos e, if_pos (by omega), hqq, e]
          ·rw [if_neg e]
           by_cases e2 : k' < j
           ·rw [if_pos (by omega), if_pos (by omega)]
           ·rw [if_neg (by omega), if_neg (by omega)]
         rw [hset2] at hset
         have hfs : setL (fam 1 n (famQ w (elR R t2 q0 k i j))) p9 ⟨41, qrow (vl w (elR R t2 q0 k i (j + 1) (s2 i)))⟩ = fam 1 n (famQ w (elR R t2 q0 k i (j + 1))) := famQ_set (Y := elR R t2 q0 k i (j + 1)) hp9 hsi fun b j' hb hj' => by
          by_cases e : b = s2 i
          ·rw [e, if_pos rfl]
          ·rw [if_neg e]
           unfold elR
           have e2 : t2 b ≠ i := fun h => e (by rw [← h]; exact (hst b hb).2.symm)
           by_cases e3 : b = q0
           ·rw [if_pos e3, if_pos e3]
           ·rw [if_neg e3, if_neg e3]
            by_cases e5 : t2 b < i
            ·rw [if_pos (by omega), if_pos (by omega)]
            ·rw [if_neg (by omega), if_neg (by omega)]
         clear hset2 ev evq g1 g2
         generalize R (s2 i) j - qq * (R q0 j / R q0 k) = z1 at *
         generalize qq * (R q0 j / R q0 k) = z2 at *
         generalize R q0 j / R q0 k = z3 at *
         generalize R (s2 i) j = z4 at *
         refine AX.sR (rgAV [0, 1, 5, 6, 7, 8, 9, 13, 14, 107, 108, 136, 137, 138]) ?_
         refine AX.seq ?_
         refine AX.condT (h := ?_)
         refine AX.keepA [0, 1, 5, 6, 7, 8, 9, 13, 14, 107, 108, 136, 137] (h := ?_)
         refine AX.skip ?_
         refine nmZ (h := ?_)
         refine AX.seq ?_
         refine AX.block ?_
         refine AX.sR (rgAV [0, 1, 5, 6, 7, 8, 9, 13, 14, 15, 107, 108, 136, 137]) ?_
         refine AX.rD (rgDWV [0, 1, 5, 6, 7, 8, 9, 13, 14, 107, 108, 136, 137] (aI ol2 (aI ogi (aI og2k (aI hlp (aI hlq (aI lnp (aI lnq (aI gtp (aI gtq (aI c0 (aI c1 (aI c2 (aI c3 (aI c4 (aI x0 (aI x1 (aI x2 (aI x3 (aI x4 (aI y0 (aI y1 (aI y2 (aI y3 (aI y4 oT)))))))))))))))))))))))) (aI cm (aI cb oT)) (hok := okDraw_of (by kernel_rfl))) ?_
         refine nmZ (h := ?_)
         rw [hset, hfs]
         refine AX.rR (rgWV [0, 1, 5, 6, 7, 8, 9, 13, 14, 107, 108, 136, 137] (aI @lit_add oT) oT) ?_
         refine nmZ (h := ?_)
         refine ⟨_, _, id, ?_,
          (leG5
           (leQ8H (And.intro hlt14 og2l4))
           (by show _ + 1 ≤ 104; omega) (by omega) (fam_at5 hn)), ⟨j + 1, by omega, rfl, rfl⟩⟩
         omega
        ·obtain rfl : w = j := by omega
         have hfe : fam 1 n (famQ w (elR R t2 q0 k i w)) = fam 1 n (famQ w (elR R t2 q0 k (i + 1) 0)) := famQ_congr fun b j' hb hj' => by
          unfold elR
          by_cases e : b = q0
          ·rw [if_pos e, if_pos e]
          ·rw [if_neg e, if_neg e]
           by_cases e5 : t2 b < i + 1
           ·rw [if_pos (by omega), if_pos (by omega)]
           ·rw [if_neg (by omega), if_neg (by omega)]
         refine AX.sR (rgAV [0, 1, 5, 6, 7, 8, 9, 13, 14, 107, 108, 136, 137, 138]) ?_
         refine AX.seq ?_
         refine AX.condF (h := ?_)
         refine AX.exit ?_
         refine nmZ (h := ?_)
         rw [hfe]
         refine AX.rR (rgWV [0, 1, 5, 6, 7, 8, 9, 107, 108] (aI @lit_add oT) oT) ?_
         refine nmZ (h := ?_)
         refine ⟨_, _, id, ?_,
          (leG4
           (leQ8H (And.intro hlt1 og2lt))
           (by show _ + 1 ≤ 103; omega) (by omega) (fam_at5 hn)), ⟨i + 1, by omega, rfl, rfl⟩⟩
         omega
     ·obtain rfl : n = i := by omega
      have hfe : fam 1 n (famQ w (elR R t2 q0 k n 0)) = fam 1 n (famQ w (elimG q0 k R)) := famQ_congr fun b j' hb hj' => by
       unfold elR elimG
       by_cases e : b = q0
       ·rw [if_pos e, if_pos e]
       ·rw [if_neg e, if_neg e, if_pos (by have := (hst b hb).1; omega)]
      have htl1 : tk1.length = n := by rw [← htk1, List.length_set]; exact htl
      refine AX.sR (rgAV [0, 1, 5, 6, 7, 8, 9, 107, 108, 109]) ?_
      refine AX.seq ?_
      refine AX.condF (h := ?_)
      refine AX.exit ?_
      refine nmZ (h := ?_)
      rw [hfe]
      refine AX.sR (rgWV [0, 1, 5, 6, 7, 8, 9] (aI @htl1 oT) oT) ?_
      refine AX.rR (rgWV [0, 1, 5, 6, 7, 8, 9] (aI @lit_add oT) oT) ?_
      refine nmZ (h := ?_)
      refine AX.rR (rgWV [0, 1, 5, 6, 7, 8, 9] (aI @lit_add oT) oT) ?_
      refine nmZ (h := ?_)
      rw [htn]
      refine ⟨_, ⟨[(9, .i .i64 ((k + 1 : Nat) : Int)), (8, .i .i64 ((k + 1 : Nat) : Int)), (7, .own 102 0 n 1), (6, .ptr 101 0), (5, .ptr 100 0), (1, .i .i64 n), (0, .own 0 0 n 1)], (102, ⟨3, tkL n (k + 1)⟩) :: (101, ⟨41, [.b (decide ((e2.D).num < 0)), dg (digits (e2.D).num.natAbs), dg (digits (e2.D).den)]⟩) :: (100, ⟨41, [.b false, .nl, .nl]⟩) :: (0, ⟨22, gl n fun i => .own (1 + e2.s i) 0 w 3⟩) :: fam 1 n (famQ w (e2.R)), 103⟩, id, ?_, ?_, ⟨k + 1, by omega, rfl, by rw [he2]⟩⟩
      ·omega
      ·have hltk := lt_tk 103 n (k + 1)
       refine hgo (fun x => Le (n + 1) id ⟨[(9, .i .i64 ((k + 1 : Nat) : Int)), (8, .i .i64 ((k + 1 : Nat) : Int)), (7, .own 102 0 n 1), (6, .ptr 101 0), (5, .ptr 100 0), (1, .i .i64 n), (0, .own 0 0 n 1)], (102, ⟨3, tkL n (k + 1)⟩) :: (101, ⟨41, [.b (decide ((x.D).num < 0)), dg (digits (x.D).num.natAbs), dg (digits (x.D).den)]⟩) :: (100, ⟨41, [.b false, .nl, .nl]⟩) :: (0, ⟨22, gl n fun i => .own (1 + x.s i) 0 w 3⟩) :: fam 1 n (famQ w (x.R)), 103⟩ _) ?_
       show Le (n + 1) id ⟨[(9, .i .i64 ((k + 1 : Nat) : Int)), (8, .i .i64 ((k + 1 : Nat) : Int)), (7, .own 102 0 n 1), (6, .ptr 101 0), (5, .ptr 100 0), (1, .i .i64 n), (0, .own 0 0 n 1)], (102, ⟨3, tkL n (k + 1)⟩) :: (101, ⟨41, [.b (decide (((D1 * R q0 k)).num < 0)), dg (digits ((D1 * R q0 k)).num.natAbs), dg (digits ((D1 * R q0 k)).den)]⟩) :: (100, ⟨41, [.b false, .nl, .nl]⟩) :: (0, ⟨22, gl n fun i => .own (1 + s2 i) 0 w 3⟩) :: fam 1 n (famQ w (elimG q0 k R)), 103⟩ _
       rw [hog2, hld, hD2]
       exact leG4
        (leQ8H (And.intro hltk og2lt))
        (by omega) (by omega) (fam_at4 hn)
 ·obtain rfl : n = k := by omega
  have ok := hok n (Nat.le_refl n)
  obtain ⟨g, hg⟩ : ∃ x, gj n A n = x := ⟨_, rfl⟩
  rw [hg] at ok ⊢
  obtain ⟨R, s, t, D⟩ := g
  have hs : ∀ i, i < n → s i < n := fun i hi => (ok.s i hi).1
  have htf : (tkL n n).all V.flat = true := tk_flat n n
  have hth : V.hfL (tkL n n) = true := tk_hf n n
  have htl := tkL_len n n
  refine AX.sR (rgAV [0, 1, 5, 6, 7, 8, 9, 21]) ?_
  refine AX.condF (h := ?_)
  refine AX.exit ?_
  refine nmZ (h := ?_)
  refine AX.fz 102 (fr' := [(7, .sl (tkL n n)), (6, .ptr 101 0), (5, .ptr 100 0)]) (hp' := (101, ⟨41, [.b (decide ((D).num < 0)), dg (digits (D).num.natAbs), dg (digits (D).den)]⟩) :: (100, ⟨41, [.b false, .nl, .nl]⟩) :: (0, ⟨22, gl n fun i => .own (1 + s i) 0 w 3⟩) :: fam 1 n (famQ w (R))) rfl hth
   (.cons rfl (.own (by
    have e : List.take n (tkL n n) = tkL n n := List.take_of_length_le (by omega)
    unfold okFrz
    rw [List.drop_zero, Nat.mul_one, e, htf, hth, htl]
    simp) (by
    show chunks 1 n (List.take (n * 1) (List.drop 0 (tkL n n))) = _
    rw [Nat.mul_one, List.drop_zero, List.take_of_length_le (by omega)]
    exact if_pos rfl)) (.cons rfl .same (.cons rfl .same .nil)))
   (.cons (by decide) rfl rfl rfl (fun k hk => .same) (.cons (by decide) rfl rfl rfl (fun k hk => .same) (.cons (by decide) rfl rfl rfl (fun k hk => .same) (fzHp_rows _ _ fun a ha => ?_)))) ?_
  ·rw [List.length_map, List.length_range] at ha
   refine ⟨by omega, ?_⟩
   rw [range_getD _ ha]
   exact fam_at4 hn a ha
  refine AX.sD (rgDAV [4, 5]) ?_
  refine AX.ret ⟨.inl rfl, ?_⟩
  refine ⟨[.sl (tkL n n), .agg [.b (decide ((D).num < 0)), dg (digits (D).num.natAbs), dg (digits (D).den)]], by simp only [resVs, resV, lkp, lay_ratio, Nat.reduceEqDiff, reduceIte, Array.toList]; rfl, rfl, by simp [V.lt, V.ltL, rV, rR, dg, ltL_u], by simp [V.ren, rV, dg, renL_u, renL_id], fun a ha => ?_⟩
  cases a with
  | zero => exact ⟨rfl, og_lt fun i hi => by have := hs i hi; simp; omega, renL_id _⟩
  | succ a =>
   have ha' : a < n := by simpa using ha
   rw [List.getD_cons_succ, range_getD _ ha']
   refine ⟨?_, famQ_lt _ _ _ _, renL_id _⟩
   rw [Nat.add_comm, lkp_ne (by omega), lkp_ne (by omega), lkp_ne (by omega)]
   exact lkp_fam _ ha'
end Go.Proofs.YtepkjfnffbdcoaaGreat
