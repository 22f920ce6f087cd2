/- Chains: closed classes; Shut, Closed. -/
import Derived.Test.YtepkjfnffbdcoaaGreatChK
import Derived.Test.YtepkjfnffbdcoaaGreatRfG
set_option linter.unusedVariables false
set_option maxRecDepth 20000
set_option linter.unusedSimpArgs false
namespace Go.Proofs.YtepkjfnffbdcoaaGreat
open Go Go.Proofs.YtepkjfnffbdcoaaGreat.Lift
attribute [local irreducible] Lift.PCall Lift.HCall
/-! ### Lists of sets -/
def sll (L : List (List Nat)) : List V := L.map fun l => .sl (il l)
theorem sll_length (L : List (List Nat)) : (sll L).length = L.length := List.length_map ..
theorem sll_hf (L : List (List Nat)) : V.hfL (sll L) = true ∧ (sll L).all V.flat = true := hfL_map _ (fun l => ⟨by simp only [V.hf], rfl⟩) L
theorem ren_sl (f : Nat → Nat) (L : List (List Nat)) : V.renL f (sll L) = sll L := (hf_names f 0 _ (sll_hf L).1).1
theorem lt_sl (k : Nat) (L : List (List Nat)) : V.ltL k (sll L) = true := (hf_names id k _ (sll_hf L).1).2
theorem okFrz_il (l : List Nat) : okFrz 0 l.length 1 (il l) = true := by
  unfold okFrz
  have e : ((il l).drop 0).take (l.length * 1) = il l := by rw [List.drop_zero, Nat.mul_one, ← il_length]; exact List.take_length
  rw [e, (il_hf l).1, (il_hf l).2, il_length]
  simp
theorem chunks_il (l : List Nat) : chunks 1 l.length (((il l).drop 0).take (l.length * 1)) = il l := by
  rw [chunks_one, List.drop_zero, Nat.mul_one, ← il_length]
  exact List.take_length
/-- A set at a list's end is done. -/
theorem sll_fz {h : Nat} (L : List (List Nat)) (l : List Nat) : ∀ k, k < (sll (L ++ [l])).length → FzV h (il l) ((sll L ++ [V.own h 0 l.length 1]).getD k .junk) ((sll (L ++ [l])).getD k .junk) := by
  intro k hk
  have e : sll (L ++ [l]) = sll L ++ [V.sl (il l)] := by simp [sll]
  rw [e] at hk ⊢
  rw [List.length_append, List.length_singleton] at hk
  by_cases h1 : k < (sll L).length
  · rw [List.getD_eq_getElem?_getD, List.getD_eq_getElem?_getD, List.getElem?_append_left h1, List.getElem?_append_left h1]
    exact .same
  · have h2 : k = (sll L).length := by omega
    subst h2
    simp only [List.getD_eq_getElem?_getD, List.getElem?_append_right (Nat.le_refl _), Nat.sub_self, List.getElem?_cons_zero, Option.getD_some]
    exact .own (okFrz_il l) (chunks_il l)
theorem Lift.Done.slS {P : Program} {st : St} {t : Tmp} {h n : Nat} {L : List (List Nat)} {T : TypeId} (h1 : lkp st.fr t = some (.own h 0 n 1)) (h2 : lkp st.hp h = some ⟨T, sll L⟩) (hn : n = L.length) : Done P #[.tmp t] (.sl (sll L)) [] st := by
  subst hn
  have e : List.take L.length (List.drop 0 (sll L)) = sll L := by rw [List.drop_zero, ← sll_length, List.take_length]
  refine Done.of (vs := [.own h 0 L.length 1]) (hp := dlt st.hp h) ?_ ?_ rfl ?_ ?_
  · simp only [resVs, resV, h1]
  · simp only [packV, frz, h2, List.not_mem_nil, if_false, Nat.mul_one, Nat.zero_add, sll_length, Nat.le_refl, e, (sll_hf L).1, (sll_hf L).2, and_self, if_true, Nat.lt_succ_self, Nat.zero_lt_one, true_and, chunks_one]
  · simp only [V.lt]
  · simp only [V.ren]
theorem lay_ints : lay Tryz.prog 58 = some ⟨1, false, 24, [.nl]⟩ := by kernel_rfl
attribute [go_sem] Tryz.underlying56 lay_ints
theorem leQ9 {g : Nat} {f : Nat → Nat} {st' st : St} (h1 : LeFr f st.fr st'.nx st'.fr := by simp only [ren_q, renL_u, ren_z, ren_bl, ren_il, renL_id, ren_id, ren_wr, ren_wr0, ren_sl, lt_q, ltL_u, lt_z, lt_bl, lt_il, lt_wr, lt_wr0, lt_sl, LeFr, LeHp, lkp, V.ren, V.renL, Row.ren, V.lt, V.ltL, renL_u, ltL_u, List.length_append, List.length_cons, List.length_nil, List.length_set, id_eq, Option.some.injEq, V.i.injEq, V.b.injEq, V.own.injEq, Row.mk.injEq, decide_true, decide_eq_true_eq, true_and, and_true, Bool.and_true, Bool.true_and, if_true, if_false, and_self, Nat.reduceLT, Nat.reduceLeDiff, Nat.reduceEqDiff, Nat.reduceAdd, Nat.reduceSub, Nat.reduceMul, Nat.reducePow, Nat.reduceBEq, Int.reduceLE, Int.reduceLT, Int.reduceToNat, Int.reduceEq, Int.reduceNeg, reduceIte, reduceCtorEq] <;> (first | done | trivial | (and_intros <;> first | trivial | omega | assumption)))
    (h2 : LeHp f st.hp st'.nx st'.hp := by simp only [ren_q, renL_u, ren_z, ren_bl, ren_il, renL_id, ren_id, ren_wr, ren_wr0, ren_sl, lt_q, ltL_u, lt_z, lt_bl, lt_il, lt_wr, lt_wr0, lt_sl, LeFr, LeHp, lkp, V.ren, V.renL, Row.ren, V.lt, V.ltL, renL_u, ltL_u, List.length_append, List.length_cons, List.length_nil, List.length_set, id_eq, Option.some.injEq, V.i.injEq, V.b.injEq, V.own.injEq, Row.mk.injEq, decide_true, decide_eq_true_eq, true_and, and_true, Bool.and_true, Bool.true_and, if_true, if_false, and_self, Nat.reduceLT, Nat.reduceLeDiff, Nat.reduceEqDiff, Nat.reduceAdd, Nat.reduceSub, Nat.reduceMul, Nat.reducePow, Nat.reduceBEq, Int.reduceLE, Int.reduceLT, Int.reduceToNat, Int.reduceEq, Int.reduceNeg, reduceIte, reduceCtorEq] <;> (first | done | trivial | (and_intros <;> first | trivial | omega | assumption)))
    (h3 : Apart f st'.hp := by simp [Apart]) (h4 : g ≤ st'.nx := by first | exact Nat.zero_le _ | simp) (h5 : ∀ n, n < g → f n = n := by intro n hn; first | rfl | exact absurd hn (Nat.not_lt_zero _) | (have h0 : n = 0 := Nat.lt_one_iff.1 hn; subst h0; rfl)) : Le g f st' st := ⟨h1, h2, h3, h4, h5⟩
theorem leQ9H {g : Nat} {f : Nat → Nat} {st' st : St} {H : Prop} (hh : H) (h1 : H → LeFr f st.fr st'.nx st'.fr := by intro hh; simp only [ren_q, renL_u, ren_z, ren_bl, ren_il, renL_id, ren_id, ren_wr, ren_wr0, ren_sl, lt_q, ltL_u, lt_z, lt_bl, lt_il, lt_wr, lt_wr0, lt_sl, LeFr, LeHp, lkp, V.ren, V.renL, Row.ren, V.lt, V.ltL, renL_u, ltL_u, List.length_append, List.length_cons, List.length_nil, List.length_set, id_eq, Option.some.injEq, V.i.injEq, V.b.injEq, V.own.injEq, Row.mk.injEq, decide_true, decide_eq_true_eq, true_and, and_true, Bool.and_true, Bool.true_and, if_true, if_false, and_self, Nat.reduceLT, Nat.reduceLeDiff, Nat.reduceEqDiff, Nat.reduceAdd, Nat.reduceSub, Nat.reduceMul, Nat.reducePow, Nat.reduceBEq, Int.reduceLE, Int.reduceLT, Int.reduceToNat, Int.reduceEq, Int.reduceNeg, reduceIte, reduceCtorEq] <;> (first | done | trivial | (and_intros <;> first | trivial | omega | rw [hh] | (simp only [hh]; done) | assumption)))
    (h2 : H → LeHp f st.hp st'.nx st'.hp := by intro hh; simp only [ren_q, renL_u, ren_z, ren_bl, ren_il, renL_id, ren_id, ren_wr, ren_wr0, ren_sl, lt_q, ltL_u, lt_z, lt_bl, lt_il, lt_wr, lt_wr0, lt_sl, LeFr, LeHp, lkp, V.ren, V.renL, Row.ren, V.lt, V.ltL, renL_u, ltL_u, List.length_append, List.length_cons, List.length_nil, List.length_set, id_eq, Option.some.injEq, V.i.injEq, V.b.injEq, V.own.injEq, Row.mk.injEq, decide_true, decide_eq_true_eq, true_and, and_true, Bool.and_true, Bool.true_and, if_true, if_false, and_self, Nat.reduceLT, Nat.reduceLeDiff, Nat.reduceEqDiff, Nat.reduceAdd, Nat.reduceSub, Nat.reduceMul, Nat.reducePow, Nat.reduceBEq, Int.reduceLE, Int.reduceLT, Int.reduceToNat, Int.reduceEq, Int.reduceNeg, reduceIte, reduceCtorEq] <;> (first | done | trivial | (and_intros <;> first | trivial | omega | rw [hh] | (simp only [hh]; done) | assumption)))
    (h3 : Apart f st'.hp := by simp [Apart]) (h4 : g ≤ st'.nx := by first | exact Nat.zero_le _ | simp) (h5 : ∀ n, n < g → f n = n := by intro n hn; first | rfl | exact absurd hn (Nat.not_lt_zero _) | (have h0 : n = 0 := Nat.lt_one_iff.1 hn; subst h0; rfl)) : Le g f st' st := ⟨h1 hh, h2 hh, h3, h4, h5⟩
theorem dnQ9 {P : Program} {rs : Array ResultVar} {vs : List V} {r v : V} {st : St} {hp : List (Nat × Row)} (h1 : resVs P st rs.toList = some vs := by simp (disch := omega) only [resVs, resV, go_sem, i64_of, u32_of, u64_of, Nat.reduceLT, Nat.reduceLeDiff, Nat.reduceEqDiff, Nat.reduceAdd, Nat.reduceSub, Nat.reduceMul, Nat.reducePow, Nat.reduceBEq, Int.reduceLE, Int.reduceLT, Int.reduceToNat, Int.reduceEq, Int.reduceNeg, reduceIte, reduceCtorEq]; rfl) (h2 : frz [] (packV vs) st.hp = some (v, hp) := by simp only [packV, frz, frzL]; rfl) (h : v = r := by rfl)
    (h3 : r.lt 0 = true := by simp only [V.lt, V.ltL, ltL_u, lt_q, ltL_u, lt_z, lt_bl, lt_il, lt_wr, lt_wr0, lt_sl]; first | done | rfl) (h4 : r.ren id = r := by simp only [V.ren, V.renL, renL_u, ren_q, renL_u, ren_z, ren_bl, ren_il, renL_id, ren_id, ren_wr, ren_wr0, ren_sl]; first | done | rfl) : Done P rs r [] st := Lift.Done.of h1 h2 h h3 h4
/-! ### The plain law -/
/-- What holds of the first k states that a state comes to. -/
def okN (F : Nat → Nat → Bool) (r : Nat → Bool) (i : Nat) : Nat → Bool
  | 0 => true
  | k + 1 => okN F r i k && (!F i k || (F k i && !r k && decide (i ≤ k)))
def shutL (n : Nat) (F : Nat → Nat → Bool) (r : Nat → Bool) : Nat → List (List Nat)
  | 0 => []
  | i + 1 => if okN F r i n = true then shutL n F r i ++ [pick n (F i)] else shutL n F r i
theorem okN_iff {F : Nat → Nat → Bool} {r : Nat → Bool} {i : Nat} (n : Nat) : okN F r i n = true ↔ ∀ k, k < n → F i k = true → F k i = true ∧ r k = false ∧ i ≤ k := by
  induction n with
  | zero => simp [okN]
  | succ n ih =>
    rw [okN, Bool.and_eq_true, ih]
    constructor
    · rintro ⟨h1, h2⟩ k hk hf
      by_cases e : k = n
      · subst e
        rw [hf] at h2
        simpa [and_assoc] using h2
      · exact h1 k (by omega) hf
    · intro h
      refine ⟨fun k hk => h k (by omega), ?_⟩
      cases hf : F i n
      · rfl
      · obtain ⟨h1, h2, h3⟩ := h n (by omega) hf
        rw [h1, h2, decide_eq_true h3]
        rfl
theorem okN_false {F : Nat → Nat → Bool} {r : Nat → Bool} {i k n : Nat} (hk : k < n) (hf : F i k = true) (h : ¬ (F k i = true ∧ r k = false ∧ i ≤ k)) : okN F r i n = false := by
  cases h1 : okN F r i n
  · rfl
  · exact absurd ((okN_iff n).1 h1 k hk hf) h
/-! ### Shut -/
set_option maxHeartbeats 16000000 in
theorem cshut_ok (n : Nat) (hn : n ≤ 60) (F : Nat → Nat → Bool) (r : Nat → Bool) : PCall Tryz.prog 96 [.sl (bll n F), .sl (bl n r)] (.sl (sll (shutL n F r n))) [] := by
  refine PCall.of_ax Tryz.call96 Tryz.func96 rfl (by simp [Tryz.ntmps96]) fun O w => ?_
  simp only [Tryz.ntmps96, Tryz.results96, argFr]
  have hlF := bll_length n F
  have hgF := fun i (hi : i < n) => bll_get F hi
  have hlr := bl_length n r
  have hgr := fun i (hi : i < n) => bl_get r hi
  have hlen : ∀ i, i ≤ n → (shutL n F r i).length ≤ i := by
    intro i
    induction i with
    | zero => intro _; exact Nat.le_refl _
    | succ i ih =>
      intro hi
      have := ih (by omega)
      unfold shutL
      split
      · rw [List.length_append, List.length_singleton]
        omega
      · omega
  generalize bll n F = Fw at *
  generalize bl n r = rw' at *
  refine AX.sregAV [0, 1] (hq := ?_)
  refine AX.scope ?_
  refine AX.sregAV [0, 1, 5] (hq := ?_)
  refine AX.own0 5 58 1 rfl ?_
  refine AX.seq ?_
  refine AX.label ?_
  try simp only [zn1,zn2,zn3,zn4,zn5,zn6,zn7,zn8,if_true]
  refine AX.seq ?_
  refine AX.sregWV [0, 1, 5, 10, 11] (aI @hlF oT) oT (hq := ?_)
  refine AX.weaken id (st' := ⟨[(11, .i .i64 (0 : Nat)), (10, .i .i64 n), (5, .own 0 0 (shutL n F r 0).length 1), (1, .sl rw'), (0, .sl Fw)], [(0, ⟨58, sll (shutL n F r 0)⟩)], 1⟩)
    leQ9
    ?_
  refine AX.block ?_
  refine AX.loop (fun N st => ∃ (i : Nat) (L : List (List Nat)), i ≤ n ∧ N = n - i ∧ shutL n F r i = L ∧ st = ⟨[(11, .i .i64 i), (10, .i .i64 n), (5, .own 0 0 L.length 1), (1, .sl rw'), (0, .sl Fw)], [(0, ⟨58, sll L⟩)], 1⟩) n ⟨0, _, Nat.zero_le _, rfl, rfl, rfl⟩ ?_
  rintro N st ⟨i, L, hi, rfl, hL, rfl⟩
  have hLl : L.length ≤ i := hL ▸ hlen i hi
  by_cases h1 : i < n
  · have hgi := hgF i h1
    have hno : okN F r i n = false → shutL n F r (i + 1) = L := fun h => by
      rw [shutL, if_neg (by rw [h]; exact Bool.false_ne_true), hL]
    have hyes : okN F r i n = true → shutL n F r (i + 1) = L ++ [pick n (F i)] := fun h => by
      rw [shutL, if_pos h, hL]
    clear hlen hL
    refine AX.sregAV [0, 1, 5, 10, 11, 12] (hq := ?_)
    refine AX.seq ?_
    refine AX.condT (h := ?_)
    refine AX.keepA [0, 1, 5, 10, 11] (h := ?_)
    refine AX.skip ?_
    try simp only [zn1,zn2,zn3,zn4,zn5,zn6,zn7,zn8,if_true]
    refine AX.seq ?_
    refine AX.block ?_
    refine AX.sregAV [0, 1, 5, 6, 10, 11] (hq := ?_)
    refine AX.sregAV [0, 1, 5, 6, 7, 10, 11] (hq := ?_)
    refine AX.own0 7 3 1 rfl ?_
    refine AX.seq ?_
    refine AX.sregWV [0, 1, 5, 6, 7, 10, 11, 15, 16] (aI @hlF oT) oT (hq := ?_)
    refine AX.weaken id (st' := ⟨[(16, .i .i64 (0 : Nat)), (15, .i .i64 n), (11, .i .i64 i), (10, .i .i64 n), (7, .own 1 0 (pick 0 (F i)).length 1), (6, .i .i64 i), (5, .own 0 0 L.length 1), (1, .sl rw'), (0, .sl Fw)], [(1, ⟨3, il (pick 0 (F i))⟩), (0, ⟨58, sll L⟩)], 2⟩)
      leQ9
      ?_
    refine AX.block ?_
    refine AX.loop (fun N st => ∃ (k : Nat) (s : List Nat), k ≤ n ∧ N = n - k ∧ pick k (F i) = s ∧ okN F r i k = true ∧ st = ⟨[(16, .i .i64 k), (15, .i .i64 n), (11, .i .i64 i), (10, .i .i64 n), (7, .own 1 0 s.length 1), (6, .i .i64 i), (5, .own 0 0 L.length 1), (1, .sl rw'), (0, .sl Fw)], [(1, ⟨3, il s⟩), (0, ⟨58, sll L⟩)], 2⟩) n ⟨0, _, Nat.zero_le _, rfl, rfl, rfl, rfl⟩ ?_
    rintro N st ⟨k, s, hk, rfl, hs, hok, rfl⟩
    have hsl := il_length s
    have hsb : s.length ≤ 60 := by
      have := pick_le k (F i)
      rw [hs] at this
      omega
    by_cases h2 : k < n
    · have hb := bl_get (F i) h2
      have hbl := bl_length n (F i)
      have hgk := hgF k h2
      have hbk := bl_get (F k) h1
      have hbkl := bl_length n (F k)
      have hrk := hgr k h2
      have hps := pick_succ k (F i)
      have hoks : okN F r i (k + 1) = (okN F r i k && (!F i k || (F k i && !r k && decide (i ≤ k)))) := rfl
      have hnok := okN_false (F := F) (r := r) (i := i) h2
      rw [hs] at hps
      rw [hok] at hoks
      clear hgF hgr
      generalize bl n (F i) = Bi at *
      generalize bl n (F k) = Bk at *
      refine AX.sregAV [0, 1, 5, 6, 7, 10, 11, 15, 16, 17] (hq := ?_)
      refine AX.seq ?_
      refine AX.condT (h := ?_)
      refine AX.keepA [0, 1, 5, 6, 7, 10, 11, 15, 16] (h := ?_)
      refine AX.skip ?_
      try simp only [zn1,zn2,zn3,zn4,zn5,zn6,zn7,zn8,if_true]
      refine AX.seq ?_
      refine AX.block ?_
      refine AX.sregAV [0, 1, 5, 6, 7, 8, 10, 11, 15, 16] (hq := ?_)
      refine AX.seq ?_
      cases hf : F i k
      · rw [hf] at hb hps hoks
        rw [if_neg Bool.false_ne_true] at hps
        have hoks : okN F r i (k + 1) = true := hoks
        refine AX.sregWV [0, 1, 5, 6, 7, 8, 10, 11, 15, 16, 26] (aI @hlF (aI @hgi (aI @hbl (aI @hb oT)))) oT (hq := ?_)
        refine AX.condT (h := ?_)
        refine AX.exit ?_
        try simp only [zn1,zn2,zn3,zn4,zn5,zn6,zn7,zn8,if_true]
        refine AX.regWV [0, 1, 5, 6, 7, 10, 11, 15, 16] (aI @lit_add oT) oT (hq := ?_)
        try simp only [zn1,zn2,zn3,zn4,zn5,zn6,zn7,zn8,if_true]
        refine ⟨_, _, id, ?_,
          leQ9
          , ⟨k + 1, s, by omega, rfl, hps, hoks, rfl⟩⟩
        omega
      · rw [hf] at hb hps hoks
        rw [if_pos rfl] at hps
        have hnok := hnok hf
        refine AX.sregWV [0, 1, 5, 6, 7, 8, 10, 11, 15, 16, 26] (aI @hlF (aI @hgi (aI @hbl (aI @hb oT)))) oT (hq := ?_)
        refine AX.condF (h := ?_)
        refine AX.keepA [0, 1, 5, 6, 7, 8, 10, 11, 15, 16] (h := ?_)
        refine AX.skip ?_
        try simp only [zn1,zn2,zn3,zn4,zn5,zn6,zn7,zn8,if_true]
        refine AX.seq ?_
        by_cases hgood : F k i = true ∧ r k = false ∧ i ≤ k
        · obtain ⟨g1, g2, g3⟩ := hgood
          rw [g1] at hbk
          rw [g2] at hrk
          have hoks : okN F r i (k + 1) = true := by rw [hoks, g1, g2, decide_eq_true g3]; rfl
          have happ := il_app s k
          have hlen : (s ++ [k]).length = s.length + 1 := by simp
          generalize s ++ [k] = s2 at *
          refine AX.sregWV [0, 1, 5, 6, 7, 8, 10, 11, 15, 16, 45] (aI @hlF (aI @hgk (aI @hbkl (aI @hbk (aI @hlr (aI @hrk oT)))))) oT (hq := ?_)
          refine AX.condF (h := ?_)
          refine AX.keepA [0, 1, 5, 6, 7, 8, 10, 11, 15, 16] (h := ?_)
          refine AX.skip ?_
          try simp only [zn1,zn2,zn3,zn4,zn5,zn6,zn7,zn8,if_true]
          refine AX.regWV [0, 1, 5, 6, 7, 10, 11, 15, 16] (aI @hsl (aI @zerosV_1 (aI @tkS (aI @tk0 oT)))) oT (hq := ?_)
          try simp only [zn1,zn2,zn3,zn4,zn5,zn6,zn7,zn8,if_true]
          rw [happ]
          refine AX.regWV [0, 1, 5, 6, 7, 10, 11, 15, 16] (aI @lit_add oT) oT (hq := ?_)
          try simp only [zn1,zn2,zn3,zn4,zn5,zn6,zn7,zn8,if_true]
          refine ⟨_, _, fun n => if n = 1 then 3 else n, ?_,
            (leQ9H hlen)
            , ⟨k + 1, s2, by omega, rfl, hps, hoks, rfl⟩⟩
          omega
        · have hnx := hno (hnok hgood)
          refine AX.cut (fun st => Le 0 id ⟨[(45, .b true), (11, .i .i64 i), (10, .i .i64 n), (5, .own 0 0 L.length 1), (1, .sl rw'), (0, .sl Fw)], [(0, ⟨58, sll L⟩)], 1⟩ st) ?_ ?_
          · cases g1 : F k i
            · rw [g1] at hbk
              refine AX.regWV [0, 1, 5, 10, 11, 45] (aI @hlF (aI @hgk (aI @hbkl (aI @hbk oT)))) oT (hq := ?_)
              exact ⟨by first | exact trivial | rfl,
                leQ9
                ⟩
            · rw [g1] at hbk
              cases g2 : r k
              · rw [g2] at hrk
                have g3 : k < i := by
                  apply Classical.byContradiction
                  intro h
                  exact hgood ⟨g1, g2, by omega⟩
                refine AX.regWV [0, 1, 5, 10, 11, 45] (aI @hlF (aI @hgk (aI @hbkl (aI @hbk (aI @hlr (aI @hrk oT)))))) oT (hq := ?_)
                exact ⟨by first | exact trivial | rfl,
                  leQ9
                  ⟩
              · rw [g2] at hrk
                refine AX.regWV [0, 1, 5, 10, 11, 45] (aI @hlF (aI @hgk (aI @hbkl (aI @hbk (aI @hlr (aI @hrk oT)))))) oT (hq := ?_)
                exact ⟨by first | exact trivial | rfl,
                  leQ9
                  ⟩
          rintro st hle
          refine AX.weaken id hle ?_
          refine AX.condT (h := ?_)
          refine AX.exit ?_
          try simp only [zn1,zn2,zn3,zn4,zn5,zn6,zn7,zn8,if_true]
          refine AX.regWV [0, 1, 5, 10, 11] (aI @lit_add oT) oT (hq := ?_)
          try simp only [zn1,zn2,zn3,zn4,zn5,zn6,zn7,zn8,if_true]
          refine ⟨_, _, id, ?_,
            leQ9
            , ⟨i + 1, L, by omega, rfl, hnx, rfl⟩⟩
          omega
    · have e : k = n := by omega
      subst e
      have hnx := hyes hok
      rw [hs] at hnx
      have hfz := sll_fz (h := 1) L s
      have hlen : (L ++ [s]).length = L.length + 1 := by simp
      have hsllL := sll_length L
      have hsl2 : (sll (L ++ [s])).length = (sll L ++ [V.own 1 0 s.length 1]).length := by rw [sll_length, hlen, List.length_append, sll_length]; rfl
      clear hgF hgr hno hyes hok
      refine AX.sregAV [0, 1, 5, 6, 7, 10, 11, 15, 16, 17] (hq := ?_)
      refine AX.seq ?_
      refine AX.condF (h := ?_)
      refine AX.exit ?_
      try simp only [zn1,zn2,zn3,zn4,zn5,zn6,zn7,zn8,if_true]
      refine AX.regWV [0, 1, 5, 10, 11] (aI @hsllL (aI @zerosV_1 (aI @tkS (aI @tk0 oT)))) oT (hq := ?_)
      try simp only [zn1,zn2,zn3,zn4,zn5,zn6,zn7,zn8,if_true]
      refine AX.fz 1 (fr' := [(11, .i .i64 i), (10, .i .i64 k), (5, .own 3 0 (L.length + 1) 1), (1, .sl rw'), (0, .sl Fw)]) (hp' := [(3, ⟨58, sll (L ++ [s])⟩)]) rfl (il_hf s).1 (.cons rfl .same (.cons rfl .same (.cons rfl .same (.cons rfl .same (.cons rfl .same .nil))))) (.cons (by decide) rfl rfl hsl2 hfz .nil) ?_
      clear hfz hsl2
      generalize L ++ [s] = L2 at *
      refine AX.regWV [0, 1, 5, 10, 11] (aI @lit_add oT) oT (hq := ?_)
      try simp only [zn1,zn2,zn3,zn4,zn5,zn6,zn7,zn8,if_true]
      refine ⟨_, _, fun n => if n = 0 then 3 else n, ?_,
        (leQ9H hlen)
        , ⟨i + 1, L2, by omega, rfl, hnx, rfl⟩⟩
      omega
  · have e : i = n := by omega
    subst e
    rw [hL]
    refine AX.sregAV [0, 1, 5, 10, 11, 12] (hq := ?_)
    refine AX.seq ?_
    refine AX.condF (h := ?_)
    refine AX.exit ?_
    try simp only [zn1,zn2,zn3,zn4,zn5,zn6,zn7,zn8,if_true]
    refine AX.sregAV [4] (hq := ?_)
    refine AX.ret (And.intro (Or.inl rfl) ?_)
    exact Done.slS rfl rfl rfl
/-- The closed classes. -/
noncomputable def closedL (n m : Nat) (A B : Mx) : List (List Nat) := shutL n (toB n A) (rchB n m A B) n
set_option maxHeartbeats 4000000 in
theorem cclosed_ok (n m L : Nat) (hn : n ≤ 60) (hm : m ≤ 60) (A B : Mx) (hC : isC n m A B = true) (hA : ∀ i k, i < n → k < n → rL (A i k) ≤ L) (hB : ∀ i k, i < n → k < m → rL (B i k) ≤ L) (hL1 : 1 ≤ L) (hL : 120 * (L + 1) + 1 < 2 ^ 34) : PCall Tryz.prog 49 [cV n m A B] (.sl (sll (closedL n m A B))) [] := by
  have hr := cright_ok n m L hn hm A B hA hB hL1 hL
  rw [hC] at hr
  have c1 := cways_ok n hn A (isC_ok hC).M0
  have c2 := reaches_ok n m L hn hm A B hC
  have c3 := cshut_ok n hn (toB n A) (rchB n m A B)
  unfold closedL
  generalize sll (shutL n (toB n A) (rchB n m A B) n) = R at *
  generalize bll n (toB n A) = Tw at *
  generalize bl n (rchB n m A B) = Rw at *
  unfold cV at *
  generalize (mcells n A (n * n)).map rV = Ac at *
  generalize (mcells m B (n * m)).map rV = Bc at *
  refine PCall.of_ax Tryz.call49 Tryz.func49 rfl (by simp [Tryz.ntmps49]) fun O w => ?_
  simp only [Tryz.ntmps49, Tryz.results49, argFr]
  refine AX.sregAV [1] (hq := ?_)
  refine AX.seq ?_
  refine AX.sregCV [1, 5] (aI hr oT) (hq := ?_)
  refine AX.condF (h := ?_)
  refine AX.keepA [1] (h := ?_)
  refine AX.skip ?_
  try simp only [zn1,zn2,zn3,zn4,zn5,zn6,zn7,zn8,if_true]
  refine AX.sdregCV [2] (aI c1 (aI c2 (aI c3 oT))) (hq := ?_)
  refine AX.ret (And.intro (Or.inl rfl) ?_)
  exact dnQ9
end Go.Proofs.YtepkjfnffbdcoaaGreat
