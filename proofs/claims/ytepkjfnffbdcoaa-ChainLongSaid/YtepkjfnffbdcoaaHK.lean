/- Elimination, step by step: weight, pivot, swap, clear. -/
import Derived.Test.YtepkjfnffbdcoaaMatB
import Derived.Test.YtepkjfnffbdcoaaGaM
import Derived.Test.YtepkjfnffbdcoaaNatV3
set_option linter.unusedVariables false
set_option maxRecDepth 20000
set_option linter.unusedSimpArgs false
namespace Go.Proofs.Ytepkjfnffbdcoaa
open Go Go.Proofs.Ytepkjfnffbdcoaa.Lift
attribute [local irreducible] Lift.PCall Lift.HCall

def wq (q : Rat) : Nat := blen q.num.natAbs + blen q.den
theorem wq_lt {q : Rat} {L : Nat} (h : rL q ≤ L) : wq q ≤ 64 * L := by
  have h1 : (digits q.num.natAbs).length ≤ rL q := Nat.le_max_left _ _
  have h2 : (digits q.den).length ≤ rL q := Nat.le_max_right _ _
  have h3 := blen_digits_le q.num.natAbs
  have h4 := blen_digits_le q.den
  unfold wq
  omega
set_option maxHeartbeats 2000000 in
theorem weight_ok (q : Rat) (h : rL q < 2 ^ 36) : PCall Try.prog 97 [rV q] (.i .i64 (wq q : Nat)) [] := by
  refine PCall.of_ax Try.call97 Try.func97 rfl (by simp [Try.ntmps97]) fun O w => ?_
  simp only [Try.ntmps97, Try.results97, argFr]
  have h1 : (digits q.num.natAbs).length ≤ rL q := Nat.le_max_left _ _
  have h2 : (digits q.den).length ≤ rL q := Nat.le_max_right _ _
  have c1 := bits_n q.num.natAbs (by omega)
  have c2 := bits_n q.den (by omega)
  have b1 := blen_digits_le q.num.natAbs
  have b2 := blen_digits_le q.den
  have hg : rV q = .agg [.b (decide (q.num < 0)), nv q.num.natAbs, nv q.den] := rfl
  unfold wq
  rw [hg]
  generalize q.num.natAbs = N at *
  generalize q.den = D at *
  generalize decide (q.num < 0) = s at *
  generalize blen N = x at *
  generalize blen D = y at *
  have e : (x : Int) + (y : Int) = ((x + y : Nat) : Int) := (Int.natCast_add x y).symm
  refine AX.sregAV [1] (hq := ?_)
  refine AX.sdregWV [2] (And.intro @e True.intro) (And.intro c1 (And.intro c2 True.intro)) (hq := ?_)
  refine AX.ret (And.intro (Or.inl rfl) ?_)
  exact Done.one rfl rfl rfl rfl

def updM (A : Mx) (i k : Nat) (q : Rat) : Mx := fun i' k' => if i' = i ∧ k' = k then q else A i' k'
theorem mcells_set {c r i k : Nat} (A : Mx) (q : Rat) (hi : i < r) (hk : k < c) : (mcells c A (r * c)).set (i * c + k) q = mcells c (updM A i k q) (r * c) := by
  apply List.ext_getElem?
  intro j
  have hc : 0 < c := by omega
  rw [List.getElem?_set]
  unfold mcells
  simp only [List.length_map, List.length_range]
  by_cases hj : j < r * c
  · simp only [List.getElem?_map, List.getElem?_range hj, Option.map_some]
    by_cases e : i * c + k = j
    · subst e
      have h1 : (i * c + k) / c = i := by
        rw [Nat.add_comm, Nat.add_mul_div_right _ _ (by omega), Nat.div_eq_of_lt hk, Nat.zero_add]
      have h2 : (i * c + k) % c = k := by
        rw [Nat.add_comm, Nat.add_mul_mod_self_right, Nat.mod_eq_of_lt hk]
      rw [if_pos rfl, if_pos hj, h1, h2]
      unfold updM
      rw [if_pos ⟨rfl, rfl⟩]
    · rw [if_neg e]
      unfold updM
      rw [if_neg]
      rintro ⟨h1, h2⟩
      apply e
      rw [← h1, ← h2]
      exact Nat.div_add_mod' j c
  · have h1 : (List.map (fun j => A (j / c) (j % c)) (List.range (r * c)))[j]? = none := List.getElem?_eq_none (by simp; omega)
    have h2 : (List.map (fun j => updM A i k q (j / c) (j % c)) (List.range (r * c)))[j]? = none := List.getElem?_eq_none (by simp; omega)
    rw [h1, h2]
    split
    · rename_i e
      have := (mcells_get (r := r) (c := c) A hi hk).1
      omega
    · rfl
theorem Lift.DoneG.row {st : St} {T : TypeId} {xs : List Rat} (h : lkp st.hp 0 = some ⟨T, qrow xs⟩) : DoneG Try.prog #[] (.tup []) [⟨T, qrow xs⟩] st := by
  refine ⟨[], rfl, rfl, rfl, rfl, fun n hn => ?_⟩
  obtain rfl : n = 0 := by simpa using hn
  exact ⟨h, lt_q _ _, ren_q _ _⟩
/-- What a walk needs of a cell of a row of its own. -/
theorem qget {w n i j : Nat} (B : Mx) (hi : i < n) (hj : j < w) {z : Nat} (hz : i * w + j = z) : (List.drop (z * 3) (qrow (mcells w B (n * w)))).take 3 = [.b (decide ((B i j).num < 0)), dg (digits (B i j).num.natAbs), dg (digits (B i j).den)] := by
  obtain ⟨h1, h2⟩ := mcells_get (r := n) (c := w) B hi hj
  subst hz
  rw [qrow_get (by rw [mcells_length]; exact h1), h2]
  rfl
theorem qset {w n i j : Nat} (B : Mx) (q : Rat) (hi : i < n) (hj : j < w) {z : Nat} (hz : i * w + j = z) :
    (((qrow (mcells w B (n * w))).set (z * 3) (.b (decide (q.num < 0)))).set (z * 3 + 1) (dg (digits q.num.natAbs))).set (z * 3 + 1 + 1) (dg (digits q.den)) = qrow (mcells w (updM B i j q) (n * w)) := by
  obtain ⟨h1, _⟩ := mcells_get (r := n) (c := w) B hi hj
  subst hz
  have := set_q (xs := mcells w B (n * w)) q (j := i * w + j) (by rw [mcells_length]; exact h1)
  rw [mcells_set B q hi hj] at this
  exact this
theorem qlen (w n : Nat) (B : Mx) : (qrow (mcells w B (n * w))).length = n * w * 3 := by rw [qrow_length, mcells_length]

set_option maxHeartbeats 8000000 in
theorem swap_ok (n w p r : Nat) (hn : n ≤ 200) (hw : w ≤ 200) (A : Mx) (hp : p < n) (hr : r < n) : GCall Try.prog 96 [.agg [.i .i64 n, .i .i64 w, .own 0 0 (n * w) 3], .i .i64 p, .i .i64 r] [⟨25, qrow (mcells w A (n * w))⟩] [⟨25, qrow (mcells w (swapM A p r) (n * w))⟩] (.tup []) := by
  refine GCall.of_ax rfl Try.call96 Try.func96 rfl (by simp [Try.ntmps96]) fun O M w0 G => ?_
  simp only [Try.ntmps96, Try.results96, argFr, rowsFr, List.length_cons, List.length_nil, Nat.zero_add, Nat.reduceAdd]
  refine AX.sregAV [1, 2, 3] (hq := ?_)
  refine AX.sregAV [1, 2, 3, 8, 9] (hq := ?_)
  refine AX.block ?_
  refine AX.loop (fun N st => ∃ (j : Nat) (B : Mx), j ≤ w ∧ N = w - j ∧ (∀ i' j', i' < n → j' < w → B i' j' = if j' < j then swapM A p r i' j' else A i' j') ∧ st = ⟨[(9, .i .i64 j), (8, .i .i64 w), (3, .ptr 1 0), (1, .i .i64 p), (2, .i .i64 r)], [(1, ⟨35, [.i .i64 n, .i .i64 w, .own 0 0 (n * w) 3]⟩), (0, ⟨25, qrow (mcells w B (n * w))⟩)], 2⟩) w ⟨0, A, Nat.zero_le _, rfl, fun _ _ _ _ => by rw [if_neg (Nat.not_lt_zero _)], rfl⟩ ?_
  rintro N st ⟨j, B, hj, rfl, hB, rfl⟩
  by_cases h1 : j < w
  · obtain ⟨z1, e1⟩ : ∃ z, p * w + j = z := ⟨_, rfl⟩
    obtain ⟨z2, e2⟩ : ∃ z, r * w + j = z := ⟨_, rfl⟩
    have l1 := (mcells_get (r := n) (c := w) B hp h1).1
    have l2 := (mcells_get (r := n) (c := w) B hr h1).1
    have g1 := qget B hp h1 e1
    have g2 := qget B hr h1 e2
    have s1 := qset B (B r j) hp h1 e1
    have s2 := qset (updM B p j (B r j)) (B p j) hr h1 e2
    have hl := qlen w n B
    have hl2 := qlen w n (updM B p j (B r j))
    have kb : n * w ≤ 200 * 200 := Nat.mul_le_mul hn hw
    have m1 : (p : Int) * (w : Int) = ((p * w : Nat) : Int) := (Int.natCast_mul p w).symm
    have m2 : (r : Int) * (w : Int) = ((r * w : Nat) : Int) := (Int.natCast_mul r w).symm
    have a1 : ((p * w : Nat) : Int) + (j : Int) = (z1 : Int) := by rw [← Int.natCast_add, e1]
    have a2 : ((r * w : Nat) : Int) + (j : Int) = (z2 : Int) := by rw [← Int.natCast_add, e2]
    have hfin : mcells w (updM (updM B p j (B r j)) r j (B p j)) (n * w) = mcells w (fun i' j' => if j' < j + 1 then swapM A p r i' j' else A i' j') (n * w) := by
      refine mcells_congr fun i' j' hi' hj' => ?_
      have b1 := hB r j hr h1
      have b2 := hB p j hp h1
      rw [if_neg (Nat.lt_irrefl _)] at b1 b2
      have b3 := hB i' j' hi' hj'
      unfold updM
      by_cases ej : j' = j
      · subst ej
        rw [if_pos (Nat.lt_succ_self _)]
        unfold swapM
        by_cases er : i' = r
        · subst er
          rw [if_pos ⟨rfl, rfl⟩, b2]
          by_cases ep : i' = p
          · subst ep; rw [if_pos rfl]
          · rw [if_neg ep, if_pos rfl]
        · rw [if_neg (fun h => er h.1)]
          by_cases ep : i' = p
          · subst ep
            rw [if_pos ⟨rfl, rfl⟩, if_pos rfl, b1]
          · rw [if_neg (fun h => ep h.1), if_neg ep, if_neg er, b3, if_neg (Nat.lt_irrefl _)]
      · rw [if_neg (fun h => ej h.2), if_neg (fun h => ej h.2), b3]
        by_cases hlt : j' < j
        · rw [if_pos hlt, if_pos (by omega)]
        · rw [if_neg hlt, if_neg (by omega)]
    rw [hfin] at s2
    have l1' : z1 < n * w := by omega
    have l2' : z2 < n * w := by omega
    have xb1 : p * w ≤ n * w := Nat.mul_le_mul_right _ (by omega)
    have xb2 : r * w ≤ n * w := Nat.mul_le_mul_right _ (by omega)
    clear hB hfin l1 l2
    generalize p * w = x1 at *
    generalize r * w = x2 at *
    obtain ⟨F, hF⟩ : ∃ F, mcells w (fun i' j' => if j' < j + 1 then swapM A p r i' j' else A i' j') (n * w) = F := ⟨_, rfl⟩
    rw [hF] at s2
    generalize mcells w (updM B p j (B r j)) (n * w) = F1 at *
    generalize mcells w B (n * w) = F0 at *
    generalize B r j = q1 at *
    generalize B p j = q2 at *
    generalize n * w = K at *
    refine AX.sregAV [1, 2, 3, 8, 9, 10] (hq := ?_)
    refine AX.seq ?_
    refine AX.condT (h := ?_)
    refine AX.keepA [1, 2, 3, 8, 9] (h := ?_)
    refine AX.skip ?_
    try simp only [thenS_normal, thenS_ret, thenS_exit, blockS_normal, blockS_ret, blockS_exit, backS_ret, backS_exit, if_true]
    refine AX.seq ?_
    refine AX.block ?_
    refine AX.sregAV [1, 2, 3, 6, 8, 9] (hq := ?_)
    refine AX.dregWV [1, 2, 3, 8, 9] (And.intro @m1 (And.intro @m2 (And.intro @a1 (And.intro @a2 (And.intro @hl (And.intro @hl2 (And.intro @g1 (And.intro @g2 (And.intro @s1 (And.intro @s2 True.intro)))))))))) True.intro (hq := ?_)
    try simp only [thenS_normal, thenS_ret, thenS_exit, blockS_normal, blockS_ret, blockS_exit, backS_ret, backS_exit, if_true]
    refine AX.regWV [1, 2, 3, 8, 9] (And.intro @lit_add True.intro) True.intro (hq := ?_)
    try simp only [thenS_normal, thenS_ret, thenS_exit, blockS_normal, blockS_ret, blockS_exit, backS_ret, backS_exit, if_true]
    subst hF
    refine ⟨_, _, id, ?_,
      ⟨by simp only [ren_q, renL_u, lt_q, ltL_u, LeFr, LeHp, lkp, V.ren, V.renL, Row.ren, V.lt, V.ltL, renL_u, ltL_u, List.length_append, List.length_cons, List.length_nil, List.length_set, id_eq, Option.some.injEq, V.i.injEq, V.b.injEq, V.own.injEq, Row.mk.injEq, decide_true, decide_eq_true_eq, true_and, and_true, Bool.and_true, Bool.true_and, if_true, if_false, and_self, Nat.reduceLT, Nat.reduceLeDiff, Nat.reduceEqDiff, Nat.reduceAdd, Nat.reduceSub, Nat.reduceMul, Nat.reducePow, Nat.reduceBEq, Int.reduceLE, Int.reduceLT, Int.reduceToNat, Int.reduceEq, Int.reduceNeg, reduceIte, reduceCtorEq] <;> (first | done | trivial | (and_intros <;> first | trivial | omega | assumption)), by simp only [ren_q, renL_u, lt_q, ltL_u, LeFr, LeHp, lkp, V.ren, V.renL, Row.ren, V.lt, V.ltL, renL_u, ltL_u, List.length_append, List.length_cons, List.length_nil, List.length_set, id_eq, Option.some.injEq, V.i.injEq, V.b.injEq, V.own.injEq, Row.mk.injEq, decide_true, decide_eq_true_eq, true_and, and_true, Bool.and_true, Bool.true_and, if_true, if_false, and_self, Nat.reduceLT, Nat.reduceLeDiff, Nat.reduceEqDiff, Nat.reduceAdd, Nat.reduceSub, Nat.reduceMul, Nat.reducePow, Nat.reduceBEq, Int.reduceLE, Int.reduceLT, Int.reduceToNat, Int.reduceEq, Int.reduceNeg, reduceIte, reduceCtorEq] <;> (first | done | trivial | (and_intros <;> first | trivial | omega | assumption)), by simp [Apart], by first | exact Nat.zero_le _ | simp, by intro n hn; first | rfl | exact absurd hn (Nat.not_lt_zero _) | (have h0 : n = 0 := Nat.lt_one_iff.1 hn; subst h0; rfl)⟩
      , ⟨j + 1, fun i' j' => if j' < j + 1 then swapM A p r i' j' else A i' j', by omega, rfl, fun _ _ _ _ => rfl, rfl⟩⟩
    omega
  · refine AX.sregAV [1, 2, 3, 8, 9, 10] (hq := ?_)
    refine AX.seq ?_
    refine AX.condF (h := ?_)
    refine AX.exit ?_
    try simp only [thenS_normal, thenS_ret, thenS_exit, blockS_normal, blockS_ret, blockS_exit, backS_ret, backS_exit, if_true]
    refine ⟨.inr (by simp), ?_⟩
    have e : mcells w B (n * w) = mcells w (swapM A p r) (n * w) := mcells_congr fun i' j' hi' hj' => by
      rw [hB i' j' hi' hj', if_pos (by omega)]
    rw [e]
    exact DoneG.row rfl

/-- The row that clear takes another one from. -/
theorem clear_step {A B : Mx} {fm to : Nat} {f : Rat} {j : Nat} (hne : fm ≠ to) (hB : ∀ i' j', B i' j' = if i' = to ∧ j' < j then A to j' - f * A fm j' else A i' j') : ∀ i' j', updM B to j (B to j - f * B fm j) i' j' = if i' = to ∧ j' < j + 1 then A to j' - f * A fm j' else A i' j' := by
  intro i' j'
  unfold updM
  have b1 := hB to j
  have b2 := hB fm j
  rw [if_neg (fun h => Nat.lt_irrefl _ h.2)] at b1
  rw [if_neg (fun h => hne h.1)] at b2
  by_cases e : i' = to ∧ j' = j
  · rw [if_pos e, if_pos ⟨e.1, by omega⟩, b1, b2, e.2]
  · rw [if_neg e, hB]
    by_cases h : i' = to ∧ j' < j
    · rw [if_pos h, if_pos ⟨h.1, by omega⟩]
    · rw [if_neg h, if_neg (fun h2 => h ⟨h2.1, by have : j' ≠ j := fun e2 => e ⟨h2.1, e2⟩; omega⟩)]

set_option maxHeartbeats 16000000 in
theorem clear_ok (n w fm to col L : Nat) (hn : n ≤ 200) (hw : w ≤ 200) (A : Mx) (hf : fm < n) (ht : to < n) (hc : col < w) (hne : fm ≠ to) (h0 : A fm col ≠ 0) (hL : ∀ i j, i < n → j < w → rL (A i j) ≤ L) (hL1 : 1 ≤ L) (hL2 : 4 * L < 2 ^ 33) :
    GCall Try.prog 92 [.agg [.i .i64 n, .i .i64 w, .own 0 0 (n * w) 3], .i .i64 fm, .i .i64 to, .i .i64 col] [⟨25, qrow (mcells w A (n * w))⟩] [⟨25, qrow (mcells w (clearM A fm to (A to col / A fm col)) (n * w))⟩] (.tup []) := by
  refine GCall.of_ax rfl Try.call92 Try.func92 rfl (by simp [Try.ntmps92]) fun O M w0 G => ?_
  simp only [Try.ntmps92, Try.results92, argFr, rowsFr, List.length_cons, List.length_nil, Nat.zero_add, Nat.reduceAdd]
  have kb : n * w ≤ 200 * 200 := Nat.mul_le_mul hn hw
  have m1 : (fm : Int) * (w : Int) = ((fm * w : Nat) : Int) := (Int.natCast_mul fm w).symm
  have m2 : (to : Int) * (w : Int) = ((to * w : Nat) : Int) := (Int.natCast_mul to w).symm
  have xb1 : fm * w ≤ n * w := Nat.mul_le_mul_right _ (by omega)
  have xb2 : to * w ≤ n * w := Nat.mul_le_mul_right _ (by omega)
  obtain ⟨z1, e1⟩ : ∃ z, fm * w + col = z := ⟨_, rfl⟩
  obtain ⟨z2, e2⟩ : ∃ z, to * w + col = z := ⟨_, rfl⟩
  have l1 := (mcells_get (r := n) (c := w) A hf hc).1
  have l2 := (mcells_get (r := n) (c := w) A ht hc).1
  have g1 := qget A hf hc e1
  have g2 := qget A ht hc e2
  have hl := qlen w n A
  have a1 : ((fm * w : Nat) : Int) + (col : Int) = (z1 : Int) := by rw [← Int.natCast_add, e1]
  have a2 : ((to * w : Nat) : Int) + (col : Int) = (z2 : Int) := by rw [← Int.natCast_add, e2]
  have hLt := hL to col ht hc
  have hLf := hL fm col hf hc
  have cd := qdiv_ok (IsQ.of hLt) (IsQ.of hLf) (by omega)
  unfold qdivV at cd
  rw [if_neg h0] at cd
  have lf := rL_div (A to col) (A fm col) hLt hLf (by omega)
  have cd' : PCall Try.prog 94 [.agg [.b (decide ((A to col).num < 0)), dg (digits (A to col).num.natAbs), dg (digits (A to col).den)], .agg [.b (decide ((A fm col).num < 0)), dg (digits (A fm col).num.natAbs), dg (digits (A fm col).den)]]
      (.tup [.agg [.b (decide ((A to col / A fm col).num < 0)), dg (digits (A to col / A fm col).num.natAbs), dg (digits (A to col / A fm col).den)], .i .i64 0]) [] := cd
  clear cd
  rw [e1] at l1
  rw [e2] at l2
  have zf : (digits (A to col / A fm col).num.natAbs).length = 0 ↔ A to col / A fm col = 0 := by
    rw [digits_len_zero, Int.natAbs_eq_zero, Rat.num_eq_zero]
  generalize A to col / A fm col = f at *
  clear hLt hLf
  generalize A to col = q2 at g2 cd'
  generalize A fm col = q1 at g1 cd'
  refine AX.sregAV [1, 2, 3, 4] (hq := ?_)
  refine AX.sdregWV [1, 2, 4, 8] (And.intro @m1 (And.intro @m2 (And.intro @a1 (And.intro @a2 (And.intro @hl (And.intro @g1 (And.intro @g2 True.intro))))))) (And.intro cd' True.intro) (hq := ?_)
  by_cases hz : f = 0
  · have hz' := zf.2 hz
    have e : mcells w (clearM A fm to f) (n * w) = mcells w A (n * w) := mcells_congr fun i' j' _ _ => by
      unfold clearM
      split
      · rename_i e; rw [e, hz]; grind
      · rfl
    rw [e]
    refine AX.seq ?_
    refine AX.sregWV [1, 2, 4, 8, 39] (And.intro @hz' True.intro) True.intro (hq := ?_)
    refine AX.condT (h := ?_)
    refine AX.ret ⟨.inl rfl, ?_⟩
    exact DoneG.row rfl
  have hz' : (digits f.num.natAbs).length ≠ 0 := fun e => hz (zf.1 e)
  refine AX.seq ?_
  refine AX.sregAV [1, 2, 4, 8, 39] (hq := ?_)
  refine AX.condF (h := ?_)
  refine AX.keepA [1, 2, 4, 8] (h := ?_)
  refine AX.skip ?_
  try simp only [thenS_normal, thenS_ret, thenS_exit, blockS_normal, blockS_ret, blockS_exit, backS_ret, backS_exit, if_true]
  refine AX.sregAV [1, 2, 4, 8, 41, 42] (hq := ?_)
  clear hz' g1 g2 cd' l1 l2 e1 e2 a1 a2 hl
  refine AX.weaken id (st' := ⟨[(42, .i .i64 0), (41, .i .i64 w), (8, .ptr 2 0), (4, .ptr 1 0), (2, .i .i64 to), (1, .i .i64 fm)], [(2, ⟨25, [.b (decide (f.num < 0)), dg (digits f.num.natAbs), dg (digits f.den)]⟩), (1, ⟨35, [.i .i64 n, .i .i64 w, .own 0 0 (n * w) 3]⟩), (0, ⟨25, qrow (mcells w A (n * w))⟩)], 3⟩)
    ⟨by simp only [ren_q, renL_u, lt_q, ltL_u, LeFr, LeHp, lkp, V.ren, V.renL, Row.ren, V.lt, V.ltL, renL_u, ltL_u, List.length_append, List.length_cons, List.length_nil, List.length_set, id_eq, Option.some.injEq, V.i.injEq, V.b.injEq, V.own.injEq, Row.mk.injEq, decide_true, decide_eq_true_eq, true_and, and_true, Bool.and_true, Bool.true_and, if_true, if_false, and_self, Nat.reduceLT, Nat.reduceLeDiff, Nat.reduceEqDiff, Nat.reduceAdd, Nat.reduceSub, Nat.reduceMul, Nat.reducePow, Nat.reduceBEq, Int.reduceLE, Int.reduceLT, Int.reduceToNat, Int.reduceEq, Int.reduceNeg, reduceIte, reduceCtorEq] <;> (first | done | trivial | (and_intros <;> first | trivial | omega | assumption)), by simp only [ren_q, renL_u, lt_q, ltL_u, LeFr, LeHp, lkp, V.ren, V.renL, Row.ren, V.lt, V.ltL, renL_u, ltL_u, List.length_append, List.length_cons, List.length_nil, List.length_set, id_eq, Option.some.injEq, V.i.injEq, V.b.injEq, V.own.injEq, Row.mk.injEq, decide_true, decide_eq_true_eq, true_and, and_true, Bool.and_true, Bool.true_and, if_true, if_false, and_self, Nat.reduceLT, Nat.reduceLeDiff, Nat.reduceEqDiff, Nat.reduceAdd, Nat.reduceSub, Nat.reduceMul, Nat.reducePow, Nat.reduceBEq, Int.reduceLE, Int.reduceLT, Int.reduceToNat, Int.reduceEq, Int.reduceNeg, reduceIte, reduceCtorEq] <;> (first | done | trivial | (and_intros <;> first | trivial | omega | assumption)), by simp [Apart], by first | exact Nat.zero_le _ | simp, by intro n hn; first | rfl | exact absurd hn (Nat.not_lt_zero _) | (have h0 : n = 0 := Nat.lt_one_iff.1 hn; subst h0; rfl)⟩
    ?_
  refine AX.block ?_
  refine AX.loop (fun N st => ∃ (j : Nat) (B : Mx), j ≤ w ∧ N = w - j ∧ (∀ i' j', B i' j' = if i' = to ∧ j' < j then A to j' - f * A fm j' else A i' j') ∧ st = ⟨[(42, .i .i64 j), (41, .i .i64 w), (8, .ptr 2 0), (4, .ptr 1 0), (2, .i .i64 to), (1, .i .i64 fm)], [(2, ⟨25, [.b (decide (f.num < 0)), dg (digits f.num.natAbs), dg (digits f.den)]⟩), (1, ⟨35, [.i .i64 n, .i .i64 w, .own 0 0 (n * w) 3]⟩), (0, ⟨25, qrow (mcells w B (n * w))⟩)], 3⟩) w ⟨0, A, Nat.zero_le _, rfl, fun _ _ => by rw [if_neg (fun h => Nat.not_lt_zero _ h.2)], rfl⟩ ?_
  rintro N st ⟨j, B, hj, rfl, hB, rfl⟩
  by_cases h1 : j < w
  · have hstep := clear_step hne hB
    have b1 := hB to j
    have b2 := hB fm j
    rw [if_neg (fun h => Nat.lt_irrefl _ h.2)] at b1
    rw [if_neg (fun h => hne h.1)] at b2
    have hLt := hL to j ht h1
    have hLf := hL fm j hf h1
    rw [← b1] at hLt
    rw [← b2] at hLf
    obtain ⟨z1, e1⟩ : ∃ z, fm * w + j = z := ⟨_, rfl⟩
    obtain ⟨z2, e2⟩ : ∃ z, to * w + j = z := ⟨_, rfl⟩
    have l1 := (mcells_get (r := n) (c := w) B hf h1).1
    have l2 := (mcells_get (r := n) (c := w) B ht h1).1
    have g1 := qget B hf h1 e1
    have g2 := qget B ht h1 e2
    have hl := qlen w n B
    have s1 := qset B (B to j - f * B fm j) ht h1 e2
    have a1 : ((fm * w : Nat) : Int) + (j : Int) = (z1 : Int) := by rw [← Int.natCast_add, e1]
    have a2 : ((to * w : Nat) : Int) + (j : Int) = (z2 : Int) := by rw [← Int.natCast_add, e2]
    rw [e1] at l1
    rw [e2] at l2
    clear b1 b2 hB
    obtain ⟨B', hB'⟩ : ∃ B', updM B to j (B to j - f * B fm j) = B' := ⟨_, rfl⟩
    rw [hB'] at s1 hstep
    by_cases hx : B fm j = 0
    · have hx' : (digits (B fm j).num.natAbs).length = 0 := by rw [digits_len_zero, Int.natAbs_eq_zero, Rat.num_eq_zero]; exact hx
      have e : mcells w B (n * w) = mcells w B' (n * w) := mcells_congr fun i' j' _ _ => by
        rw [← hB']
        unfold updM
        split
        · rename_i e; rw [e.1, e.2, hx]; grind
        · rfl
      rw [e]
      rw [e] at g1 g2 hl
      clear e s1 hB' hx
      generalize B fm j = q1 at *
      generalize fm * w = x1 at *
      generalize to * w = x2 at *
      refine AX.sregAV [1, 2, 4, 8, 41, 42, 43] (hq := ?_)
      refine AX.seq ?_
      refine AX.condT (h := ?_)
      refine AX.keepA [1, 2, 4, 8, 41, 42] (h := ?_)
      refine AX.skip ?_
      try simp only [thenS_normal, thenS_ret, thenS_exit, blockS_normal, blockS_ret, blockS_exit, backS_ret, backS_exit, if_true]
      refine AX.seq ?_
      refine AX.block ?_
      refine AX.sregAV [1, 2, 4, 8, 10, 41, 42] (hq := ?_)
      refine AX.sregWV [1, 2, 4, 8, 10, 11, 41, 42] (And.intro @m1 (And.intro @a1 (And.intro @hl (And.intro @g1 True.intro)))) True.intro (hq := ?_)
      refine AX.sregWV [1, 2, 4, 8, 10, 11, 41, 42, 58] (And.intro @hx' True.intro) True.intro (hq := ?_)
      refine AX.condF (h := ?_)
      refine AX.keepA [1, 2, 4, 8, 41, 42] (h := ?_)
      refine AX.skip ?_
      try simp only [thenS_normal, thenS_ret, thenS_exit, blockS_normal, blockS_ret, blockS_exit, backS_ret, backS_exit, if_true]
      refine AX.regWV [1, 2, 4, 8, 41, 42] (And.intro @lit_add True.intro) True.intro (hq := ?_)
      try simp only [thenS_normal, thenS_ret, thenS_exit, blockS_normal, blockS_ret, blockS_exit, backS_ret, backS_exit, if_true]
      refine ⟨_, _, id, ?_,
        ⟨by simp only [ren_q, renL_u, lt_q, ltL_u, LeFr, LeHp, lkp, V.ren, V.renL, Row.ren, V.lt, V.ltL, renL_u, ltL_u, List.length_append, List.length_cons, List.length_nil, List.length_set, id_eq, Option.some.injEq, V.i.injEq, V.b.injEq, V.own.injEq, Row.mk.injEq, decide_true, decide_eq_true_eq, true_and, and_true, Bool.and_true, Bool.true_and, if_true, if_false, and_self, Nat.reduceLT, Nat.reduceLeDiff, Nat.reduceEqDiff, Nat.reduceAdd, Nat.reduceSub, Nat.reduceMul, Nat.reducePow, Nat.reduceBEq, Int.reduceLE, Int.reduceLT, Int.reduceToNat, Int.reduceEq, Int.reduceNeg, reduceIte, reduceCtorEq] <;> (first | done | trivial | (and_intros <;> first | trivial | omega | assumption)), by simp only [ren_q, renL_u, lt_q, ltL_u, LeFr, LeHp, lkp, V.ren, V.renL, Row.ren, V.lt, V.ltL, renL_u, ltL_u, List.length_append, List.length_cons, List.length_nil, List.length_set, id_eq, Option.some.injEq, V.i.injEq, V.b.injEq, V.own.injEq, Row.mk.injEq, decide_true, decide_eq_true_eq, true_and, and_true, Bool.and_true, Bool.true_and, if_true, if_false, and_self, Nat.reduceLT, Nat.reduceLeDiff, Nat.reduceEqDiff, Nat.reduceAdd, Nat.reduceSub, Nat.reduceMul, Nat.reducePow, Nat.reduceBEq, Int.reduceLE, Int.reduceLT, Int.reduceToNat, Int.reduceEq, Int.reduceNeg, reduceIte, reduceCtorEq] <;> (first | done | trivial | (and_intros <;> first | trivial | omega | assumption)), by simp [Apart], by first | exact Nat.zero_le _ | simp, by intro n hn; first | rfl | exact absurd hn (Nat.not_lt_zero _) | (have h0 : n = 0 := Nat.lt_one_iff.1 hn; subst h0; rfl)⟩
        , ⟨j + 1, B', by omega, rfl, hstep, rfl⟩⟩
      omega
    · have hx' : 0 < (digits (B fm j).num.natAbs).length := Nat.pos_of_ne_zero fun e => hx (by rwa [digits_len_zero, Int.natAbs_eq_zero, Rat.num_eq_zero] at e)
      have lm := rL_mul f (B fm j) lf hLf (by omega)
      have cm : PCall Try.prog 45 [.agg [.b (decide (f.num < 0)), dg (digits f.num.natAbs), dg (digits f.den)], .agg [.b (decide ((B fm j).num < 0)), dg (digits (B fm j).num.natAbs), dg (digits (B fm j).den)]] (.agg [.b (decide ((f * B fm j).num < 0)), dg (digits (f * B fm j).num.natAbs), dg (digits (f * B fm j).den)]) [] := qmul_ok (L := 2 * L) (IsQ.of (by omega)) (IsQ.of (by omega)) (by omega)
      have cs : PCall Try.prog 76 [.agg [.b (decide ((B to j).num < 0)), dg (digits (B to j).num.natAbs), dg (digits (B to j).den)], .agg [.b (decide ((f * B fm j).num < 0)), dg (digits (f * B fm j).num.natAbs), dg (digits (f * B fm j).den)]] (.agg [.b (decide ((B to j - f * B fm j).num < 0)), dg (digits (B to j - f * B fm j).num.natAbs), dg (digits (B to j - f * B fm j).den)]) [] := qsub_ok (L := 4 * L) (IsQ.of (by omega)) (IsQ.of (by omega)) (by omega) (by omega)
      clear hB' hx lm hLf hLt
      generalize B to j - f * B fm j = q4 at *
      generalize f * B fm j = q3 at *
      generalize B fm j = q1 at *
      generalize B to j = q2 at *
      generalize fm * w = x1 at *
      generalize to * w = x2 at *
      refine AX.sregAV [1, 2, 4, 8, 41, 42, 43] (hq := ?_)
      refine AX.seq ?_
      refine AX.condT (h := ?_)
      refine AX.keepA [1, 2, 4, 8, 41, 42] (h := ?_)
      refine AX.skip ?_
      try simp only [thenS_normal, thenS_ret, thenS_exit, blockS_normal, blockS_ret, blockS_exit, backS_ret, backS_exit, if_true]
      refine AX.seq ?_
      refine AX.block ?_
      refine AX.sregAV [1, 2, 4, 8, 10, 41, 42] (hq := ?_)
      refine AX.sregWV [1, 2, 4, 8, 10, 11, 41, 42] (And.intro @m1 (And.intro @a1 (And.intro @hl (And.intro @g1 True.intro)))) True.intro (hq := ?_)
      refine AX.sregAV [1, 2, 4, 8, 10, 11, 41, 42, 58] (hq := ?_)
      refine AX.condT (h := ?_)
      refine AX.dregWV [1, 2, 4, 8, 41, 42] (And.intro @m2 (And.intro @a2 (And.intro @hl (And.intro @g2 (And.intro @s1 True.intro))))) (And.intro cm (And.intro cs True.intro)) (hq := ?_)
      try simp only [thenS_normal, thenS_ret, thenS_exit, blockS_normal, blockS_ret, blockS_exit, backS_ret, backS_exit, if_true]
      refine AX.regWV [1, 2, 4, 8, 41, 42] (And.intro @lit_add True.intro) True.intro (hq := ?_)
      try simp only [thenS_normal, thenS_ret, thenS_exit, blockS_normal, blockS_ret, blockS_exit, backS_ret, backS_exit, if_true]
      refine ⟨_, _, id, ?_,
        ⟨by simp only [ren_q, renL_u, lt_q, ltL_u, LeFr, LeHp, lkp, V.ren, V.renL, Row.ren, V.lt, V.ltL, renL_u, ltL_u, List.length_append, List.length_cons, List.length_nil, List.length_set, id_eq, Option.some.injEq, V.i.injEq, V.b.injEq, V.own.injEq, Row.mk.injEq, decide_true, decide_eq_true_eq, true_and, and_true, Bool.and_true, Bool.true_and, if_true, if_false, and_self, Nat.reduceLT, Nat.reduceLeDiff, Nat.reduceEqDiff, Nat.reduceAdd, Nat.reduceSub, Nat.reduceMul, Nat.reducePow, Nat.reduceBEq, Int.reduceLE, Int.reduceLT, Int.reduceToNat, Int.reduceEq, Int.reduceNeg, reduceIte, reduceCtorEq] <;> (first | done | trivial | (and_intros <;> first | trivial | omega | assumption)), by simp only [ren_q, renL_u, lt_q, ltL_u, LeFr, LeHp, lkp, V.ren, V.renL, Row.ren, V.lt, V.ltL, renL_u, ltL_u, List.length_append, List.length_cons, List.length_nil, List.length_set, id_eq, Option.some.injEq, V.i.injEq, V.b.injEq, V.own.injEq, Row.mk.injEq, decide_true, decide_eq_true_eq, true_and, and_true, Bool.and_true, Bool.true_and, if_true, if_false, and_self, Nat.reduceLT, Nat.reduceLeDiff, Nat.reduceEqDiff, Nat.reduceAdd, Nat.reduceSub, Nat.reduceMul, Nat.reducePow, Nat.reduceBEq, Int.reduceLE, Int.reduceLT, Int.reduceToNat, Int.reduceEq, Int.reduceNeg, reduceIte, reduceCtorEq] <;> (first | done | trivial | (and_intros <;> first | trivial | omega | assumption)), by simp [Apart], by first | exact Nat.zero_le _ | simp, by intro n hn; first | rfl | exact absurd hn (Nat.not_lt_zero _) | (have h0 : n = 0 := Nat.lt_one_iff.1 hn; subst h0; rfl)⟩
        , ⟨j + 1, B', by omega, rfl, hstep, rfl⟩⟩
      omega
  · refine AX.sregAV [1, 2, 4, 8, 41, 42, 43] (hq := ?_)
    refine AX.seq ?_
    refine AX.condF (h := ?_)
    refine AX.exit ?_
    try simp only [thenS_normal, thenS_ret, thenS_exit, blockS_normal, blockS_ret, blockS_exit, backS_ret, backS_exit, if_true]
    refine ⟨.inr (by simp), ?_⟩
    have e : mcells w B (n * w) = mcells w (clearM A fm to f) (n * w) := mcells_congr fun i' j' hi' hj' => by
      rw [hB]
      unfold clearM
      by_cases e : i' = to
      · rw [if_pos ⟨e, by omega⟩, if_pos e]
      · rw [if_neg (fun h => e h.1), if_neg e]
    rw [e]
    exact DoneG.row rfl

end Go.Proofs.Ytepkjfnffbdcoaa

/- Elimination, step by step: pivot. -/
set_option linter.unusedVariables false
set_option linter.unusedSimpArgs false
namespace Go.Proofs.Ytepkjfnffbdcoaa
open Go Go.Proofs.Ytepkjfnffbdcoaa.Lift
attribute [local irreducible] Lift.PCall Lift.HCall

/-- The row with the least weight among those of which nz holds, out of the first t from 'at' on; -1: none. -/
def pivS (wt : Nat → Nat) (nz : Nat → Bool) (a : Nat) : Nat → Int
  | 0 => -1
  | t + 1 => if nz (a + t) = true ∧ (pivS wt nz a t < 0 ∨ wt (a + t) < wt (pivS wt nz a t).toNat) then ((a + t : Nat) : Int) else pivS wt nz a t
theorem pivS_spec (wt : Nat → Nat) (nz : Nat → Bool) (a : Nat) : ∀ t, (pivS wt nz a t = -1 ∧ ∀ i, a ≤ i → i < a + t → nz i = false) ∨ (∃ p : Nat, pivS wt nz a t = p ∧ a ≤ p ∧ p < a + t ∧ nz p = true) := by
  intro t
  induction t with
  | zero => exact .inl ⟨rfl, fun i h1 h2 => by omega⟩
  | succ t ih =>
    unfold pivS
    by_cases h : nz (a + t) = true ∧ (pivS wt nz a t < 0 ∨ wt (a + t) < wt (pivS wt nz a t).toNat)
    · rw [if_pos h]
      exact .inr ⟨a + t, rfl, by omega, by omega, h.1⟩
    · rw [if_neg h]
      rcases ih with ⟨h1, h2⟩ | ⟨p, h1, h2, h3, h4⟩
      · refine .inl ⟨h1, fun i g1 g2 => ?_⟩
        by_cases e : i = a + t
        · subst e
          cases hz : nz (a + t)
          · rfl
          · exact absurd ⟨hz, .inl (by rw [h1]; decide)⟩ h
        · exact h2 i g1 (by omega)
      · exact .inr ⟨p, h1, h2, by omega, h4⟩
theorem effIxM {w n i j : Nat} {x y : Operand} (B : Mx) (hi : i < n) (hj : j < w) {z : Nat} (hz : i * w + j = z) :
    eff Try.prog (.indexAddr 31 x y) [.sl ((mcells w B (n * w)).map rV), .i .i64 (z : Int)] = some (.val (.rp [.b (decide ((B i j).num < 0)), dg (digits (B i j).num.natAbs), dg (digits (B i j).den)])) := by
  obtain ⟨h1, h2⟩ := mcells_get (r := n) (c := w) B hi hj
  subst hz
  rw [effIxQ (by rw [mcells_length]; exact h1), h2]
def pivI (n : Nat) (A : Mx) (at' col : Nat) : Int := pivS (fun i => wq (A i col)) (fun i => decide (A i col ≠ 0)) at' (n - at')

set_option maxHeartbeats 16000000 in
theorem pivot_ok (n w at' col L : Nat) (hn : n ≤ 200) (hw : w ≤ 200) (A : Mx) (ha : at' ≤ n) (hc : col < w) (hL : ∀ i, i < n → rL (A i col) ≤ L) (hL2 : L < 2 ^ 36) :
    PCall Try.prog 95 [mV n w ((mcells w A (n * w)).map rV), .i .i64 at', .i .i64 col] (.i .i64 (pivI n A at' col)) [] := by
  refine PCall.of_ax Try.call95 Try.func95 rfl (by simp [Try.ntmps95]) fun O w0 => ?_
  simp only [Try.ntmps95, Try.results95, argFr]
  unfold pivI
  have spec := pivS_spec (fun i => wq (A i col)) (fun i => decide (A i col ≠ 0)) at'
  have kb : n * w ≤ 200 * 200 := Nat.mul_le_mul hn hw
  refine AX.sregAV [1, 2, 3] (hq := ?_)
  refine AX.sregAV [1, 2, 3, 7] (hq := ?_)
  refine AX.seq ?_
  refine AX.sregAV [2, 3, 7, 8] (hq := ?_)
  refine AX.block ?_
  refine AX.loop (fun N st => ∃ t : Nat, at' + t ≤ n ∧ N = n - (at' + t) ∧ st = ⟨[(8, .i .i64 (at' + t : Nat)), (7, .i .i64 (pivS (fun i => wq (A i col)) (fun i => decide (A i col ≠ 0)) at' t)), (3, .ptr 0 0), (2, .i .i64 col)], [(0, ⟨35, [.i .i64 n, .i .i64 w, .sl ((mcells w A (n * w)).map rV)]⟩)], 1⟩) (n - at') ⟨0, by omega, rfl, rfl⟩ ?_
  rintro N st ⟨t, ht, rfl, rfl⟩
  refine AX.seq ?_
  by_cases h1 : at' + t < n
  · have spec := spec t
    have hs0 : pivS (fun i => wq (A i col)) (fun i => decide (A i col ≠ 0)) at' (t + 1) = if A (at' + t) col ≠ 0 ∧ (pivS (fun i => wq (A i col)) (fun i => decide (A i col ≠ 0)) at' t < 0 ∨ wq (A (at' + t) col) < wq (A (pivS (fun i => wq (A i col)) (fun i => decide (A i col ≠ 0)) at' t).toNat col)) then ((at' + t : Nat) : Int) else pivS (fun i => wq (A i col)) (fun i => decide (A i col ≠ 0)) at' t := by
      rw [pivS]
      simp only [decide_eq_true_eq]
    obtain ⟨i, hi⟩ : ∃ i, at' + t = i := ⟨_, rfl⟩
    obtain ⟨b, hb⟩ : ∃ b, pivS (fun i => wq (A i col)) (fun i => decide (A i col ≠ 0)) at' t = b := ⟨_, rfl⟩
    rw [hi, hb] at hs0
    rw [hi] at h1 spec
    rw [hb] at spec
    rw [hi, hb]
    obtain ⟨z1, e1⟩ : ∃ z, i * w + col = z := ⟨_, rfl⟩
    have m1 : (i : Int) * (w : Int) = ((i * w : Nat) : Int) := (Int.natCast_mul i w).symm
    have a1 : ((i * w : Nat) : Int) + (col : Int) = (z1 : Int) := by rw [← Int.natCast_add, e1]
    have hix := fun x y => effIxM (x := x) (y := y) A h1 hc e1
    have l1 := (mcells_get (r := n) (c := w) A h1 hc).1
    have xb1 : i * w ≤ n * w := Nat.mul_le_mul_right _ (by omega)
    have cw1 : PCall Try.prog 97 [.agg [.b (decide ((A i col).num < 0)), dg (digits (A i col).num.natAbs), dg (digits (A i col).den)]] (.i .i64 (wq (A i col) : Nat)) [] := weight_ok _ (Nat.lt_of_le_of_lt (hL i h1) hL2)
    rw [e1] at l1
    by_cases hz : A i col = 0
    · have hz' : (digits (A i col).num.natAbs).length = 0 := by rw [digits_len_zero, Int.natAbs_eq_zero, Rat.num_eq_zero]; exact hz
      rw [if_neg (fun h => h.1 hz)] at hs0
      clear cw1
      generalize A i col = q1 at hix hz'
      generalize i * w = x1 at *
      refine AX.sregAV [2, 3, 7, 8, 14] (hq := ?_)
      refine AX.condT (h := ?_)
      refine AX.keepA [2, 3, 7, 8] (h := ?_)
      refine AX.skip ?_
      try simp only [thenS_normal, thenS_ret, thenS_exit, blockS_normal, blockS_ret, blockS_exit, backS_ret, backS_exit, if_true]
      refine AX.seq ?_
      refine AX.block ?_
      apply AX.sreg [2, 3, 7, 8, 9] (by simp only [pq]; rfl)
      · repeat (first
       | (apply RunO.op rfl; · rfl
          · (simp only [opsOf, valsOf, valOf, lkp, ofConst, ofCell, Array.toList, Option.toList, List.map_cons, List.map_nil, List.cons_append, List.nil_append, List.append_nil, Nat.reduceEqDiff, Nat.reducePow, Nat.reduceLT, Nat.reduceLeDiff, reduceIte, if_true, if_false, IntKind.min, IntKind.max, IntKind.bits, IntKind.signed, Int.reduceLE, Int.reduceNeg, Int.reducePow, Int.reduceSub, and_self, Bool.false_eq_true, Nat.reduceSub]; rfl)
          · first | exact hix _ _ | (simp (disch := omega) only [go_sem, i64_of, u32_of, u64_of, Nat.reduceLT, Nat.reduceLeDiff, Nat.reduceEqDiff, Nat.reduceAdd, Nat.reduceSub, Nat.reduceMul, Nat.reducePow, Nat.reduceBEq, Int.reduceLE, Int.reduceLT, Int.reduceToNat, Int.reduceEq, Int.reduceNeg, reduceIte, reduceCtorEq, m1, a1]; rfl)
          · (simp (disch := omega) only [go_sem, i64_of, u32_of, u64_of, Nat.reduceLT, Nat.reduceLeDiff, Nat.reduceEqDiff, Nat.reduceAdd, Nat.reduceSub, Nat.reduceMul, Nat.reducePow, Nat.reduceBEq, Int.reduceLE, Int.reduceLT, Int.reduceToNat, Int.reduceEq, Int.reduceNeg, reduceIte, reduceCtorEq, m1, a1]; rfl)
          · (simp only [pb, Nat.reduceLT, Nat.reduceAdd, reduceIte]; rfl))
       | (apply RunO.skip; · rfl
          · (simp only [pb, Nat.reduceLT, Nat.reduceAdd, reduceIte]; rfl)))
        exact RunO.nil
      · repeat (first | exact Keep.nil | (apply Keep.take; · rfl) | (apply Keep.drop; · rfl))
      refine AX.sdregWV [2, 3, 7, 8, 50] (And.intro @hz' True.intro) True.intro (hq := ?_)
      refine AX.condF (h := ?_)
      refine AX.keepA [2, 3, 7, 8] (h := ?_)
      refine AX.skip ?_
      try simp only [thenS_normal, thenS_ret, thenS_exit, blockS_normal, blockS_ret, blockS_exit, backS_ret, backS_exit, if_true]
      refine AX.regWV [2, 3, 7, 8] (And.intro @lit_add True.intro) True.intro (hq := ?_)
      try simp only [thenS_normal, thenS_ret, thenS_exit, blockS_normal, blockS_ret, blockS_exit, backS_ret, backS_exit, if_true]
      refine ⟨_, _, id, ?_,
        ⟨by simp only [ren_q, renL_u, lt_q, ltL_u, LeFr, LeHp, lkp, V.ren, V.renL, Row.ren, V.lt, V.ltL, renL_u, ltL_u, List.length_append, List.length_cons, List.length_nil, List.length_set, id_eq, Option.some.injEq, V.i.injEq, V.b.injEq, V.own.injEq, Row.mk.injEq, decide_true, decide_eq_true_eq, true_and, and_true, Bool.and_true, Bool.true_and, if_true, if_false, and_self, Nat.reduceLT, Nat.reduceLeDiff, Nat.reduceEqDiff, Nat.reduceAdd, Nat.reduceSub, Nat.reduceMul, Nat.reducePow, Nat.reduceBEq, Int.reduceLE, Int.reduceLT, Int.reduceToNat, Int.reduceEq, Int.reduceNeg, reduceIte, reduceCtorEq] <;> (first | done | trivial | (and_intros <;> first | trivial | omega | (rw [hs0]))), by simp only [ren_q, renL_u, lt_q, ltL_u, LeFr, LeHp, lkp, V.ren, V.renL, Row.ren, V.lt, V.ltL, renL_u, ltL_u, List.length_append, List.length_cons, List.length_nil, List.length_set, id_eq, Option.some.injEq, V.i.injEq, V.b.injEq, V.own.injEq, Row.mk.injEq, decide_true, decide_eq_true_eq, true_and, and_true, Bool.and_true, Bool.true_and, if_true, if_false, and_self, Nat.reduceLT, Nat.reduceLeDiff, Nat.reduceEqDiff, Nat.reduceAdd, Nat.reduceSub, Nat.reduceMul, Nat.reducePow, Nat.reduceBEq, Int.reduceLE, Int.reduceLT, Int.reduceToNat, Int.reduceEq, Int.reduceNeg, reduceIte, reduceCtorEq] <;> (first | done | trivial | (and_intros <;> first | trivial | omega | (rw [hs0]))), by simp [Apart], by first | exact Nat.zero_le _ | simp, by intro n hn; first | rfl | exact absurd hn (Nat.not_lt_zero _) | (have h0 : n = 0 := Nat.lt_one_iff.1 hn; subst h0; rfl)⟩
        , ⟨t + 1, by omega, rfl, rfl⟩⟩
      omega
    have hz' : 0 < (digits (A i col).num.natAbs).length := Nat.pos_of_ne_zero fun e => hz (by rwa [digits_len_zero, Int.natAbs_eq_zero, Rat.num_eq_zero] at e)
    rcases spec with ⟨hb1, _⟩ | ⟨p, hb1, hp1, hp2, _⟩
    · rw [if_pos ⟨hz, .inl (by omega)⟩] at hs0
      subst hb1
      clear cw1
      generalize A i col = q1 at hix hz'
      generalize i * w = x1 at *
      refine AX.sregAV [2, 3, 7, 8, 14] (hq := ?_)
      refine AX.condT (h := ?_)
      refine AX.keepA [2, 3, 7, 8] (h := ?_)
      refine AX.skip ?_
      try simp only [thenS_normal, thenS_ret, thenS_exit, blockS_normal, blockS_ret, blockS_exit, backS_ret, backS_exit, if_true]
      refine AX.seq ?_
      refine AX.block ?_
      apply AX.sreg [2, 3, 7, 8, 9] (by simp only [pq]; rfl)
      · repeat (first
       | (apply RunO.op rfl; · rfl
          · (simp only [opsOf, valsOf, valOf, lkp, ofConst, ofCell, Array.toList, Option.toList, List.map_cons, List.map_nil, List.cons_append, List.nil_append, List.append_nil, Nat.reduceEqDiff, Nat.reducePow, Nat.reduceLT, Nat.reduceLeDiff, reduceIte, if_true, if_false, IntKind.min, IntKind.max, IntKind.bits, IntKind.signed, Int.reduceLE, Int.reduceNeg, Int.reducePow, Int.reduceSub, and_self, Bool.false_eq_true, Nat.reduceSub]; rfl)
          · first | exact hix _ _ | (simp (disch := omega) only [go_sem, i64_of, u32_of, u64_of, Nat.reduceLT, Nat.reduceLeDiff, Nat.reduceEqDiff, Nat.reduceAdd, Nat.reduceSub, Nat.reduceMul, Nat.reducePow, Nat.reduceBEq, Int.reduceLE, Int.reduceLT, Int.reduceToNat, Int.reduceEq, Int.reduceNeg, reduceIte, reduceCtorEq, m1, a1]; rfl)
          · (simp (disch := omega) only [go_sem, i64_of, u32_of, u64_of, Nat.reduceLT, Nat.reduceLeDiff, Nat.reduceEqDiff, Nat.reduceAdd, Nat.reduceSub, Nat.reduceMul, Nat.reducePow, Nat.reduceBEq, Int.reduceLE, Int.reduceLT, Int.reduceToNat, Int.reduceEq, Int.reduceNeg, reduceIte, reduceCtorEq, m1, a1]; rfl)
          · (simp only [pb, Nat.reduceLT, Nat.reduceAdd, reduceIte]; rfl))
       | (apply RunO.skip; · rfl
          · (simp only [pb, Nat.reduceLT, Nat.reduceAdd, reduceIte]; rfl)))
        exact RunO.nil
      · repeat (first | exact Keep.nil | (apply Keep.take; · rfl) | (apply Keep.drop; · rfl))
      refine AX.sdregAV [2, 3, 7, 8, 50] (hq := ?_)
      refine AX.condT (h := ?_)
      refine AX.regAV [2, 3, 7, 8] (hq := ?_)
      try simp only [thenS_normal, thenS_ret, thenS_exit, blockS_normal, blockS_ret, blockS_exit, backS_ret, backS_exit, if_true]
      refine AX.regWV [2, 3, 7, 8] (And.intro @lit_add True.intro) True.intro (hq := ?_)
      try simp only [thenS_normal, thenS_ret, thenS_exit, blockS_normal, blockS_ret, blockS_exit, backS_ret, backS_exit, if_true]
      refine ⟨_, _, id, ?_,
        ⟨by simp only [ren_q, renL_u, lt_q, ltL_u, LeFr, LeHp, lkp, V.ren, V.renL, Row.ren, V.lt, V.ltL, renL_u, ltL_u, List.length_append, List.length_cons, List.length_nil, List.length_set, id_eq, Option.some.injEq, V.i.injEq, V.b.injEq, V.own.injEq, Row.mk.injEq, decide_true, decide_eq_true_eq, true_and, and_true, Bool.and_true, Bool.true_and, if_true, if_false, and_self, Nat.reduceLT, Nat.reduceLeDiff, Nat.reduceEqDiff, Nat.reduceAdd, Nat.reduceSub, Nat.reduceMul, Nat.reducePow, Nat.reduceBEq, Int.reduceLE, Int.reduceLT, Int.reduceToNat, Int.reduceEq, Int.reduceNeg, reduceIte, reduceCtorEq] <;> (first | done | trivial | (and_intros <;> first | trivial | omega | (rw [hs0]))), by simp only [ren_q, renL_u, lt_q, ltL_u, LeFr, LeHp, lkp, V.ren, V.renL, Row.ren, V.lt, V.ltL, renL_u, ltL_u, List.length_append, List.length_cons, List.length_nil, List.length_set, id_eq, Option.some.injEq, V.i.injEq, V.b.injEq, V.own.injEq, Row.mk.injEq, decide_true, decide_eq_true_eq, true_and, and_true, Bool.and_true, Bool.true_and, if_true, if_false, and_self, Nat.reduceLT, Nat.reduceLeDiff, Nat.reduceEqDiff, Nat.reduceAdd, Nat.reduceSub, Nat.reduceMul, Nat.reducePow, Nat.reduceBEq, Int.reduceLE, Int.reduceLT, Int.reduceToNat, Int.reduceEq, Int.reduceNeg, reduceIte, reduceCtorEq] <;> (first | done | trivial | (and_intros <;> first | trivial | omega | (rw [hs0]))), by simp [Apart], by first | exact Nat.zero_le _ | simp, by intro n hn; first | rfl | exact absurd hn (Nat.not_lt_zero _) | (have h0 : n = 0 := Nat.lt_one_iff.1 hn; subst h0; rfl)⟩
        , ⟨t + 1, by omega, rfl, rfl⟩⟩
      omega
    · subst hb1
      have hpn : p < n := by omega
      obtain ⟨z2, e2⟩ : ∃ z, p * w + col = z := ⟨_, rfl⟩
      have m2 : (p : Int) * (w : Int) = ((p * w : Nat) : Int) := (Int.natCast_mul p w).symm
      have a2 : ((p * w : Nat) : Int) + (col : Int) = (z2 : Int) := by rw [← Int.natCast_add, e2]
      have hix2 := fun x y => effIxM (x := x) (y := y) A hpn hc e2
      have l2 := (mcells_get (r := n) (c := w) A hpn hc).1
      have xb2 : p * w ≤ n * w := Nat.mul_le_mul_right _ (by omega)
      rw [e2] at l2
      have cw2 : PCall Try.prog 97 [.agg [.b (decide ((A p col).num < 0)), dg (digits (A p col).num.natAbs), dg (digits (A p col).den)]] (.i .i64 (wq (A p col) : Nat)) [] := weight_ok _ (Nat.lt_of_le_of_lt (hL p hpn) hL2)
      rw [Int.toNat_natCast] at hs0
      by_cases hlt : wq (A i col) < wq (A p col)
      · rw [if_pos ⟨hz, .inr hlt⟩] at hs0
        generalize wq (A i col) = w1 at *
        generalize wq (A p col) = w2 at *
        generalize A i col = q1 at hix hz' cw1
        generalize A p col = q2 at hix2 cw2
        generalize i * w = x1 at *
        generalize p * w = x2 at *
        refine AX.sregAV [2, 3, 7, 8, 14] (hq := ?_)
        refine AX.condT (h := ?_)
        refine AX.keepA [2, 3, 7, 8] (h := ?_)
        refine AX.skip ?_
        try simp only [thenS_normal, thenS_ret, thenS_exit, blockS_normal, blockS_ret, blockS_exit, backS_ret, backS_exit, if_true]
        refine AX.seq ?_
        refine AX.block ?_
        apply AX.sreg [2, 3, 7, 8, 9] (by simp only [pq]; rfl)
        · repeat (first
         | (apply RunO.op rfl; · rfl
            · (simp only [opsOf, valsOf, valOf, lkp, ofConst, ofCell, Array.toList, Option.toList, List.map_cons, List.map_nil, List.cons_append, List.nil_append, List.append_nil, Nat.reduceEqDiff, Nat.reducePow, Nat.reduceLT, Nat.reduceLeDiff, reduceIte, if_true, if_false, IntKind.min, IntKind.max, IntKind.bits, IntKind.signed, Int.reduceLE, Int.reduceNeg, Int.reducePow, Int.reduceSub, and_self, Bool.false_eq_true, Nat.reduceSub]; rfl)
            · first | exact hix _ _ | (simp (disch := omega) only [go_sem, i64_of, u32_of, u64_of, Nat.reduceLT, Nat.reduceLeDiff, Nat.reduceEqDiff, Nat.reduceAdd, Nat.reduceSub, Nat.reduceMul, Nat.reducePow, Nat.reduceBEq, Int.reduceLE, Int.reduceLT, Int.reduceToNat, Int.reduceEq, Int.reduceNeg, reduceIte, reduceCtorEq, m1, a1]; rfl)
            · (simp (disch := omega) only [go_sem, i64_of, u32_of, u64_of, Nat.reduceLT, Nat.reduceLeDiff, Nat.reduceEqDiff, Nat.reduceAdd, Nat.reduceSub, Nat.reduceMul, Nat.reducePow, Nat.reduceBEq, Int.reduceLE, Int.reduceLT, Int.reduceToNat, Int.reduceEq, Int.reduceNeg, reduceIte, reduceCtorEq, m1, a1]; rfl)
            · (simp only [pb, Nat.reduceLT, Nat.reduceAdd, reduceIte]; rfl))
         | (apply RunO.skip; · rfl
            · (simp only [pb, Nat.reduceLT, Nat.reduceAdd, reduceIte]; rfl)))
          exact RunO.nil
        · repeat (first | exact Keep.nil | (apply Keep.take; · rfl) | (apply Keep.drop; · rfl))
        apply AX.sdreg [2, 3, 7, 8, 50] (by kernel_rfl) (by simp only [pq]; rfl)
        · repeat (first
         | (apply RunD.op rfl; · rfl
            · (simp only [opsOf, valsOf, valOf, lkp, ofConst, ofCell, Array.toList, Option.toList, List.map_cons, List.map_nil, List.cons_append, List.nil_append, List.append_nil, Nat.reduceEqDiff, Nat.reducePow, Nat.reduceLT, Nat.reduceLeDiff, reduceIte, if_true, if_false, IntKind.min, IntKind.max, IntKind.bits, IntKind.signed, Int.reduceLE, Int.reduceNeg, Int.reducePow, Int.reduceSub, and_self, Bool.false_eq_true, Nat.reduceSub]; rfl)
            · first | exact hix2 _ _ | (simp (disch := omega) only [go_sem, i64_of, u32_of, u64_of, Nat.reduceLT, Nat.reduceLeDiff, Nat.reduceEqDiff, Nat.reduceAdd, Nat.reduceSub, Nat.reduceMul, Nat.reducePow, Nat.reduceBEq, Int.reduceLE, Int.reduceLT, Int.reduceToNat, Int.reduceEq, Int.reduceNeg, reduceIte, reduceCtorEq, m2, a2]; rfl)
            · (simp (disch := omega) only [go_sem, i64_of, u32_of, u64_of, Nat.reduceLT, Nat.reduceLeDiff, Nat.reduceEqDiff, Nat.reduceAdd, Nat.reduceSub, Nat.reduceMul, Nat.reducePow, Nat.reduceBEq, Int.reduceLE, Int.reduceLT, Int.reduceToNat, Int.reduceEq, Int.reduceNeg, reduceIte, reduceCtorEq, m2, a2]; rfl)
            · (simp only [pb, Nat.reduceLT, Nat.reduceAdd, reduceIte]; rfl)
            · rfl)
         | (apply RunD.call rfl; · rfl
            · (simp only [opsOf, valsOf, valOf, lkp, ofConst, ofCell, Array.toList, Option.toList, List.map_cons, List.map_nil, List.cons_append, List.nil_append, List.append_nil, Nat.reduceEqDiff, Nat.reducePow, Nat.reduceLT, Nat.reduceLeDiff, reduceIte, if_true, if_false, IntKind.min, IntKind.max, IntKind.bits, IntKind.signed, Int.reduceLE, Int.reduceNeg, Int.reducePow, Int.reduceSub, and_self, Bool.false_eq_true, Nat.reduceSub]; rfl)
            · first | rfl | (simp only [List.cons_append, List.nil_append, V.hfL, V.hf, Bool.true_and]; assumption)
            · (first | (simp only [cnlL, cnl, List.append_nil, List.cons_append, List.nil_append]; first | exact cw1 | exact cw2) | (first | exact cw1 | exact cw2))
            · rfl
            · (simp only [pb, Nat.reduceLT, Nat.reduceAdd, reduceIte]; rfl)
            · rfl)
         | (apply RunD.skip; · rfl
            · (simp only [pb, Nat.reduceLT, Nat.reduceAdd, reduceIte]; rfl)
            · rfl))
          exact RunD.nil
        · repeat (first | exact Keep.nil | (apply Keep.take; · rfl) | (apply Keep.drop; · rfl))
        · kernel_rfl
        refine AX.condT (h := ?_)
        refine AX.regAV [2, 3, 7, 8] (hq := ?_)
        try simp only [thenS_normal, thenS_ret, thenS_exit, blockS_normal, blockS_ret, blockS_exit, backS_ret, backS_exit, if_true]
        refine AX.regWV [2, 3, 7, 8] (And.intro @lit_add True.intro) True.intro (hq := ?_)
        try simp only [thenS_normal, thenS_ret, thenS_exit, blockS_normal, blockS_ret, blockS_exit, backS_ret, backS_exit, if_true]
        refine ⟨_, _, id, ?_,
          ⟨by simp only [ren_q, renL_u, lt_q, ltL_u, LeFr, LeHp, lkp, V.ren, V.renL, Row.ren, V.lt, V.ltL, renL_u, ltL_u, List.length_append, List.length_cons, List.length_nil, List.length_set, id_eq, Option.some.injEq, V.i.injEq, V.b.injEq, V.own.injEq, Row.mk.injEq, decide_true, decide_eq_true_eq, true_and, and_true, Bool.and_true, Bool.true_and, if_true, if_false, and_self, Nat.reduceLT, Nat.reduceLeDiff, Nat.reduceEqDiff, Nat.reduceAdd, Nat.reduceSub, Nat.reduceMul, Nat.reducePow, Nat.reduceBEq, Int.reduceLE, Int.reduceLT, Int.reduceToNat, Int.reduceEq, Int.reduceNeg, reduceIte, reduceCtorEq] <;> (first | done | trivial | (and_intros <;> first | trivial | omega | (rw [hs0]))), by simp only [ren_q, renL_u, lt_q, ltL_u, LeFr, LeHp, lkp, V.ren, V.renL, Row.ren, V.lt, V.ltL, renL_u, ltL_u, List.length_append, List.length_cons, List.length_nil, List.length_set, id_eq, Option.some.injEq, V.i.injEq, V.b.injEq, V.own.injEq, Row.mk.injEq, decide_true, decide_eq_true_eq, true_and, and_true, Bool.and_true, Bool.true_and, if_true, if_false, and_self, Nat.reduceLT, Nat.reduceLeDiff, Nat.reduceEqDiff, Nat.reduceAdd, Nat.reduceSub, Nat.reduceMul, Nat.reducePow, Nat.reduceBEq, Int.reduceLE, Int.reduceLT, Int.reduceToNat, Int.reduceEq, Int.reduceNeg, reduceIte, reduceCtorEq] <;> (first | done | trivial | (and_intros <;> first | trivial | omega | (rw [hs0]))), by simp [Apart], by first | exact Nat.zero_le _ | simp, by intro n hn; first | rfl | exact absurd hn (Nat.not_lt_zero _) | (have h0 : n = 0 := Nat.lt_one_iff.1 hn; subst h0; rfl)⟩
          , ⟨t + 1, by omega, rfl, rfl⟩⟩
        omega
      · rw [if_neg (fun h => h.2.elim (by omega) hlt)] at hs0
        generalize wq (A i col) = w1 at *
        generalize wq (A p col) = w2 at *
        generalize A i col = q1 at hix hz' cw1
        generalize A p col = q2 at hix2 cw2
        generalize i * w = x1 at *
        generalize p * w = x2 at *
        refine AX.sregAV [2, 3, 7, 8, 14] (hq := ?_)
        refine AX.condT (h := ?_)
        refine AX.keepA [2, 3, 7, 8] (h := ?_)
        refine AX.skip ?_
        try simp only [thenS_normal, thenS_ret, thenS_exit, blockS_normal, blockS_ret, blockS_exit, backS_ret, backS_exit, if_true]
        refine AX.seq ?_
        refine AX.block ?_
        apply AX.sreg [2, 3, 7, 8, 9] (by simp only [pq]; rfl)
        · repeat (first
         | (apply RunO.op rfl; · rfl
            · (simp only [opsOf, valsOf, valOf, lkp, ofConst, ofCell, Array.toList, Option.toList, List.map_cons, List.map_nil, List.cons_append, List.nil_append, List.append_nil, Nat.reduceEqDiff, Nat.reducePow, Nat.reduceLT, Nat.reduceLeDiff, reduceIte, if_true, if_false, IntKind.min, IntKind.max, IntKind.bits, IntKind.signed, Int.reduceLE, Int.reduceNeg, Int.reducePow, Int.reduceSub, and_self, Bool.false_eq_true, Nat.reduceSub]; rfl)
            · first | exact hix _ _ | (simp (disch := omega) only [go_sem, i64_of, u32_of, u64_of, Nat.reduceLT, Nat.reduceLeDiff, Nat.reduceEqDiff, Nat.reduceAdd, Nat.reduceSub, Nat.reduceMul, Nat.reducePow, Nat.reduceBEq, Int.reduceLE, Int.reduceLT, Int.reduceToNat, Int.reduceEq, Int.reduceNeg, reduceIte, reduceCtorEq, m1, a1]; rfl)
            · (simp (disch := omega) only [go_sem, i64_of, u32_of, u64_of, Nat.reduceLT, Nat.reduceLeDiff, Nat.reduceEqDiff, Nat.reduceAdd, Nat.reduceSub, Nat.reduceMul, Nat.reducePow, Nat.reduceBEq, Int.reduceLE, Int.reduceLT, Int.reduceToNat, Int.reduceEq, Int.reduceNeg, reduceIte, reduceCtorEq, m1, a1]; rfl)
            · (simp only [pb, Nat.reduceLT, Nat.reduceAdd, reduceIte]; rfl))
         | (apply RunO.skip; · rfl
            · (simp only [pb, Nat.reduceLT, Nat.reduceAdd, reduceIte]; rfl)))
          exact RunO.nil
        · repeat (first | exact Keep.nil | (apply Keep.take; · rfl) | (apply Keep.drop; · rfl))
        apply AX.sdreg [2, 3, 7, 8, 50] (by kernel_rfl) (by simp only [pq]; rfl)
        · repeat (first
         | (apply RunD.op rfl; · rfl
            · (simp only [opsOf, valsOf, valOf, lkp, ofConst, ofCell, Array.toList, Option.toList, List.map_cons, List.map_nil, List.cons_append, List.nil_append, List.append_nil, Nat.reduceEqDiff, Nat.reducePow, Nat.reduceLT, Nat.reduceLeDiff, reduceIte, if_true, if_false, IntKind.min, IntKind.max, IntKind.bits, IntKind.signed, Int.reduceLE, Int.reduceNeg, Int.reducePow, Int.reduceSub, and_self, Bool.false_eq_true, Nat.reduceSub]; rfl)
            · first | exact hix2 _ _ | (simp (disch := omega) only [go_sem, i64_of, u32_of, u64_of, Nat.reduceLT, Nat.reduceLeDiff, Nat.reduceEqDiff, Nat.reduceAdd, Nat.reduceSub, Nat.reduceMul, Nat.reducePow, Nat.reduceBEq, Int.reduceLE, Int.reduceLT, Int.reduceToNat, Int.reduceEq, Int.reduceNeg, reduceIte, reduceCtorEq, m2, a2]; rfl)
            · (simp (disch := omega) only [go_sem, i64_of, u32_of, u64_of, Nat.reduceLT, Nat.reduceLeDiff, Nat.reduceEqDiff, Nat.reduceAdd, Nat.reduceSub, Nat.reduceMul, Nat.reducePow, Nat.reduceBEq, Int.reduceLE, Int.reduceLT, Int.reduceToNat, Int.reduceEq, Int.reduceNeg, reduceIte, reduceCtorEq, m2, a2]; rfl)
            · (simp only [pb, Nat.reduceLT, Nat.reduceAdd, reduceIte]; rfl)
            · rfl)
         | (apply RunD.call rfl; · rfl
            · (simp only [opsOf, valsOf, valOf, lkp, ofConst, ofCell, Array.toList, Option.toList, List.map_cons, List.map_nil, List.cons_append, List.nil_append, List.append_nil, Nat.reduceEqDiff, Nat.reducePow, Nat.reduceLT, Nat.reduceLeDiff, reduceIte, if_true, if_false, IntKind.min, IntKind.max, IntKind.bits, IntKind.signed, Int.reduceLE, Int.reduceNeg, Int.reducePow, Int.reduceSub, and_self, Bool.false_eq_true, Nat.reduceSub]; rfl)
            · first | rfl | (simp only [List.cons_append, List.nil_append, V.hfL, V.hf, Bool.true_and]; assumption)
            · (first | (simp only [cnlL, cnl, List.append_nil, List.cons_append, List.nil_append]; first | exact cw1 | exact cw2) | (first | exact cw1 | exact cw2))
            · rfl
            · (simp only [pb, Nat.reduceLT, Nat.reduceAdd, reduceIte]; rfl)
            · rfl)
         | (apply RunD.skip; · rfl
            · (simp only [pb, Nat.reduceLT, Nat.reduceAdd, reduceIte]; rfl)
            · rfl))
          exact RunD.nil
        · repeat (first | exact Keep.nil | (apply Keep.take; · rfl) | (apply Keep.drop; · rfl))
        · kernel_rfl
        refine AX.condF (h := ?_)
        refine AX.keepA [2, 3, 7, 8] (h := ?_)
        refine AX.skip ?_
        try simp only [thenS_normal, thenS_ret, thenS_exit, blockS_normal, blockS_ret, blockS_exit, backS_ret, backS_exit, if_true]
        refine AX.regWV [2, 3, 7, 8] (And.intro @lit_add True.intro) True.intro (hq := ?_)
        try simp only [thenS_normal, thenS_ret, thenS_exit, blockS_normal, blockS_ret, blockS_exit, backS_ret, backS_exit, if_true]
        refine ⟨_, _, id, ?_,
          ⟨by simp only [ren_q, renL_u, lt_q, ltL_u, LeFr, LeHp, lkp, V.ren, V.renL, Row.ren, V.lt, V.ltL, renL_u, ltL_u, List.length_append, List.length_cons, List.length_nil, List.length_set, id_eq, Option.some.injEq, V.i.injEq, V.b.injEq, V.own.injEq, Row.mk.injEq, decide_true, decide_eq_true_eq, true_and, and_true, Bool.and_true, Bool.true_and, if_true, if_false, and_self, Nat.reduceLT, Nat.reduceLeDiff, Nat.reduceEqDiff, Nat.reduceAdd, Nat.reduceSub, Nat.reduceMul, Nat.reducePow, Nat.reduceBEq, Int.reduceLE, Int.reduceLT, Int.reduceToNat, Int.reduceEq, Int.reduceNeg, reduceIte, reduceCtorEq] <;> (first | done | trivial | (and_intros <;> first | trivial | omega | (rw [hs0]))), by simp only [ren_q, renL_u, lt_q, ltL_u, LeFr, LeHp, lkp, V.ren, V.renL, Row.ren, V.lt, V.ltL, renL_u, ltL_u, List.length_append, List.length_cons, List.length_nil, List.length_set, id_eq, Option.some.injEq, V.i.injEq, V.b.injEq, V.own.injEq, Row.mk.injEq, decide_true, decide_eq_true_eq, true_and, and_true, Bool.and_true, Bool.true_and, if_true, if_false, and_self, Nat.reduceLT, Nat.reduceLeDiff, Nat.reduceEqDiff, Nat.reduceAdd, Nat.reduceSub, Nat.reduceMul, Nat.reducePow, Nat.reduceBEq, Int.reduceLE, Int.reduceLT, Int.reduceToNat, Int.reduceEq, Int.reduceNeg, reduceIte, reduceCtorEq] <;> (first | done | trivial | (and_intros <;> first | trivial | omega | (rw [hs0]))), by simp [Apart], by first | exact Nat.zero_le _ | simp, by intro n hn; first | rfl | exact absurd hn (Nat.not_lt_zero _) | (have h0 : n = 0 := Nat.lt_one_iff.1 hn; subst h0; rfl)⟩
          , ⟨t + 1, by omega, rfl, rfl⟩⟩
        omega
  · refine AX.sregAV [2, 3, 7, 8, 14] (hq := ?_)
    refine AX.condF (h := ?_)
    refine AX.exit ?_
    try simp only [thenS_normal, thenS_ret, thenS_exit, blockS_normal, blockS_ret, blockS_exit, backS_ret, backS_exit, if_true]
    have e : n - at' = t := by omega
    rw [e]
    refine AX.sregAV [6] (hq := ?_)
    refine AX.ret (And.intro (Or.inl rfl) ?_)
    exact Done.one rfl rfl rfl rfl

end Go.Proofs.Ytepkjfnffbdcoaa
