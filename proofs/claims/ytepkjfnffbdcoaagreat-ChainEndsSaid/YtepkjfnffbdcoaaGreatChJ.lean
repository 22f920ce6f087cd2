/- Chains: what a state comes to; tables of truths. -/
import Derived.Test.YtepkjfnffbdcoaaGreatHI
import Derived.Test.YtepkjfnffbdcoaaGreatGB
set_option linter.unusedVariables false
set_option maxRecDepth 20000
set_option linter.unusedSimpArgs false
namespace Go.Proofs.YtepkjfnffbdcoaaGreat
open Go Go.Proofs.YtepkjfnffbdcoaaGreat.Lift
attribute [local irreducible] Lift.PCall Lift.HCall
inductive To (n : Nat) (A : Mx) (i : Nat) : Nat → Prop
 | self : i < n → To n A i i
 | move {a b : Nat} : To n A i a → b < n → 0 < A a b → To n A i b
theorem To.lt {n : Nat} {A : Mx} {i k : Nat} (h : To n A i k) : k < n := by
 cases h <;> assumption
noncomputable def toB (n : Nat) (A : Mx) (i k : Nat) : Bool := @decide (To n A i k) (Classical.propDecidable _)
theorem toB_iff {n : Nat} {A : Mx} {i k : Nat} : toB n A i k = true ↔ To n A i k := by
 unfold toB
 exact @decide_eq_true_iff _ (Classical.propDecidable _)
theorem To.trans {n : Nat} {A : Mx} {i k : Nat} (h : To n A i k) {j : Nat} (h' : To n A k j) : To n A i j := by
 induction h' with
 | self _ => exact h
 | move _ h2 h3 ih => exact .move ih h2 h3
structure FndT (n : Nat) (A : Mx) (i : Nat) (f : Nat → Bool) : Prop where
 self : f i = true
 sound : ∀ k, k < n → f k = true → To n A i k
theorem FndT.fin {n : Nat} {A : Mx} {i : Nat} {f : Nat → Bool} (h : FndT n A i f) (hcl : ∀ a b, a < n → b < n → f a = true → 0 < A a b → f b = true) : ∀ k, k < n → f k = toB n A i k := by
 intro k hk
 have hall : ∀ k, To n A i k → f k = true := by
  intro k hr
  induction hr with
  | self _ => exact h.self
  | move h1 h2 h3 ih => exact hcl _ _ h1.lt h2 ih h3
 cases hf : f k
 ·cases hr : toB n A i k
  ·rfl
  ·rw [hall k (toB_iff.1 hr)] at hf
   cases hf
 ·exact (toB_iff.2 (h.sound k hk hf)).symm
theorem FndT.one {n : Nat} {A : Mx} {i : Nat} (hi : i < n) : FndT n A i (updB (fun _ => false) i true) := by
 refine ⟨if_pos rfl, fun k hk h => ?_⟩
 unfold updB at h
 split at h
 ·rename_i e
  subst e
  exact .self hi
 ·cases h
theorem FndT.more {n : Nat} {A : Mx} {i : Nat} {f : Nat → Bool} (h : FndT n A i f) {a b : Nat} (ha : a < n) (hfa : f a = true) (hb : b < n) (hab : 0 < A a b) : FndT n A i (updB f b true) := by
 refine ⟨?_, fun k hk hf => ?_⟩
 ·unfold updB
  split
  ·rfl
  ·exact h.self
 ·unfold updB at hf
  split at hf
  ·rename_i e
   subst e
   exact .move (h.sound a ha hfa) hb hab
  ·exact h.sound k hk hf
theorem lay_bools : lay Tryz.prog 78 = some ⟨1, false, 24, [.nl]⟩ := by kernel_rfl
attribute [go_sem] Tryz.underlying96 lay_bools
def bll (n : Nat) (F : Nat → Nat → Bool) : List V := gl n fun j => .sl (bl n (F j))
def wr (h n i : Nat) (b : Bool) (F : Nat → Nat → Bool) : List V := gl n fun j => if j < i then .sl (bl n (F j)) else if j = i ∧ b = true then .own h 0 n 1 else .nl
theorem bll_length (n : Nat) (F : Nat → Nat → Bool) : (bll n F).length = n := gl_length ..
theorem bll_get {n i : Nat} (F : Nat → Nat → Bool) (h : i < n) : (bll n F).getD i .junk = .sl (bl n (F i)) := gl_get _ h
theorem wr_length (h n i : Nat) (b : Bool) (F : Nat → Nat → Bool) : (wr h n i b F).length = n := gl_length ..
theorem wr_zero (h n : Nat) (F : Nat → Nat → Bool) : List.replicate n V.nl = wr h n 0 false F := by
 rw [gl_rep]
 refine gl_congr fun i hi => ?_
 rw [if_neg (Nat.not_lt_zero _), if_neg (fun h => by cases h.2)]
theorem wr_open {h n i : Nat} (F : Nat → Nat → Bool) (hi : i < n) : (wr h n i false F).set i (.own h 0 n 1) = wr h n i true F := by
 unfold wr
 rw [gl_set _ _ hi]
 refine gl_congr fun j hj => ?_
 unfold updG
 by_cases e : j = i
 ·subst e
  rw [if_pos rfl, if_neg (Nat.lt_irrefl _), if_pos ⟨rfl, rfl⟩]
 ·rw [if_neg e]
  simp only [e, false_and, if_false]
theorem wr_get {h n i : Nat} (F : Nat → Nat → Bool) (hi : i < n) : (wr h n i true F).getD i .junk = .own h 0 n 1 := by
 unfold wr
 rw [gl_get _ hi, if_neg (Nat.lt_irrefl _), if_pos ⟨rfl, rfl⟩]
theorem wr_full (h n : Nat) (F : Nat → Nat → Bool) : wr h n n false F = bll n F := gl_congr fun j hj => if_pos hj
theorem lt_wr {h k n i : Nat} {b : Bool} {F : Nat → Nat → Bool} (hk : h < k) : V.ltL k (wr h n i b F) = true := ltL_gl fun j => by
 split
 ·simp only [V.lt]
 ·split
  ·simp only [V.lt, hk, decide_true]
  ·simp only [V.lt]
theorem renL_gl {f : Nat → Nat} {n : Nat} {G : Nat → V} (h : ∀ i, (G i).ren f = G i) : V.renL f (gl n G) = gl n G := by
 unfold gl
 generalize List.range n = l
 induction l with
 | nil => rfl
 | cons a l ih => simp only [List.map_cons, V.renL, ih, h a]
theorem ren_wr {g : Nat → Nat} {h n i : Nat} {b : Bool} {F : Nat → Nat → Bool} (hg : g h = h) : V.renL g (wr h n i b F) = wr h n i b F := renL_gl fun j => by
 split
 ·simp only [V.ren]
 ·split
  ·simp only [V.ren, hg]
  ·simp only [V.ren]
theorem ren_wr0 {g : Nat → Nat} {h n i : Nat} {F : Nat → Nat → Bool} : V.renL g (wr h n i false F) = wr h n i false F := renL_gl fun j => by
 simp only [Bool.false_eq_true, and_false, if_false]
 split <;> simp only [V.ren]
theorem lt_wr0 {h k n i : Nat} {F : Nat → Nat → Bool} : V.ltL k (wr h n i false F) = true := ltL_gl fun j => by
 simp only [Bool.false_eq_true, and_false, if_false]
 split <;> simp only [V.lt]
theorem okFrz_bl (n : Nat) (f : Nat → Bool) : okFrz 0 n 1 (bl n f) = true := by
 unfold okFrz
 have e : ((bl n f).drop 0).take (n * 1) = bl n f := by rw [List.drop_zero, Nat.mul_one]; exact List.take_of_length_le (by rw [bl_length]; exact Nat.le_refl _)
 rw [e, (bl_hf n f).1, (bl_hf n f).2, bl_length]
 simp
theorem chunks_bl (n : Nat) (f : Nat → Bool) : chunks 1 n (((bl n f).drop 0).take (n * 1)) = bl n f := by
 rw [chunks_one, List.drop_zero, Nat.mul_one]
 exact List.take_of_length_le (by rw [bl_length]; exact Nat.le_refl _)
theorem wr_fz {h n i : Nat} {f : Nat → Bool} {F : Nat → Nat → Bool} (hf : ∀ k, k < n → f k = F i k) : ∀ k, k < (wr h n (i + 1) false F).length → FzV h (bl n f) ((wr h n i true F).getD k .junk) ((wr h n (i + 1) false F).getD k .junk) := by
 intro k hk
 rw [wr_length] at hk
 unfold wr
 rw [gl_get _ hk, gl_get _ hk]
 by_cases h1 : k < i
 ·rw [if_pos h1, if_pos (by omega)]
  exact .same
 ·rw [if_neg h1]
  by_cases h2 : k = i
  ·subst h2
   rw [if_pos ⟨rfl, rfl⟩, if_pos (by omega), ← bl_congr hf]
   exact .own (okFrz_bl n f) (chunks_bl n f)
  ·rw [if_neg (fun h => h2 h.1), if_neg (by omega), if_neg (fun h => by cases h.2)]
   exact .same
theorem bll_hf (n : Nat) (F : Nat → Nat → Bool) : V.hfL (bll n F) = true ∧ (bll n F).all V.flat = true := hfL_map _ (fun j => ⟨by simp only [V.hf], rfl⟩) _
theorem Lift.Done.slW {P : Program} {st : St} {t : Tmp} {h n : Nat} {F : Nat → Nat → Bool} {T : TypeId} (h1 : lkp st.fr t = some (.own h 0 n 1)) (h2 : lkp st.hp h = some ⟨T, bll n F⟩) : Done P #[.tmp t] (.sl (bll n F)) [] st := by
 have e : List.take n (List.drop 0 (bll n F)) = bll n F := by rw [List.drop_zero]; exact List.take_of_length_le (by rw [bll_length]; exact Nat.le_refl _)
 refine Done.of (vs := [.own h 0 n 1]) (hp := dlt st.hp h) ?_ ?_ rfl ?_ ?_
 ·simp only [resVs, resV, h1]
 ·simp only [packV, frz, h2, List.not_mem_nil, if_false, Nat.mul_one, Nat.zero_add, bll_length, Nat.le_refl, e, (bll_hf n F).1, (bll_hf n F).2, and_self, if_true, Nat.lt_succ_self, Nat.zero_lt_one, true_and, chunks_one]
 ·simp only [V.lt]
 ·simp only [V.ren]
theorem leQ8 {g : Nat} {f : Nat → Nat} {st' st : St} (h1 : LeFr f st.fr st'.nx st'.fr := by simp only [ren_q, renL_u, ren_z, ren_bl, ren_il, renL_id, ren_id, ren_wr, ren_wr0, lt_q, ltL_u, lt_z, lt_bl, lt_il, lt_wr, lt_wr0, LeFr, LeHp, lkp, V.ren, V.renL, Row.ren, V.lt, V.ltL, renL_u, ltL_u, List.length_append, List.length_cons, List.length_nil, List.length_set, id_eq, Option.some.injEq, V.i.injEq, V.b.injEq, V.own.injEq, Row.mk.injEq, decide_true, decide_eq_true_eq, true_and, and_true, Bool.and_true, Bool.true_and, if_true, if_false, and_self, Nat.reduceLT, Nat.reduceLeDiff, Nat.reduceEqDiff, Nat.reduceAdd, Nat.reduceSub, Nat.reduceMul, Nat.reducePow, Nat.reduceBEq, Int.reduceLE, Int.reduceLT, Int.reduceToNat, Int.reduceEq, Int.reduceNeg, reduceIte, reduceCtorEq] <;> (first | done | trivial | (and_intros <;> first | trivial | omega | assumption)))
  (h2 : LeHp f st.hp st'.nx st'.hp := by simp only [ren_q, renL_u, ren_z, ren_bl, ren_il, renL_id, ren_id, ren_wr, ren_wr0, lt_q, ltL_u, lt_z, lt_bl, lt_il, lt_wr, lt_wr0, LeFr, LeHp, lkp, V.ren, V.renL, Row.ren, V.lt, V.ltL, renL_u, ltL_u, List.length_append, List.length_cons, List.length_nil, List.length_set, id_eq, Option.some.injEq, V.i.injEq, V.b.injEq, V.own.injEq, Row.mk.injEq, decide_true, decide_eq_true_eq, true_and, and_true, Bool.and_true, Bool.true_and, if_true, if_false, and_self, Nat.reduceLT, Nat.reduceLeDiff, Nat.reduceEqDiff, Nat.reduceAdd, Nat.reduceSub, Nat.reduceMul, Nat.reducePow, Nat.reduceBEq, Int.reduceLE, Int.reduceLT, Int.reduceToNat, Int.reduceEq, Int.reduceNeg, reduceIte, reduceCtorEq] <;> (first | done | trivial | (and_intros <;> first | trivial | omega | assumption)))
  (h3 : Apart f st'.hp := by simp [Apart]) (h4 : g ≤ st'.nx := by first | exact Nat.zero_le _ | simp) (h5 : ∀ n, n < g → f n = n := by intro n hn; first | rfl | exact absurd hn (Nat.not_lt_zero _) | (have h0 : n = 0 := Nat.lt_one_iff.1 hn; subst h0; rfl)) : Le g f st' st := ⟨h1, h2, h3, h4, h5⟩
theorem leQ8H {g : Nat} {f : Nat → Nat} {st' st : St} {H : Prop} (hh : H) (h1 : H → LeFr f st.fr st'.nx st'.fr := by intro hh; simp only [ren_q, renL_u, ren_z, ren_bl, ren_il, renL_id, ren_id, ren_wr, ren_wr0, lt_q, ltL_u, lt_z, lt_bl, lt_il, lt_wr, lt_wr0, LeFr, LeHp, lkp, V.ren, V.renL, Row.ren, V.lt, V.ltL, renL_u, ltL_u, List.length_append, List.length_cons, List.length_nil, List.length_set, id_eq, Option.some.injEq, V.i.injEq, V.b.injEq, V.own.injEq, Row.mk.injEq, decide_true, decide_eq_true_eq, true_and, and_true, Bool.and_true, Bool.true_and, if_true, if_false, and_self, Nat.reduceLT, Nat.reduceLeDiff, Nat.reduceEqDiff, Nat.reduceAdd, Nat.reduceSub, Nat.reduceMul, Nat.reducePow, Nat.reduceBEq, Int.reduceLE, Int.reduceLT, Int.reduceToNat, Int.reduceEq, Int.reduceNeg, reduceIte, reduceCtorEq] <;> (first | done | trivial | (and_intros <;> first | trivial | omega | rw [hh] | (simp only [hh]; done) | assumption)))
  (h2 : H → LeHp f st.hp st'.nx st'.hp := by intro hh; simp only [ren_q, renL_u, ren_z, ren_bl, ren_il, renL_id, ren_id, ren_wr, ren_wr0, lt_q, ltL_u, lt_z, lt_bl, lt_il, lt_wr, lt_wr0, LeFr, LeHp, lkp, V.ren, V.renL, Row.ren, V.lt, V.ltL, renL_u, ltL_u, List.length_append, List.length_cons, List.length_nil, List.length_set, id_eq, Option.some.injEq, V.i.injEq, V.b.injEq, V.own.injEq, Row.mk.injEq, decide_true, decide_eq_true_eq, true_and, and_true, Bool.and_true, Bool.true_and, if_true, if_false, and_self, Nat.reduceLT, Nat.reduceLeDiff, Nat.reduceEqDiff, Nat.reduceAdd, Nat.reduceSub, Nat.reduceMul, Nat.reducePow, Nat.reduceBEq, Int.reduceLE, Int.reduceLT, Int.reduceToNat, Int.reduceEq, Int.reduceNeg, reduceIte, reduceCtorEq] <;> (first | done | trivial | (and_intros <;> first | trivial | omega | rw [hh] | (simp only [hh]; done) | assumption)))
  (h3 : Apart f st'.hp := by simp [Apart]) (h4 : g ≤ st'.nx := by first | exact Nat.zero_le _ | simp) (h5 : ∀ n, n < g → f n = n := by intro n hn; first | rfl | exact absurd hn (Nat.not_lt_zero _) | (have h0 : n = 0 := Nat.lt_one_iff.1 hn; subst h0; rfl)) : Le g f st' st := ⟨h1 hh, h2 hh, h3, h4, h5⟩
theorem dnQ8 {P : Program} {rs : Array ResultVar} {vs : List V} {r v : V} {st : St} {hp : List (Nat × Row)} (h1 : resVs P st rs.toList = some vs := by simp (disch := omega) only [resVs, resV, go_sem, i64_of, u32_of, u64_of, Nat.reduceLT, Nat.reduceLeDiff, Nat.reduceEqDiff, Nat.reduceAdd, Nat.reduceSub, Nat.reduceMul, Nat.reducePow, Nat.reduceBEq, Int.reduceLE, Int.reduceLT, Int.reduceToNat, Int.reduceEq, Int.reduceNeg, reduceIte, reduceCtorEq]; rfl) (h2 : frz [] (packV vs) st.hp = some (v, hp) := by simp only [packV, frz, frzL]; rfl) (h : v = r := by rfl)
  (h3 : r.lt 0 = true := by simp only [V.lt, V.ltL, ltL_u, lt_q, ltL_u, lt_z, lt_bl, lt_il, lt_wr, lt_wr0]; first | done | rfl) (h4 : r.ren id = r := by simp only [V.ren, V.renL, renL_u, ren_q, renL_u, ren_z, ren_bl, ren_il, renL_id, ren_id, ren_wr, ren_wr0]; first | done | rfl) : Done P rs r [] st := Lift.Done.of h1 h2 h h3 h4
end Go.Proofs.YtepkjfnffbdcoaaGreat
