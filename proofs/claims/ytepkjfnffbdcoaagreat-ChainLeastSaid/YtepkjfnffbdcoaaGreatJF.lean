/- The reference's chains: Closed. -/
import Derived.Test.YtepkjfnffbdcoaaGreatJE
import Derived.Test.YtepkjfnffbdcoaaGreatHN
set_option linter.unusedVariables false
set_option maxRecDepth 20000
set_option linter.unusedSimpArgs false
namespace Go.Proofs.YtepkjfnffbdcoaaGreat
open Go Go.Proofs.YtepkjfnffbdcoaaGreat.Lift
attribute [local irreducible] Lift.PCall Lift.HCall
def clN (F : Nat → Nat → Bool) (r : Nat → Bool) (i : Nat) : Nat → Bool
 | 0 => !r i
 | k + 1 => if F i k = true then clN F r i k && F k i else clN F r i k
theorem clN_iff {F : Nat → Nat → Bool} {r : Nat → Bool} {i : Nat} (n : Nat) : clN F r i n = true ↔ r i = false ∧ ∀ k, k < n → F i k = true → F k i = true := by
 induction n with
 | zero => simp [clN]
 | succ n ih =>
  rw [clN]
  cases hf : F i n
  ·rw [if_neg Bool.false_ne_true, ih]
   refine ⟨fun h => ⟨h.1, fun k hk hfk => ?_⟩, fun h => ⟨h.1, fun k hk => h.2 k (by omega)⟩⟩
   by_cases e : k = n
   ·subst e; rw [hf] at hfk; cases hfk
   ·exact h.2 k (by omega) hfk
  ·rw [if_pos rfl, Bool.and_eq_true, ih]
   refine ⟨fun h => ⟨h.1.1, fun k hk hfk => ?_⟩, fun h => ⟨⟨h.1, fun k hk => h.2 k (by omega)⟩, h.2 n (by omega) hf⟩⟩
   by_cases e : k = n
   ·subst e; exact h.2
   ·exact h.1.2 k (by omega) hfk
theorem pick_head {n i : Nat} {f : Nat → Bool} (hi : i < n) (hf : f i = true) (h : ∀ k, k < i → f k = false) : (pick n f).getD 0 0 = i := by
 have e : pick i f = [] := by
  unfold pick
  rw [List.filter_eq_nil_iff]
  intro k hk
  rw [h k (by simpa using hk)]
  exact Bool.false_ne_true
 obtain ⟨h1, h2⟩ := pick_at hi hf
 rw [e] at h1 h2
 exact h2
theorem pick_headI {n i : Nat} {f : Nat → Bool} (h : (pick n f).getD 0 0 = i) {k : Nat} (hk : k < n) (hf : f k = true) : i ≤ k := by
 obtain ⟨h1, h2⟩ := pick_at hk hf
 by_cases e : (pick k f).length = 0
 ·rw [e] at h2
  omega
 ·obtain ⟨g1, g2, g3⟩ := pick_get (n := n) (f := f) (i := 0) (by omega)
  rw [h] at g1 g2 g3
  apply Classical.byContradiction
  intro hlt
  have hlt : k < i := by omega
  obtain ⟨h3, h4⟩ := pick_at hlt hf
  rw [g3] at h3
  omega
theorem okN_clN {n m : Nat} {A B : Mx} {i : Nat} (hi : i < n) : okN (toB n A) (rchB n m A B) i n = (clN (toB n A) (rchB n m A B) i n && decide ((pick n (toB n A i)).getD 0 0 = i)) := by
 have hself : toB n A i i = true := toB_iff.2 (.self hi)
 have key : okN (toB n A) (rchB n m A B) i n = true ↔ (clN (toB n A) (rchB n m A B) i n && decide ((pick n (toB n A i)).getD 0 0 = i)) = true := by
  rw [okN_iff, Bool.and_eq_true, clN_iff, decide_eq_true_eq]
  constructor
  ·intro h
   refine ⟨⟨(h i hi hself).2.1, fun k hk hf => (h k hk hf).1⟩, pick_head hi hself fun k hk => ?_⟩
   cases hf : toB n A i k
   ·rfl
   ·have := (h k (by omega) hf).2.2
    omega
  ·rintro ⟨⟨h1, h2⟩, h3⟩ k hk hf
   refine ⟨h2 k hk hf, ?_, pick_headI h3 hk hf⟩
   cases hr : rchB n m A B k
   ·rfl
   ·rw [rchB_iff.2 (Chn.Rch.from (toB_iff.1 hf) (rchB_iff.1 hr) hi)] at h1
    cases h1
 cases h1 : okN (toB n A) (rchB n m A B) i n
 ·cases h2 : clN (toB n A) (rchB n m A B) i n && decide ((pick n (toB n A i)).getD 0 0 = i)
  ·rfl
  ·rw [key.2 h2] at h1; cases h1
 ·exact (key.1 h1).symm
set_option maxHeartbeats 4000000 in
theorem rclosed_not (c : V) (R1 C1 R2 C2 : Int) (x y : List V) (hc : c = .agg [.i .i64 R1, .i .i64 C1, .sl x, .i .i64 R2, .i .i64 C2, .sl y]) (hr : PCall Tryz.prog 42 [c] (.b false) []) : PCall Tryz.prog 28 [c] (.sl []) [] := by
 subst hc
 refine PCall.of_ax Tryz.call28 Tryz.func28 rfl (by simp [Tryz.ntmps28]) fun O w => ?_
 simp only [Tryz.ntmps28, Tryz.results28, argFr]
 refine AX.sR (rgAV [1]) ?_
 refine AX.seq ?_
 refine AX.sR (rgCV [1, 12] (aI hr oT)) ?_
 refine AX.condT ?_
 refine AX.sR (rgAV [2]) ?_
 refine AX.ret ⟨.inl rfl, ?_⟩
 exact dnQ9
set_option maxHeartbeats 16000000 in
theorem rclosed_ok (n m L : Nat) (hn : n ≤ 60) (hm : m ≤ 60) (A B : Mx) (hC : isC n m A B = true) (hA : ∀ i k, i < n → k < n → rL (A i k) ≤ L) (hB : ∀ i k, i < n → k < m → rL (B i k) ≤ L) (hL1 : 1 ≤ L) (hL : 120 * (L + 1) + 1 < 2 ^ 33) : PCall Tryz.prog 28 [cV n m A B] (.sl (sll (closedL n m A B))) [] := by
 have cr := r20right_ok n m L hn hm A B hA hB hL1 hL
 rw [hC] at cr
 have c1 := rreach_ok n m L hn A B hA (by omega)
 have c2 := rreaches_ok n m L hn hm A B hC hA hB hL1 hL
 have hself : ∀ i, i < n → toB n A i i = true := fun i hi => toB_iff.2 (.self hi)
 have hokc := fun i (hi : i < n) => okN_clN (n := n) (m := m) (A := A) (B := B) hi
 obtain ⟨F, hF⟩ : ∃ F, toB n A = F := ⟨_, rfl⟩
 obtain ⟨r, hr⟩ : ∃ r, rchB n m A B = r := ⟨_, rfl⟩
 unfold closedL
 rw [hF] at c1 hself hokc ⊢
 rw [hr] at c2 hokc ⊢
 have hlF := bll_length n F
 have hgF := fun i (hi : i < n) => bll_get F hi
 have hlr := bl_length n r
 have hgr := fun i (hi : i < n) => bl_get r hi
 have hlen : ∀ i, i ≤ n → (shutL n F r i).length ≤ i := by
  intro i
  induction i with
  | zero => intro _; exact Nat.le_refl _
  | succ i ih =>
   intro hi
   have := ih (by omega)
   unfold shutL
   split
   ·rw [List.length_append, List.length_singleton]
    omega
   ·omega
 clear hA hB hF hr
 generalize bll n F = Fw at *
 generalize bl n r = rw' at *
 unfold cV at *
 generalize (mcells n A (n * n)).map rV = Ac at *
 generalize (mcells m B (n * m)).map rV = Bc at *
 refine PCall.of_ax Tryz.call28 Tryz.func28 rfl (by simp [Tryz.ntmps28]) fun O w => ?_
 simp only [Tryz.ntmps28, Tryz.results28, argFr]
 refine AX.sR (rgAV [1]) ?_
 refine AX.seq ?_
 refine AX.sR (rgCV [1, 12] (aI cr oT)) ?_
 refine AX.condF ?_
 refine AX.keepA [1] ?_
 refine AX.skip ?_
 refine nmZ ?_
 refine AX.sD (rgDCV [3, 4] (aI c1 (aI c2 oT))) ?_
 refine AX.sR (rgAV [3, 4, 5]) ?_
 refine AX.own0 5 58 1 rfl ?_
 refine AX.seq ?_
 refine AX.sR (rgWV [3, 4, 5, 18, 19] (aI @hlF oT) oT) ?_
 refine AX.weaken (fun n => if n = 0 then 1 else n) (st' := ⟨[(19, .i .i64 (0 : Nat)), (18, .i .i64 n), (5, .own 0 0 (shutL n F r 0).length 1), (4, .sl rw'), (3, .sl Fw)], [(0, ⟨58, sll (shutL n F r 0)⟩)], 1⟩)
  leQ9
  ?_
 refine AX.block ?_
 refine AX.loop (fun N st => ∃ (i : Nat) (L : List (List Nat)), i ≤ n ∧ N = n - i ∧ shutL n F r i = L ∧ st = ⟨[(19, .i .i64 i), (18, .i .i64 n), (5, .own 0 0 L.length 1), (4, .sl rw'), (3, .sl Fw)], [(0, ⟨58, sll L⟩)], 1⟩) n ⟨0, _, Nat.zero_le _, rfl, rfl, rfl⟩ ?_
 rintro N st ⟨i, L, hi, rfl, hL, rfl⟩
 have hLl : L.length ≤ i := hL ▸ hlen i hi
 by_cases h1 : i < n
 ·have hgi := hgF i h1
  have hri := hgr i h1
  have hsf := hself i h1
  have hok := hokc i h1
  have hno : okN F r i n = false → shutL n F r (i + 1) = L := fun h => by
   rw [shutL, if_neg (by rw [h]; exact Bool.false_ne_true), hL]
  have hyes : okN F r i n = true → shutL n F r (i + 1) = L ++ [pick n (F i)] := fun h => by
   rw [shutL, if_pos h, hL]
  have hc0 : clN F r i 0 = !r i := rfl
  clear hlen hL c1 c2 cr hself hokc
  refine AX.sR (rgAV [3, 4, 5, 18, 19, 20]) ?_
  refine AX.seq ?_
  refine AX.condT ?_
  refine AX.keepA [3, 4, 5, 18, 19] ?_
  refine AX.skip ?_
  refine nmZ ?_
  refine AX.seq ?_
  refine AX.block ?_
  refine AX.sR (rgAV [3, 4, 5, 6, 18, 19]) ?_
  refine AX.sR (rgAV [3, 4, 5, 6, 7, 18, 19]) ?_
  refine AX.own0 7 3 1 rfl ?_
  refine AX.sR (rgWV [3, 4, 5, 6, 7, 8, 18, 19] (aI @hlr (aI @hri oT)) oT) ?_
  refine AX.cut (fun st => ∃ s, pick n (F i) = s ∧ Le 0 id ⟨[(19, .i .i64 i), (18, .i .i64 n), (8, .b (clN F r i n)), (7, .own 1 0 s.length 1), (6, .i .i64 i), (5, .own 0 0 L.length 1), (4, .sl rw'), (3, .sl Fw)], [(1, ⟨3, il s⟩), (0, ⟨58, sll L⟩)], 2⟩ st) ?_ ?_
  ·refine AX.sR (rgWV [3, 4, 5, 6, 7, 8, 18, 19, 28, 29] (aI @hlF oT) oT) ?_
   refine AX.weaken id (st' := ⟨[(29, .i .i64 (0 : Nat)), (28, .i .i64 n), (19, .i .i64 i), (18, .i .i64 n), (8, .b (clN F r i 0)), (7, .own 1 0 (pick 0 (F i)).length 1), (6, .i .i64 i), (5, .own 0 0 L.length 1), (4, .sl rw'), (3, .sl Fw)], [(1, ⟨3, il (pick 0 (F i))⟩), (0, ⟨58, sll L⟩)], 2⟩)
    (leQ9H hc0)
    ?_
   refine AX.block ?_
   refine AX.loop (fun N st => ∃ (k : Nat) (s : List Nat) (c : Bool), k ≤ n ∧ N = n - k ∧ pick k (F i) = s ∧ clN F r i k = c ∧ st = ⟨[(29, .i .i64 k), (28, .i .i64 n), (19, .i .i64 i), (18, .i .i64 n), (8, .b c), (7, .own 1 0 s.length 1), (6, .i .i64 i), (5, .own 0 0 L.length 1), (4, .sl rw'), (3, .sl Fw)], [(1, ⟨3, il s⟩), (0, ⟨58, sll L⟩)], 2⟩) n ⟨0, _, _, Nat.zero_le _, rfl, rfl, rfl, rfl⟩ ?_
   rintro N st ⟨k, s, c, hk, rfl, hs, hc, rfl⟩
   have hsl := il_length s
   have hsb : s.length ≤ 60 := by
    have := pick_le k (F i)
    rw [hs] at this
    omega
   by_cases h2 : k < n
   ·have hb := bl_get (F i) h2
    have hbl := bl_length n (F i)
    have hgk := hgF k h2
    have hbk := bl_get (F k) h1
    have hbkl := bl_length n (F k)
    have hps := pick_succ k (F i)
    have hcs : clN F r i (k + 1) = if F i k = true then clN F r i k && F k i else clN F r i k := rfl
    rw [hs] at hps
    rw [hc] at hcs
    clear hgF hgr hno hyes hok
    generalize bl n (F i) = Bi at *
    generalize bl n (F k) = Bk at *
    refine AX.sR (rgAV [3, 4, 5, 6, 7, 8, 18, 19, 28, 29, 30]) ?_
    refine AX.seq ?_
    refine AX.condT ?_
    refine AX.keepA [3, 4, 5, 6, 7, 8, 18, 19, 28, 29] ?_
    refine AX.skip ?_
    refine nmZ ?_
    refine AX.seq ?_
    refine AX.block ?_
    refine AX.sR (rgAV [3, 4, 5, 6, 7, 8, 9, 18, 19, 28, 29]) ?_
    cases hf : F i k
    ·rw [hf] at hb hps hcs
     rw [if_neg Bool.false_ne_true] at hps hcs
     refine AX.sR (rgWV [3, 4, 5, 6, 7, 8, 9, 18, 19, 28, 29, 38] (aI @hlF (aI @hgi (aI @hbl (aI @hb oT)))) oT) ?_
     refine AX.condF ?_
     refine AX.keepA [3, 4, 5, 6, 7, 8, 18, 19, 28, 29] ?_
     refine AX.skip ?_
     refine nmZ ?_
     refine AX.rR (rgWV [3, 4, 5, 6, 7, 8, 18, 19, 28, 29] (aI @lit_add oT) oT) ?_
     refine nmZ ?_
     refine ⟨_, _, id, ?_,
      leQ9
      , ⟨k + 1, s, c, by omega, rfl, hps, hcs, rfl⟩⟩
     omega
    ·rw [hf] at hb hps hcs
     rw [if_pos rfl] at hps hcs
     have happ := il_app s k
     have hlen : (s ++ [k]).length = s.length + 1 := by simp
     generalize s ++ [k] = s2 at *
     refine AX.sR (rgWV [3, 4, 5, 6, 7, 8, 9, 18, 19, 28, 29, 38] (aI @hlF (aI @hgi (aI @hbl (aI @hb oT)))) oT) ?_
     refine AX.condT ?_
     refine AX.sR (rgWV [3, 4, 5, 6, 7, 8, 9, 18, 19, 28, 29] (aI @hsl (aI @zerosV_1 (aI @tkS (aI @tk0 oT)))) oT) ?_
     rw [happ]
     cases c
     ·have hcs : clN F r i (k + 1) = false := hcs
      refine AX.rR (rgWV [3, 4, 5, 6, 7, 8, 18, 19, 28, 29] (aI @hlF (aI @hgk (aI @hbkl (aI @hbk oT)))) oT) ?_
      refine nmZ ?_
      refine AX.rR (rgWV [3, 4, 5, 6, 7, 8, 18, 19, 28, 29] (aI @lit_add oT) oT) ?_
      refine nmZ ?_
      refine ⟨_, _, fun n => if n = 1 then 3 else n, ?_,
       (leQ9H hlen)
       , ⟨k + 1, s2, false, by omega, rfl, hps, hcs, rfl⟩⟩
      omega
     ·have hcs : clN F r i (k + 1) = F k i := hcs
      generalize F k i = d at *
      refine AX.rR (rgWV [3, 4, 5, 6, 7, 8, 18, 19, 28, 29] (aI @hlF (aI @hgk (aI @hbkl (aI @hbk oT)))) oT) ?_
      refine nmZ ?_
      refine AX.rR (rgWV [3, 4, 5, 6, 7, 8, 18, 19, 28, 29] (aI @lit_add oT) oT) ?_
      refine nmZ ?_
      refine ⟨_, _, fun n => if n = 1 then 3 else n, ?_,
       (leQ9H hlen)
       , ⟨k + 1, s2, d, by omega, rfl, hps, hcs, rfl⟩⟩
      omega
   ·have e : k = n := by omega
    subst e
    rw [← hc]
    refine AX.sR (rgAV [3, 4, 5, 6, 7, 8, 18, 19, 28, 29, 30]) ?_
    refine AX.seq ?_
    refine AX.condF ?_
    refine AX.exit ?_
    refine nmZ ?_
    exact ⟨by first | exact trivial | rfl, s, hs,
     leQ9
     ⟩
  ·rintro st ⟨s, hs, hle⟩
   refine AX.weaken id hle ?_
   have hsl := il_length s
   have hsb : 0 < s.length ∧ s.length ≤ 60 := by
    have g1 := pick_le n (F i)
    have g2 := (pick_at h1 hsf).1
    rw [hs] at g1 g2
    omega
   have hg0 : (il s).getD 0 .junk = .i .i64 ((s.getD 0 0 : Nat) : Int) := il_get hsb.1
   rw [hs] at hyes hok
   cases hcl : clN F r i n
   ·rw [hcl] at hok
    have hnx := hno hok
    refine AX.sR (rgAV [3, 4, 5, 7, 18, 19, 61]) ?_
    refine AX.condF ?_
    refine AX.keepA [3, 4, 5, 18, 19] ?_
    refine AX.skip ?_
    refine nmZ ?_
    refine AX.rR (rgWV [3, 4, 5, 18, 19] (aI @lit_add oT) oT) ?_
    refine nmZ ?_
    refine ⟨_, _, id, ?_,
     leQ9
     , ⟨i + 1, L, by omega, rfl, hnx, rfl⟩⟩
    omega
   ·rw [hcl] at hok
    by_cases he : s.getD 0 0 = i
    ·rw [decide_eq_true he] at hok
     have hnx := hyes hok
     have hfz := sll_fz (h := 1) L s
     have hlen : (L ++ [s]).length = L.length + 1 := by simp
     have hsllL := sll_length L
     have hsl2 : (sll (L ++ [s])).length = (sll L ++ [V.own 1 0 s.length 1]).length := by rw [sll_length, hlen, List.length_append, sll_length]; rfl
     rw [he] at hg0
     clear hgF hgr hno hyes hok
     refine AX.sR (rgWV [3, 4, 5, 7, 18, 19, 61] (aI @hsl (aI @hg0 oT)) oT) ?_
     refine AX.condT ?_
     refine AX.rR (rgWV [3, 4, 5, 18, 19] (aI @hsllL (aI @zerosV_1 (aI @tkS (aI @tk0 oT)))) oT) ?_
     refine nmZ ?_
     refine AX.fz 1 (fr' := [(19, .i .i64 i), (18, .i .i64 n), (5, .own 3 0 (L.length + 1) 1), (4, .sl rw'), (3, .sl Fw)]) (hp' := [(3, ⟨58, sll (L ++ [s])⟩)]) rfl (il_hf s).1 (.cons rfl .same (.cons rfl .same (.cons rfl .same (.cons rfl .same (.cons rfl .same .nil))))) (.cons (by decide) rfl rfl hsl2 hfz .nil) ?_
     clear hfz hsl2
     generalize L ++ [s] = L2 at *
     refine AX.rR (rgWV [3, 4, 5, 18, 19] (aI @lit_add oT) oT) ?_
     refine nmZ ?_
     refine ⟨_, _, fun n => if n = 0 then 3 else n, ?_,
      (leQ9H hlen)
      , ⟨i + 1, L2, by omega, rfl, hnx, rfl⟩⟩
     omega
    ·rw [decide_eq_false he] at hok
     have hnx := hno hok
     have he' : ¬ ((s.getD 0 0 : Nat) : Int) = (i : Int) := by omega
     clear hgF hgr hno hyes hok
     generalize s.getD 0 0 = d at *
     refine AX.sR (rgWV [3, 4, 5, 7, 18, 19, 61] (aI @hsl (aI @hg0 (aI @he' oT))) oT) ?_
     refine AX.condF ?_
     refine AX.keepA [3, 4, 5, 18, 19] ?_
     refine AX.skip ?_
     refine nmZ ?_
     refine AX.rR (rgWV [3, 4, 5, 18, 19] (aI @lit_add oT) oT) ?_
     refine nmZ ?_
     refine ⟨_, _, id, ?_,
      leQ9
      , ⟨i + 1, L, by omega, rfl, hnx, rfl⟩⟩
     omega
 ·have e : i = n := by omega
  subst e
  rw [hL]
  refine AX.sR (rgAV [3, 4, 5, 18, 19, 20]) ?_
  refine AX.seq ?_
  refine AX.condF ?_
  refine AX.exit ?_
  refine nmZ ?_
  refine AX.sR (rgAV [2]) ?_
  refine AX.ret ⟨.inl rfl, ?_⟩
  exact Done.slS rfl rfl rfl
end Go.Proofs.YtepkjfnffbdcoaaGreat
/- Statements about chains: ChainReaches. -/
set_option linter.unusedVariables false
set_option linter.unusedSimpArgs false
namespace Go.Proofs.YtepkjfnffbdcoaaGreat
open Go Go.Proofs.YtepkjfnffbdcoaaGreat.Lift
attribute [local irreducible] Lift.PCall Lift.HCall
def Meet (c : V) : Prop := ∃ (p : Nat) (f : Nat → Bool) (L : List (List Nat)), p ≤ 60 ∧ L.length < 2 ^ 40 ∧ (∀ l ∈ L, l.length < 2 ^ 40) ∧
 PCall Tryz.prog 50 [c] (.sl (bl p f)) [] ∧ PCall Tryz.prog 51 [c] (.sl (bl p f)) [] ∧ PCall Tryz.prog 49 [c] (.sl (sll L)) [] ∧ PCall Tryz.prog 28 [c] (.sl (sll L)) []
theorem shutL_len {n : Nat} {F : Nat → Nat → Bool} {r : Nat → Bool} (i : Nat) : (shutL n F r i).length ≤ i ∧ ∀ l ∈ shutL n F r i, l.length ≤ n := by
 induction i with
 | zero => exact ⟨Nat.le_refl _, fun l h => nomatch h⟩
 | succ i ih =>
  unfold shutL
  split
  ·refine ⟨by rw [List.length_append, List.length_singleton]; omega, fun l h => ?_⟩
   rcases List.mem_append.1 h with h | h
   ·exact ih.2 l h
   ·rw [List.mem_singleton.1 h]
    exact pick_le _ _
  ·exact ⟨by omega, ih.2⟩
theorem Few.meet {c : V} (h : Few c) : Meet c := by
 cases h with
 | shape R1 C1 R2 C2 xs ys h1 h2 h3 h4 hx hy lx ly hno =>
  have c1 := cright_not R1 C1 R2 C2 xs ys h1 h2 h3 h4 hx hy (by omega) (by omega) hno
  have c2 := r20right_not R1 C1 R2 C2 xs ys h1 h2 h3 h4 hx hy (by omega) (by omega) hno
  exact ⟨0, fun _ => false, [], by decide, by decide, (fun l h => nomatch h), creaches_not _ R1 C1 R2 C2 _ _ rfl c1, rreaches_not _ R1 C1 R2 C2 _ _ rfl c2, cclosed_not _ R1 C1 R2 C2 _ _ rfl c1, rclosed_not _ R1 C1 R2 C2 _ _ rfl c2⟩
 | rows n m A B hn hm hA hB hC =>
  have c1 := cright_ok n m 3 hn hm A B hA hB (by decide) (by decide)
  have c2 := r20right_ok n m 3 hn hm A B hA hB (by decide) (by decide)
  rw [hC] at c1 c2
  exact ⟨0, fun _ => false, [], by decide, by decide, (fun l h => nomatch h), creaches_not _ n n n m _ _ rfl c1, rreaches_not _ n n n m _ _ rfl c2, cclosed_not _ n n n m _ _ rfl c1, rclosed_not _ n n n m _ _ rfl c2⟩
 | ok n m A B hn hm hA hB hC =>
  have c1 := cright_ok n m 38 (by omega) (by omega) A B hA hB (by decide) (by decide)
  rw [hC] at c1
  have hs := shutL_len (n := n) (F := toB n A) (r := rchB n m A B) n
  exact ⟨n, _, closedL n m A B, by omega, by have := hs.1; unfold closedL; omega, (fun l h => by have := hs.2 l h; omega), creaches_ok _ n n n m _ _ _ rfl c1 (reaches_ok n m 38 (by omega) (by omega) A B hC), rreaches_ok n m 38 (by omega) (by omega) A B hC hA hB (by decide) (by decide),
   cclosed_ok n m 38 (by omega) (by omega) A B hC hA hB (by decide) (by decide), rclosed_ok n m 38 (by omega) (by omega) A B hC hA hB (by decide) (by decide)⟩
end Go.Proofs.YtepkjfnffbdcoaaGreat
