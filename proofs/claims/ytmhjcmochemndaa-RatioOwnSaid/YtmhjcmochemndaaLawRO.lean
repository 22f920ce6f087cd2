/- The law RatioOwn. -/
import Derived.Test.YtmhjcmochemndaaRatO3
import Derived.Test.YtmhjcmochemndaaGT
import Derived.Test.YtmhjcmochemndaaLiftR
set_option linter.unusedVariables false
set_option linter.unusedSimpArgs false
namespace Go.Proofs.Ytmhjcmochemndaa
open Go Go.Proofs.Ytmhjcmochemndaa.Lift
attribute [local irreducible] Lift.PCall Lift.HCall
theorem flatRO (h o n E : Nat) : V.flat (.own h o n E) = true := rfl
attribute [go_sem] List.set_cons_zero List.set_cons_succ flatRO
theorem build9 (s0 s1 s2 s3 s4 s5 s6 s7 s8 : Bool) (k0 k1 k2 k3 k4 k5 k6 k7 k8 l0 l1 l2 l3 l4 l5 l6 l7 l8 n0 n1 n2 n3 n4 n5 n6 n7 n8 m0 m1 m2 m3 m4 m5 m6 m7 m8 : Nat) : eff Try.prog (.buildSlice 41 9 #[(0, .tmp 55), (1, .tmp 56), (2, .tmp 59), (3, .tmp 62), (4, .tmp 64), (5, .tmp 67), (6, .tmp 70), (7, .tmp 71), (8, .tmp 72)]) [.agg [.b s0, .own k0 0 n0 1, .own l0 0 m0 1], .agg [.b s1, .own k1 0 n1 1, .own l1 0 m1 1], .agg [.b s2, .own k2 0 n2 1, .own l2 0 m2 1], .agg [.b s3, .own k3 0 n3 1, .own l3 0 m3 1], .agg [.b s4, .own k4 0 n4 1, .own l4 0 m4 1], .agg [.b s5, .own k5 0 n5 1, .own l5 0 m5 1], .agg [.b s6, .own k6 0 n6 1, .own l6 0 m6 1], .agg [.b s7, .own k7 0 n7 1, .own l7 0 m7 1], .agg [.b s8, .own k8 0 n8 1, .own l8 0 m8 1]] = some (.new ⟨25, [.b s0, .own k0 0 n0 1, .own l0 0 m0 1, .b s1, .own k1 0 n1 1, .own l1 0 m1 1, .b s2, .own k2 0 n2 1, .own l2 0 m2 1, .b s3, .own k3 0 n3 1, .own l3 0 m3 1, .b s4, .own k4 0 n4 1, .own l4 0 m4 1, .b s5, .own k5 0 n5 1, .own l5 0 m5 1, .b s6, .own k6 0 n6 1, .own l6 0 m6 1, .b s7, .own k7 0 n7 1, .own l7 0 m7 1, .b s8, .own k8 0 n8 1, .own l8 0 m8 1]⟩ fun n => .own n 0 9 3) := by kernel_rfl
theorem okFrz_ro (l : List Nat) : okFrz 0 l.length 1 (l.map u) = true := by
 unfold okFrz
 have h : ((l.map u).drop 0).take (l.length * 1) = l.map u := by rw [List.drop_zero, Nat.mul_one]; exact List.take_of_length_le (by simp)
 rw [h]
 have h2 : (l.map u).all V.flat = true := by rw [List.all_eq_true]; intro v hv; obtain ⟨x, _, rfl⟩ := List.mem_map.1 hv; rfl
 simp [h2, hfL_u]
theorem chunks_ro (l : List Nat) : chunks 1 l.length (((l.map u).drop 0).take (l.length * 1)) = l.map u := by
 rw [List.drop_zero, Nat.mul_one, chunks_one]
 exact List.take_of_length_le (by simp)
theorem fz_ro1 (h k : Nat) (s : Bool) (a b : List Nat) : ∀ j, j < [V.b s, dg a, .own k 0 b.length 1].length → FzV h (a.map u) ([V.b s, .own h 0 a.length 1, .own k 0 b.length 1].getD j .junk) ([V.b s, dg a, .own k 0 b.length 1].getD j .junk)
 | 0, _ => .same
 | 1, _ => .own (okFrz_ro a) (chunks_ro a)
 | 2, _ => .same
 | k + 3, hk => absurd hk (by simp)
theorem fz_ro2 (h : Nat) (s : Bool) (a b : List Nat) : ∀ j, j < [V.b s, dg a, dg b].length → FzV h (b.map u) ([V.b s, dg a, .own h 0 b.length 1].getD j .junk) ([V.b s, dg a, dg b].getD j .junk)
 | 0, _ => .same
 | 1, _ => .same
 | 2, _ => .own (okFrz_ro b) (chunks_ro b)
 | k + 3, hk => absurd hk (by simp)
def okClashR (ms : List Nat) (infos : List Info) : Bool :=
 (List.range infos.length).all fun j => (List.range j).all fun i => match infos[i]?, infos[j]? with
  | some a, some b => (ms.getD j 0).testBit i || !(clash a b)
  | _, _ => true
theorem okDrawR {ops : Array Oper} {infos : List Info} {nx0 nxN : Nat} (h : (okMasks (Region.before ops).toList 0 ops.toList && okClashR (Region.before ops).toList infos && okNames nx0 nxN infos) = true) : okDraw ops infos nx0 nxN = true := by
 have e : okClashR (Region.before ops).toList infos = okClash (Region.before ops).toList infos := by
  unfold okClashR okClash
  congr 1
  funext j
  congr 1
  funext i
  cases infos[i]? <;> cases infos[j]? <;> first | rfl | exact Bool.or_comm _ _
 rw [e] at h
 exact h
theorem lsame_self' (s : Bool) (a b : List Nat) (ha : a.length < 2 ^ 40) (hb : b.length < 2 ^ 40) : PCall Try.prog 21 [rR s a b, rR s a b] (.b true) [] := by
 have := lsame_ok s s a b a b ha hb ha hb
 have e : decide (s = s ∧ a = a ∧ b = b) = true := decide_eq_true (And.intro rfl (And.intro rfl rfl))
 rw [e] at this
 exact this
def fG (G : Nat → List Nat) (j : Nat) : Row := ⟨49, (G j).map u⟩
def upG (G : Nat → List Nat) (a : Nat) (X : List Nat) (j : Nat) : List Nat := if j = a then X else G j
theorem fG_lk {G : Nat → List Nat} {p a : Nat} (hp : 5 + a = p) (ha : a < 18) : lkp (fam 5 18 (fG G)) p = some ⟨49, (G a).map u⟩ := by
 subst hp
 exact lkp_fam _ ha
theorem fG_set {G : Nat → List Nat} {p a : Nat} (hp : 5 + a = p) (ha : a < 18) (X : List Nat) : setL (fam 5 18 (fG G)) p ⟨49, X.map u⟩ = fam 5 18 (fG (upG G a X)) := by
 subst hp
 rw [setL_fam _ _ ha]
 refine fam_congr fun b hb => ?_
 unfold updR fG upG
 by_cases e : b = a
 ·rw [if_pos e, if_pos e]
 ·rw [if_neg e, if_neg e]
theorem fG_ren (f : Nat → Nat) (G : Nat → List Nat) (a : Nat) : (fG G a).ren f = fG G a := by simp only [fG, Row.ren, renL_u]
def roF (n : Nat) : Nat := [0, 1, 5, 8, 30, 9, 10, 12, 13, 15, 16, 17, 18, 19, 20, 21, 22, 24, 25, 26, 27, 28, 29].getD n 0
theorem roF_inj : ∀ a, a < 23 → ∀ b, b < 23 → roF a = roF b → a = b := by decide
theorem leG {g : Nat} {st : St} {fr' : List (Nat × V)} {q0 q1 q2 q3 q4 : Row} {G : Nat → List Nat} (h : Le 0 id ⟨fr', [(4, q4), (3, q3), (2, q2), (1, q1), (0, q0)], 23⟩ st) (hg : g = 0)
  (h3 : ∀ a, a < 18 → lkp st.hp (5 + a) = some (fG G a)) : Le g id ⟨fr', (4, q4) :: (3, q3) :: (2, q2) :: (1, q1) :: (0, q0) :: fam 5 18 (fG G), 23⟩ st := by
 subst hg
 refine leF (pre := [(4, q4), (3, q3), (2, q2), (1, q1), (0, q0)]) h.fr h.hp (fun a ha => ⟨by omega, ?_, ltL_u _ _⟩) (fun p _ q _ e => e) (Nat.zero_le _) (fun _ _ => rfl)
 rw [fG_ren]
 exact h3 a ha
theorem fG_at {G : Nat → List Nat} {q0 q1 q2 q3 q4 : Row} (a : Nat) (ha : a < 18) : lkp ((4, q4) :: (3, q3) :: (2, q2) :: (1, q1) :: (0, q0) :: fam 5 18 (fG G)) (5 + a) = some (fG G a) := by
 rw [lkp_ne (by omega), lkp_ne (by omega), lkp_ne (by omega), lkp_ne (by omega), lkp_ne (by omega)]
 exact lkp_fam _ ha
def xrR (x : Nat) : Nat := (BitVec.ofInt 32 (x : Int) ^^^ BitVec.ofInt 32 1431655765).toNat
theorem xrR_lt (x : Nat) : xrR x < 4294967296 := BitVec.isLt _
theorem xrR_eq (x : Nat) : xorI .u32 (x : Int) 1431655765 = ((xrR x : Nat) : Int) := rfl
theorem bG {G : Nat → List Nat} {n : Nat → Nat} {a k z : Nat} (h : ∀ j, j < 18 → n j ≤ (G j).length ∧ (G j).length < 2 ^ 40) : ∀ j, j < 18 → n j ≤ (upG G a ((G a).set k z) j).length ∧ (upG G a ((G a).set k z) j).length < 2 ^ 40 := fun j hj => by
 unfold upG
 split
 ·rename_i e
  subst e
  rw [List.length_set]
  exact h j hj
 ·exact h j hj
theorem pneR {p : Nat} (h1 : 5 ≤ p) : (((p = 0) = False) ∧ ((p = 1) = False) ∧ ((p = 2) = False) ∧ ((p = 3) = False) ∧ ((p = 4) = False)) ∧ (((0 = p) = False) ∧ ((1 = p) = False) ∧ ((2 = p) = False) ∧ ((3 = p) = False) ∧ ((4 = p) = False)) := by
 simp only [eq_iff_iff, iff_false]
 omega
set_option maxRecDepth 20000 in
set_option maxHeartbeats 16000000 in
theorem ratioOwn_core (s t : Bool) (a b c d : List Nat) (la : a.length < 2 ^ 40) (lb : b.length < 2 ^ 40) (lc : c.length < 2 ^ 40) (ld : d.length < 2 ^ 40) (S : Nat → Bool) (n : Nat → Nat) (Z : Nat → List Nat) (hn : ∀ j, j < 18 → n j ≤ (Z j).length ∧ (Z j).length < 2 ^ 40) (e1 e2 : Int)
  (cf : PCall Try.prog 13 [.i .i64 12, .sl [rR s a b, rR t c d]] (.b true) [])
  (cq : PCall Try.prog 34 [rR s a b, rR t c d] (.tup [.agg [.b (S 0), .own 0 0 (n 0) 1, .own 1 0 (n 1) 1], .i .i64 e1]) [⟨49, (Z 0).map u⟩, ⟨49, (Z 1).map u⟩])
  (co : PCall Try.prog 15 [.b s, dg a, dg b] (.tup [.agg [.b (S 1), .own 0 0 (n 2) 1, .own 1 0 (n 3) 1], .i .i64 e2]) [⟨49, (Z 2).map u⟩, ⟨49, (Z 3).map u⟩])
  (ca : PCall Try.prog 38 [rR s a b, rR t c d] (.agg [.b (S 2), .own 0 0 (n 4) 1, .own 1 0 (n 5) 1]) [⟨49, (Z 4).map u⟩, ⟨49, (Z 5).map u⟩])
  (cm : PCall Try.prog 42 [rR s a b, rR t c d] (.agg [.b (S 3), .own 0 0 (n 6) 1, .own 1 0 (n 7) 1]) [⟨49, (Z 6).map u⟩, ⟨49, (Z 7).map u⟩])
  (cn : PCall Try.prog 36 [rR s a b] (.agg [.b (S 4), .own 0 0 (n 8) 1, .own 1 0 (n 9) 1]) [⟨49, (Z 8).map u⟩, ⟨49, (Z 9).map u⟩])
  (cl : PCall Try.prog 32 [rR s a b, rR t c d] (.agg [.b (S 5), .own 0 0 (n 10) 1, .own 1 0 (n 11) 1]) [⟨49, (Z 10).map u⟩, ⟨49, (Z 11).map u⟩])
  (cs : PCall Try.prog 44 [.sl [rR s a b]] (.agg [.b (S 6), .own 0 0 (n 12) 1, .own 1 0 (n 13) 1]) [⟨49, (Z 12).map u⟩, ⟨49, (Z 13).map u⟩])
  (c1 : PCall Try.prog 24 [] (.agg [.b (S 7), .own 0 0 (n 14) 1, .own 1 0 (n 15) 1]) [⟨49, (Z 14).map u⟩, ⟨49, (Z 15).map u⟩])
  (c0 : PCall Try.prog 22 [] (.agg [.b (S 8), .own 0 0 (n 16) 1, .own 1 0 (n 17) 1]) [⟨49, (Z 16).map u⟩, ⟨49, (Z 17).map u⟩]) : PCall Try.prog 12 [rR s a b, rR t c d] (.b true) [] := by
 refine PCall.of_ax Try.call12 Try.func12 rfl (by simp [Try.ntmps12]) fun O w => ?_
 simp only [Try.ntmps12, Try.results12, argFr]
 have z0 := hn 0 (by omega)
 have z1 := hn 1 (by omega)
 have z2 := hn 2 (by omega)
 have z3 := hn 3 (by omega)
 have z4 := hn 4 (by omega)
 have z5 := hn 5 (by omega)
 refine AX.sR (rgAV [2, 3]) ?_
 refine AX.seq ?_
 refine AX.sR (rgCV [2, 3, 19] (aI cf oT)) ?_
 refine AX.condF ?_
 refine AX.keepA [2, 3] ?_
 refine AX.skip ?_
 refine nmZ ?_
 refine AX.sD (rgDAV [2, 3, 5]) ?_
 refine AX.fz 3 (fr' := [(5, .ptr 5 0), (3, .ptr 1 0), (2, .ptr 0 0)]) (hp' := [(5, ⟨25, [.b s, dg a, .own 4 0 b.length 1]⟩), (4, ⟨49, b.map u⟩), (1, ⟨25, [.b t, dg c, dg d]⟩), (0, ⟨25, [.b s, dg a, dg b]⟩)]) rfl (hfL_u a) (.cons rfl .same (.cons rfl .same (.cons rfl .same .nil))) (.cons (by decide) rfl rfl rfl (fz_ro1 _ _ _ _ _) (.keep (by decide) rfl (.keep (by decide) rfl (.keep (by decide) rfl .nil)))) ?_
 refine AX.fz 4 (fr' := [(5, .ptr 5 0), (3, .ptr 1 0), (2, .ptr 0 0)]) (hp' := [(5, ⟨25, [.b s, dg a, dg b]⟩), (1, ⟨25, [.b t, dg c, dg d]⟩), (0, ⟨25, [.b s, dg a, dg b]⟩)]) rfl (hfL_u b) (.cons rfl .same (.cons rfl .same (.cons rfl .same .nil))) (.cons (by decide) rfl rfl rfl (fz_ro2 _ _ _ _) (.keep (by decide) rfl (.keep (by decide) rfl .nil))) ?_
 refine AX.sD (rgDAV [2, 3, 5, 6]) ?_
 refine AX.fz 6 (fr' := [(6, .ptr 8 0), (5, .ptr 5 0), (3, .ptr 1 0), (2, .ptr 0 0)]) (hp' := [(8, ⟨25, [.b t, dg c, .own 7 0 d.length 1]⟩), (7, ⟨49, d.map u⟩), (5, ⟨25, [.b s, dg a, dg b]⟩), (1, ⟨25, [.b t, dg c, dg d]⟩), (0, ⟨25, [.b s, dg a, dg b]⟩)]) rfl (hfL_u c) (.cons rfl .same (.cons rfl .same (.cons rfl .same (.cons rfl .same .nil)))) (.cons (by decide) rfl rfl rfl (fz_ro1 _ _ _ _ _) (.keep (by decide) rfl (.keep (by decide) rfl (.keep (by decide) rfl (.keep (by decide) rfl .nil))))) ?_
 refine AX.fz 7 (fr' := [(6, .ptr 8 0), (5, .ptr 5 0), (3, .ptr 1 0), (2, .ptr 0 0)]) (hp' := [(8, ⟨25, [.b t, dg c, dg d]⟩), (5, ⟨25, [.b s, dg a, dg b]⟩), (1, ⟨25, [.b t, dg c, dg d]⟩), (0, ⟨25, [.b s, dg a, dg b]⟩)]) rfl (hfL_u d) (.cons rfl .same (.cons rfl .same (.cons rfl .same (.cons rfl .same .nil)))) (.cons (by decide) rfl rfl rfl (fz_ro2 _ _ _ _) (.keep (by decide) rfl (.keep (by decide) rfl (.keep (by decide) rfl .nil)))) ?_
 refine AX.sR (rgCV [2, 3, 5, 6, 7] (aI cq oT)) ?_
 refine AX.sR (rgCV [2, 3, 5, 6, 7, 9] (aI co oT)) ?_
 apply AX.sdreg [2, 3, 5, 6, 11] (by kernel_rfl) (by simp only [pq]; rfl)
 ·iterate 18 (first
 |(apply RunD.mkS (o := ⟨some 69, _, _⟩) (v := (.sl [rR s a b])) rfl; · rfl
   ·(simp only [opsOf, valsOf, valOf, lkp, ofConst, ofCell, Array.toList, Option.toList, List.map_cons, List.map_nil, List.cons_append, List.nil_append, List.append_nil, Nat.reduceEqDiff, Nat.reducePow, Nat.reduceLT, Nat.reduceLeDiff, reduceIte, if_true, if_false, IntKind.min, IntKind.max, IntKind.bits, IntKind.signed, Int.reduceLE, Int.reduceNeg, Int.reducePow, Int.reduceSub, and_self, Bool.false_eq_true, Nat.reduceSub]; rfl)
   ·(simp (disch := omega) only [go_sem, i64_of, u32_of, u64_of, Nat.reduceLT, Nat.reduceLeDiff, Nat.reduceEqDiff, Nat.reduceAdd, Nat.reduceSub, Nat.reduceMul, Nat.reducePow, Nat.reduceBEq, Int.reduceLE, Int.reduceLT, Int.reduceToNat, Int.reduceEq, Int.reduceNeg, ↓reduceIte, reduceCtorEq]; rfl)
   ·rfl
   ·rfl
   ·kernel_rfl
   ·kernel_rfl
   ·(simp only [pb, Nat.reduceLT, Nat.reduceAdd, reduceIte]; rfl)
   ·rfl)
 |(apply RunD.op rfl; · rfl
   ·(simp only [opsOf, valsOf, valOf, lkp, ofConst, ofCell, Array.toList, Option.toList, List.map_cons, List.map_nil, List.cons_append, List.nil_append, List.append_nil, Nat.reduceEqDiff, Nat.reducePow, Nat.reduceLT, Nat.reduceLeDiff, reduceIte, if_true, if_false, IntKind.min, IntKind.max, IntKind.bits, IntKind.signed, Int.reduceLE, Int.reduceNeg, Int.reducePow, Int.reduceSub, and_self, Bool.false_eq_true, Nat.reduceSub]; rfl)
   iterate 2 (· (simp (disch := omega) only [go_sem, i64_of, u32_of, u64_of, Nat.reduceLT, Nat.reduceLeDiff, Nat.reduceEqDiff, Nat.reduceAdd, Nat.reduceSub, Nat.reduceMul, Nat.reducePow, Nat.reduceBEq, Int.reduceLE, Int.reduceLT, Int.reduceToNat, Int.reduceEq, Int.reduceNeg, ↓reduceIte, reduceCtorEq]; rfl))
   ·(simp only [pb, Nat.reduceLT, Nat.reduceAdd, reduceIte]; rfl)
   ·rfl)
 |(apply RunD.callOwn2 rfl; · rfl
   ·(simp only [opsOf, valsOf, valOf, lkp, ofConst, ofCell, Array.toList, Option.toList, List.map_cons, List.map_nil, List.cons_append, List.nil_append, List.append_nil, Nat.reduceEqDiff, Nat.reducePow, Nat.reduceLT, Nat.reduceLeDiff, reduceIte, if_true, if_false, IntKind.min, IntKind.max, IntKind.bits, IntKind.signed, Int.reduceLE, Int.reduceNeg, Int.reducePow, Int.reduceSub, and_self, Bool.false_eq_true, Nat.reduceSub]; rfl)
   ·first | rfl | (simp only [List.cons_append, List.nil_append, V.hfL, V.hf, Bool.true_and]; assumption)
   ·(first | (simp only [cnlL, cnl, List.append_nil, List.cons_append, List.nil_append]; exact ca) | (exact ca))
   ·(simp only [V.ren, V.renL, renL_u]; rfl)
   ·(simp only [Row.ren, V.ren, V.renL, renL_u]; rfl)
   ·(simp only [Row.ren, V.ren, V.renL, renL_u]; rfl)
   ·(simp only [pb, Nat.reduceLT, Nat.reduceAdd, reduceIte]; rfl)
   ·rfl)
 |(apply RunD.callOwn2 rfl; · rfl
   ·(simp only [opsOf, valsOf, valOf, lkp, ofConst, ofCell, Array.toList, Option.toList, List.map_cons, List.map_nil, List.cons_append, List.nil_append, List.append_nil, Nat.reduceEqDiff, Nat.reducePow, Nat.reduceLT, Nat.reduceLeDiff, reduceIte, if_true, if_false, IntKind.min, IntKind.max, IntKind.bits, IntKind.signed, Int.reduceLE, Int.reduceNeg, Int.reducePow, Int.reduceSub, and_self, Bool.false_eq_true, Nat.reduceSub]; rfl)
   ·first | rfl | (simp only [List.cons_append, List.nil_append, V.hfL, V.hf, Bool.true_and]; assumption)
   ·(first | (simp only [cnlL, cnl, List.append_nil, List.cons_append, List.nil_append]; exact cm) | (exact cm))
   ·(simp only [V.ren, V.renL, renL_u]; rfl)
   ·(simp only [Row.ren, V.ren, V.renL, renL_u]; rfl)
   ·(simp only [Row.ren, V.ren, V.renL, renL_u]; rfl)
   ·(simp only [pb, Nat.reduceLT, Nat.reduceAdd, reduceIte]; rfl)
   ·rfl)
 |(apply RunD.callOwn2 rfl; · rfl
   ·(simp only [opsOf, valsOf, valOf, lkp, ofConst, ofCell, Array.toList, Option.toList, List.map_cons, List.map_nil, List.cons_append, List.nil_append, List.append_nil, Nat.reduceEqDiff, Nat.reducePow, Nat.reduceLT, Nat.reduceLeDiff, reduceIte, if_true, if_false, IntKind.min, IntKind.max, IntKind.bits, IntKind.signed, Int.reduceLE, Int.reduceNeg, Int.reducePow, Int.reduceSub, and_self, Bool.false_eq_true, Nat.reduceSub]; rfl)
   ·first | rfl | (simp only [List.cons_append, List.nil_append, V.hfL, V.hf, Bool.true_and]; assumption)
   ·(first | (simp only [cnlL, cnl, List.append_nil, List.cons_append, List.nil_append]; exact cn) | (exact cn))
   ·(simp only [V.ren, V.renL, renL_u]; rfl)
   ·(simp only [Row.ren, V.ren, V.renL, renL_u]; rfl)
   ·(simp only [Row.ren, V.ren, V.renL, renL_u]; rfl)
   ·(simp only [pb, Nat.reduceLT, Nat.reduceAdd, reduceIte]; rfl)
   ·rfl)
 |(apply RunD.callOwn2 rfl; · rfl
   ·(simp only [opsOf, valsOf, valOf, lkp, ofConst, ofCell, Array.toList, Option.toList, List.map_cons, List.map_nil, List.cons_append, List.nil_append, List.append_nil, Nat.reduceEqDiff, Nat.reducePow, Nat.reduceLT, Nat.reduceLeDiff, reduceIte, if_true, if_false, IntKind.min, IntKind.max, IntKind.bits, IntKind.signed, Int.reduceLE, Int.reduceNeg, Int.reducePow, Int.reduceSub, and_self, Bool.false_eq_true, Nat.reduceSub]; rfl)
   ·first | rfl | (simp only [List.cons_append, List.nil_append, V.hfL, V.hf, Bool.true_and]; assumption)
   ·(first | (simp only [cnlL, cnl, List.append_nil, List.cons_append, List.nil_append]; exact cl) | (exact cl))
   ·(simp only [V.ren, V.renL, renL_u]; rfl)
   ·(simp only [Row.ren, V.ren, V.renL, renL_u]; rfl)
   ·(simp only [Row.ren, V.ren, V.renL, renL_u]; rfl)
   ·(simp only [pb, Nat.reduceLT, Nat.reduceAdd, reduceIte]; rfl)
   ·rfl)
 |(apply RunD.callOwn2 rfl; · rfl
   ·(simp only [opsOf, valsOf, valOf, lkp, ofConst, ofCell, Array.toList, Option.toList, List.map_cons, List.map_nil, List.cons_append, List.nil_append, List.append_nil, Nat.reduceEqDiff, Nat.reducePow, Nat.reduceLT, Nat.reduceLeDiff, reduceIte, if_true, if_false, IntKind.min, IntKind.max, IntKind.bits, IntKind.signed, Int.reduceLE, Int.reduceNeg, Int.reducePow, Int.reduceSub, and_self, Bool.false_eq_true, Nat.reduceSub]; rfl)
   ·first | rfl | (simp only [List.cons_append, List.nil_append, V.hfL, V.hf, Bool.true_and]; assumption)
   ·(first | (simp only [cnlL, cnl, List.append_nil, List.cons_append, List.nil_append]; exact cs) | (exact cs))
   ·(simp only [V.ren, V.renL, renL_u]; rfl)
   ·(simp only [Row.ren, V.ren, V.renL, renL_u]; rfl)
   ·(simp only [Row.ren, V.ren, V.renL, renL_u]; rfl)
   ·(simp only [pb, Nat.reduceLT, Nat.reduceAdd, reduceIte]; rfl)
   ·rfl)
 |(apply RunD.callOwn2 rfl; · rfl
   ·(simp only [opsOf, valsOf, valOf, lkp, ofConst, ofCell, Array.toList, Option.toList, List.map_cons, List.map_nil, List.cons_append, List.nil_append, List.append_nil, Nat.reduceEqDiff, Nat.reducePow, Nat.reduceLT, Nat.reduceLeDiff, reduceIte, if_true, if_false, IntKind.min, IntKind.max, IntKind.bits, IntKind.signed, Int.reduceLE, Int.reduceNeg, Int.reducePow, Int.reduceSub, and_self, Bool.false_eq_true, Nat.reduceSub]; rfl)
   ·first | rfl | (simp only [List.cons_append, List.nil_append, V.hfL, V.hf, Bool.true_and]; assumption)
   ·(first | (simp only [cnlL, cnl, List.append_nil, List.cons_append, List.nil_append]; exact c1) | (exact c1))
   ·(simp only [V.ren, V.renL, renL_u]; rfl)
   ·(simp only [Row.ren, V.ren, V.renL, renL_u]; rfl)
   ·(simp only [Row.ren, V.ren, V.renL, renL_u]; rfl)
   ·(simp only [pb, Nat.reduceLT, Nat.reduceAdd, reduceIte]; rfl)
   ·rfl)
 |(apply RunD.callOwn2 rfl; · rfl
   ·(simp only [opsOf, valsOf, valOf, lkp, ofConst, ofCell, Array.toList, Option.toList, List.map_cons, List.map_nil, List.cons_append, List.nil_append, List.append_nil, Nat.reduceEqDiff, Nat.reducePow, Nat.reduceLT, Nat.reduceLeDiff, reduceIte, if_true, if_false, IntKind.min, IntKind.max, IntKind.bits, IntKind.signed, Int.reduceLE, Int.reduceNeg, Int.reducePow, Int.reduceSub, and_self, Bool.false_eq_true, Nat.reduceSub]; rfl)
   ·first | rfl | (simp only [List.cons_append, List.nil_append, V.hfL, V.hf, Bool.true_and]; assumption)
   ·(first | (simp only [cnlL, cnl, List.append_nil, List.cons_append, List.nil_append]; exact c0) | (exact c0))
   ·(simp only [V.ren, V.renL, renL_u]; rfl)
   ·(simp only [Row.ren, V.ren, V.renL, renL_u]; rfl)
   ·(simp only [Row.ren, V.ren, V.renL, renL_u]; rfl)
   ·(simp only [pb, Nat.reduceLT, Nat.reduceAdd, reduceIte]; rfl)
   ·rfl)
 |(apply RunD.skip; · rfl
   ·(simp only [pb, Nat.reduceLT, Nat.reduceAdd, reduceIte]; rfl)
   ·rfl))
  apply RunD.op rfl
  ·rfl
  ·(simp only [opsOf, valsOf, valOf, lkp, ofConst, ofCell, Array.toList, Option.toList, List.map_cons, List.map_nil, List.cons_append, List.nil_append, List.append_nil, Nat.reduceEqDiff, Nat.reducePow, Nat.reduceLT, Nat.reduceLeDiff, reduceIte, if_true, if_false, IntKind.min, IntKind.max, IntKind.bits, IntKind.signed, Int.reduceLE, Int.reduceNeg, Int.reducePow, Int.reduceSub, and_self, Bool.false_eq_true, Nat.reduceSub]; rfl)
  ·exact build9 _ _ _ _ _ _ _ _ _ _ _ _ _ _ _ _ _ _ _ _ _ _ _ _ _ _ _ _ _ _ _ _ _ _ _ _ _ _ _ _ _ _ _ _ _ 
  ·(simp (disch := omega) only [go_sem, i64_of, u32_of, u64_of, Nat.reduceLT, Nat.reduceLeDiff, Nat.reduceEqDiff, Nat.reduceAdd, Nat.reduceSub, Nat.reduceMul, Nat.reducePow, Nat.reduceBEq, Int.reduceLE, Int.reduceLT, Int.reduceToNat, Int.reduceEq, Int.reduceNeg, ↓reduceIte, reduceCtorEq]; rfl)
  ·(simp only [pb, Nat.reduceLT, Nat.reduceAdd, reduceIte]; rfl)
  ·rfl
  apply RunD.op rfl
  ·rfl
  ·(simp only [opsOf, valsOf, valOf, lkp, ofConst, ofCell, Array.toList, Option.toList, List.map_cons, List.map_nil, List.cons_append, List.nil_append, List.append_nil, Nat.reduceEqDiff, Nat.reducePow, Nat.reduceLT, Nat.reduceLeDiff, reduceIte, if_true, if_false, IntKind.min, IntKind.max, IntKind.bits, IntKind.signed, Int.reduceLE, Int.reduceNeg, Int.reducePow, Int.reduceSub, and_self, Bool.false_eq_true, Nat.reduceSub]; rfl)
  ·(simp (disch := omega) only [go_sem, i64_of, u32_of, u64_of, Nat.reduceLT, Nat.reduceLeDiff, Nat.reduceEqDiff, Nat.reduceAdd, Nat.reduceSub, Nat.reduceMul, Nat.reducePow, Nat.reduceBEq, Int.reduceLE, Int.reduceLT, Int.reduceToNat, Int.reduceEq, Int.reduceNeg, ↓reduceIte, reduceCtorEq]; rfl)
  ·(simp (disch := omega) only [go_sem, i64_of, u32_of, u64_of, Nat.reduceLT, Nat.reduceLeDiff, Nat.reduceEqDiff, Nat.reduceAdd, Nat.reduceSub, Nat.reduceMul, Nat.reducePow, Nat.reduceBEq, Int.reduceLE, Int.reduceLT, Int.reduceToNat, Int.reduceEq, Int.reduceNeg, ↓reduceIte, reduceCtorEq]; rfl)
  ·(simp only [pb, Nat.reduceLT, Nat.reduceAdd, reduceIte]; rfl)
  ·rfl
  exact RunD.nil
 ·repeat (first | exact Keep.nil | (apply Keep.take; · rfl) | (apply Keep.drop; · rfl))
 ·kernel_rfl
 refine AX.seq ?_
 refine AX.sR (rgAV [2, 3, 5, 6, 11, 12]) ?_
 obtain ⟨CE, hCE⟩ : ∃ CE : List V, [.b (S 0), .own 5 0 (n 0) 1, .own 6 0 (n 1) 1, .b (S 1), .own 7 0 (n 2) 1, .own 8 0 (n 3) 1, .b (S 2), .own 9 0 (n 4) 1, .own 10 0 (n 5) 1, .b (S 3), .own 11 0 (n 6) 1, .own 12 0 (n 7) 1, .b (S 4), .own 13 0 (n 8) 1, .own 14 0 (n 9) 1, .b (S 5), .own 15 0 (n 10) 1, .own 16 0 (n 11) 1, .b (S 6), .own 17 0 (n 12) 1, .own 18 0 (n 13) 1, .b (S 7), .own 19 0 (n 14) 1, .own 20 0 (n 15) 1, .b (S 8), .own 21 0 (n 16) 1, .own 22 0 (n 17) 1] = CE := ⟨_, rfl⟩
 have hcl : CE.length = 27 := by rw [← hCE]; rfl
 have hlt : V.ltL 23 CE = true := by rw [← hCE]; rfl
 have hren : V.renL id CE = CE := renL_id CE
 have hc : ∀ i, i < 9 → CE.getD (i * 3 + 1) .junk = .own (5 + 2 * i) 0 (n (2 * i)) 1 ∧ CE.getD (i * 3 + 2) .junk = .own (6 + 2 * i) 0 (n (2 * i + 1)) 1 := by
  rw [← hCE]
  intro i hi
  match i, hi with
  | 0, _ => exact ⟨rfl, rfl⟩
  | 1, _ => exact ⟨rfl, rfl⟩
  | 2, _ => exact ⟨rfl, rfl⟩
  | 3, _ => exact ⟨rfl, rfl⟩
  | 4, _ => exact ⟨rfl, rfl⟩
  | 5, _ => exact ⟨rfl, rfl⟩
  | 6, _ => exact ⟨rfl, rfl⟩
  | 7, _ => exact ⟨rfl, rfl⟩
  | 8, _ => exact ⟨rfl, rfl⟩
  | k + 9, h => exact absurd h (by omega)
 refine AX.weaken roF (st' := ⟨[(12, .i .i64 (0 : Nat)), (11, .own 4 0 9 3), (6, .ptr 3 0), (5, .ptr 2 0), (3, .ptr 1 0), (2, .ptr 0 0)], (4, ⟨25, CE⟩) :: (3, ⟨25, [.b t, dg c, dg d]⟩) :: (2, ⟨25, [.b s, dg a, dg b]⟩) :: (1, ⟨25, [.b t, dg c, dg d]⟩) :: (0, ⟨25, [.b s, dg a, dg b]⟩) :: fam 5 18 (fG Z), 23⟩) (leF (pre := [(4, ⟨25, CE⟩), (3, ⟨25, [.b t, dg c, dg d]⟩), (2, ⟨25, [.b s, dg a, dg b]⟩), (1, ⟨25, [.b t, dg c, dg d]⟩), (0, ⟨25, [.b s, dg a, dg b]⟩)]) ?_ ?_ (fun a ha => ⟨by omega, ?_, ltL_u _ _⟩) ?_ (Nat.zero_le _) (fun n hn => absurd hn (Nat.not_lt_zero _))) ?_
 ·exact ⟨rfl, rfl, rfl, rfl, rfl, rfl, rfl, rfl, rfl, rfl, rfl, rfl, trivial⟩
 ·subst hCE
  exact ⟨by decide, rfl, rfl, by decide, rfl, rfl, by decide, rfl, rfl, by decide, rfl, rfl, by decide, rfl, rfl, trivial⟩
 ·rw [fG_ren]
  match a, ha with
  | 0, _ => rfl
  | 1, _ => rfl
  | 2, _ => rfl
  | 3, _ => rfl
  | 4, _ => rfl
  | 5, _ => rfl
  | 6, _ => rfl
  | 7, _ => rfl
  | 8, _ => rfl
  | 9, _ => rfl
  | 10, _ => rfl
  | 11, _ => rfl
  | 12, _ => rfl
  | 13, _ => rfl
  | 14, _ => rfl
  | 15, _ => rfl
  | 16, _ => rfl
  | 17, _ => rfl
  | k + 18, h => exact absurd h (by omega)
 ·intro p hp q hq e
  have hb : ∀ p : Nat × Row, p ∈ [(4, ⟨25, CE⟩), (3, ⟨25, [.b t, dg c, dg d]⟩), (2, ⟨25, [.b s, dg a, dg b]⟩), (1, ⟨25, [.b t, dg c, dg d]⟩), (0, ⟨25, [.b s, dg a, dg b]⟩)] ++ fam 5 18 (fG Z) → p.1 < 23 := fun p hp => by
   rcases List.mem_append.1 hp with h | h
   ·simp only [List.mem_cons, List.not_mem_nil, or_false] at h
    rcases h with rfl | rfl | rfl | rfl | rfl <;> (dsimp only; omega)
   ·have := fam_mem h; omega
  exact roF_inj _ (hb p hp) _ (hb q hq) e
 clear z0 z1 z2 z3 z4 z5 hCE
 have hG := hn
 generalize Z = G at *
 clear cq co ca cm cn cl cs c1 c0 cf
 have caw := lawake_ok
 have cs1 := lsame_self' s a b la lb
 have cs2 := lsame_self' t c d lc ld
 refine AX.block ?_
 refine AX.loop (fun N st => ∃ (i : Nat) (G : Nat → List Nat), i ≤ 9 ∧ N = 9 - i ∧ (∀ j, j < 18 → n j ≤ (G j).length ∧ (G j).length < 2 ^ 40) ∧ st = ⟨[(12, .i .i64 i), (11, .own 4 0 9 3), (6, .ptr 3 0), (5, .ptr 2 0), (3, .ptr 1 0), (2, .ptr 0 0)], (4, ⟨25, CE⟩) :: (3, ⟨25, [.b t, dg c, dg d]⟩) :: (2, ⟨25, [.b s, dg a, dg b]⟩) :: (1, ⟨25, [.b t, dg c, dg d]⟩) :: (0, ⟨25, [.b s, dg a, dg b]⟩) :: fam 5 18 (fG G), 23⟩) 9 ⟨0, G, Nat.zero_le _, rfl, hG, rfl⟩ ?_
 clear hG hn
 clear G
 rintro N st ⟨i, G, hi, rfl, hG, rfl⟩
 refine AX.seq ?_
 by_cases h2 : i < 9
 ·obtain ⟨hc1, hc2⟩ := hc i h2
  refine AX.sR (rgAV [2, 3, 5, 6, 11, 12, 77]) ?_
  refine AX.condT ?_
  refine AX.keepA [2, 3, 5, 6, 11, 12] ?_
  refine AX.skip ?_
  refine nmZ ?_
  refine AX.seq ?_
  refine AX.block ?_
  refine AX.seq ?_
  obtain ⟨p, hp⟩ : ∃ p, 5 + 2 * i = p := ⟨_, rfl⟩
  obtain ⟨p', hp'⟩ : ∃ p', 6 + 2 * i = p' := ⟨_, rfl⟩
  rw [hp] at hc1
  rw [hp'] at hc2
  have hpa : 5 + 2 * i = p := by omega
  have hA : 2 * i < 18 := by omega
  have hp5 : 5 ≤ p := by omega
  have hfi : (i * 3 + 1 < 27) = True := by simp only [eq_iff_iff, iff_true]; omega
  obtain ⟨⟨p0, p1, p2, p3, p4⟩, r0, r1, r2, r3, r4⟩ := pneR hp5
  refine AX.sR (rgAV [2, 3, 5, 6, 11, 12, 13]) ?_
  refine AX.weaken id (st' := ⟨[(13, .i .i64 (0 : Nat)), (12, .i .i64 i), (11, .own 4 0 9 3), (6, .ptr 3 0), (5, .ptr 2 0), (3, .ptr 1 0), (2, .ptr 0 0)], (4, ⟨25, CE⟩) :: (3, ⟨25, [.b t, dg c, dg d]⟩) :: (2, ⟨25, [.b s, dg a, dg b]⟩) :: (1, ⟨25, [.b t, dg c, dg d]⟩) :: (0, ⟨25, [.b s, dg a, dg b]⟩) :: fam 5 18 (fG G), 23⟩)
   (leG
    (leQ0H (And.intro hlt hren))
    rfl fG_at)
   ?_
  refine AX.block ?_
  refine AX.loop (fun N st => ∃ (k : Nat) (G : Nat → List Nat), k ≤ n (2 * i) ∧ N = n (2 * i) - k ∧ (∀ j, j < 18 → n j ≤ (G j).length ∧ (G j).length < 2 ^ 40) ∧ st = ⟨[(13, .i .i64 k), (12, .i .i64 i), (11, .own 4 0 9 3), (6, .ptr 3 0), (5, .ptr 2 0), (3, .ptr 1 0), (2, .ptr 0 0)], (4, ⟨25, CE⟩) :: (3, ⟨25, [.b t, dg c, dg d]⟩) :: (2, ⟨25, [.b s, dg a, dg b]⟩) :: (1, ⟨25, [.b t, dg c, dg d]⟩) :: (0, ⟨25, [.b s, dg a, dg b]⟩) :: fam 5 18 (fG G), 23⟩) (n (2 * i)) ⟨0, G, Nat.zero_le _, rfl, hG, rfl⟩ ?_
  clear hG
  clear G
  rintro N st ⟨k, G, hk, rfl, hG, rfl⟩
  have hlk : lkp (fam 5 18 (fG G)) p = some ⟨49, (G (2 * i)).map u⟩ := fG_lk hpa hA
  have hGa := hG (2 * i) hA
  refine AX.seq ?_
  by_cases h3 : k < n (2 * i)
  ·have hset : ∀ X : List Nat, setL (fam 5 18 (fG G)) p ⟨49, X.map u⟩ = fam 5 18 (fG (upG G (2 * i) X)) := fG_set hpa hA
   have hb := fun z => bG (a := 2 * i) (k := k) (z := z) hG
   generalize hav : 2 * i = av at *
   generalize hna : n av = na at *
   have hx := xrR_eq ((G av).getD k 0)
   have hxl := xrR_lt ((G av).getD k 0)
   have hb1 := hb (xrR ((G av).getD k 0))
   generalize hzz : (G av).getD k 0 = z at *
   generalize xrR z = z' at *
   have hs1 := hset ((G av).set k z')
   refine AX.sR (rgWV [2, 3, 5, 6, 11, 12, 13, 87] (aI @hcl (aI @hfi (aI @hc1 oT))) oT) ?_
   refine AX.condT ?_
   refine AX.keepA [2, 3, 5, 6, 11, 12, 13] ?_
   refine AX.skip ?_
   refine nmZ ?_
   refine AX.seq ?_
   refine AX.block ?_
   refine AX.rD (rgDWV [2, 3, 5, 6, 11, 12, 13] (aI hcl (aI hfi (aI hc1 (aI hlk (aI @hzz (aI @hx (aI hs1 (aI p0 (aI p1 (aI p2 (aI p3 (aI p4 (aI r0 (aI r1 (aI r2 (aI r3 (aI r4 oT))))))))))))))))) oT (hok := okDrawR (by kernel_rfl))) ?_
   refine nmZ ?_
   refine AX.rR (rgWV [2, 3, 5, 6, 11, 12, 13] (aI @lit_add oT) oT) ?_
   refine nmZ ?_
   refine ⟨_, _, id, ?_,
    (leG
     (leQ0H (And.intro hlt hren))
     rfl fG_at), ⟨k + 1, upG G av ((G av).set k z'), by omega, rfl, hb1, rfl⟩⟩
   omega
  ·refine AX.sR (rgWV [2, 3, 5, 6, 11, 12, 13, 87] (aI @hcl (aI @hfi (aI @hc1 oT))) oT) ?_
   refine AX.condF ?_
   refine AX.exit ?_
   refine nmZ ?_
   have hpa : 5 + 2 * i + 1 = p' := by omega
   have hA : 2 * i + 1 < 18 := by omega
   have hp5 : 5 ≤ p' := by omega
   have hfi : (i * 3 + 2 < 27) = True := by simp only [eq_iff_iff, iff_true]; omega
   obtain ⟨⟨p0, p1, p2, p3, p4⟩, r0, r1, r2, r3, r4⟩ := pneR hp5
   refine AX.sR (rgAV [2, 3, 5, 6, 11, 12, 14]) ?_
   refine AX.weaken id (st' := ⟨[(14, .i .i64 (0 : Nat)), (12, .i .i64 i), (11, .own 4 0 9 3), (6, .ptr 3 0), (5, .ptr 2 0), (3, .ptr 1 0), (2, .ptr 0 0)], (4, ⟨25, CE⟩) :: (3, ⟨25, [.b t, dg c, dg d]⟩) :: (2, ⟨25, [.b s, dg a, dg b]⟩) :: (1, ⟨25, [.b t, dg c, dg d]⟩) :: (0, ⟨25, [.b s, dg a, dg b]⟩) :: fam 5 18 (fG G), 23⟩)
    (leG
     (leQ0H (And.intro hlt hren))
     rfl fG_at)
    ?_
   refine AX.block ?_
   refine AX.loop (fun N st => ∃ (k : Nat) (G : Nat → List Nat), k ≤ n (2 * i + 1) ∧ N = n (2 * i + 1) - k ∧ (∀ j, j < 18 → n j ≤ (G j).length ∧ (G j).length < 2 ^ 40) ∧ st = ⟨[(14, .i .i64 k), (12, .i .i64 i), (11, .own 4 0 9 3), (6, .ptr 3 0), (5, .ptr 2 0), (3, .ptr 1 0), (2, .ptr 0 0)], (4, ⟨25, CE⟩) :: (3, ⟨25, [.b t, dg c, dg d]⟩) :: (2, ⟨25, [.b s, dg a, dg b]⟩) :: (1, ⟨25, [.b t, dg c, dg d]⟩) :: (0, ⟨25, [.b s, dg a, dg b]⟩) :: fam 5 18 (fG G), 23⟩) (n (2 * i + 1)) ⟨0, G, Nat.zero_le _, rfl, hG, rfl⟩ ?_
   clear hlk hGa
   clear hG
   clear G
   rintro N st ⟨k, G, hk, rfl, hG, rfl⟩
   have hlk : lkp (fam 5 18 (fG G)) p' = some ⟨49, (G (2 * i + 1)).map u⟩ := fG_lk hpa hA
   have hGa := hG (2 * i + 1) hA
   refine AX.seq ?_
   by_cases h3 : k < n (2 * i + 1)
   ·have hset : ∀ X : List Nat, setL (fam 5 18 (fG G)) p' ⟨49, X.map u⟩ = fam 5 18 (fG (upG G (2 * i + 1) X)) := fG_set hpa hA
    have hb := fun z => bG (a := 2 * i + 1) (k := k) (z := z) hG
    generalize hav : 2 * i + 1 = av at *
    generalize hna : n av = na at *
    have hx := xrR_eq ((G av).getD k 0)
    have hxl := xrR_lt ((G av).getD k 0)
    have hb1 := hb (xrR ((G av).getD k 0))
    generalize hzz : (G av).getD k 0 = z at *
    generalize xrR z = z' at *
    have hs1 := hset ((G av).set k z')
    refine AX.sR (rgWV [2, 3, 5, 6, 11, 12, 14, 113] (aI @hcl (aI @hfi (aI @hc2 oT))) oT) ?_
    refine AX.condT ?_
    refine AX.keepA [2, 3, 5, 6, 11, 12, 14] ?_
    refine AX.skip ?_
    refine nmZ ?_
    refine AX.seq ?_
    refine AX.block ?_
    refine AX.rD (rgDWV [2, 3, 5, 6, 11, 12, 14] (aI hcl (aI hfi (aI hc2 (aI hlk (aI @hzz (aI @hx (aI hs1 (aI p0 (aI p1 (aI p2 (aI p3 (aI p4 (aI r0 (aI r1 (aI r2 (aI r3 (aI r4 oT))))))))))))))))) oT (hok := okDrawR (by kernel_rfl))) ?_
    refine nmZ ?_
    refine AX.rR (rgWV [2, 3, 5, 6, 11, 12, 14] (aI @lit_add oT) oT) ?_
    refine nmZ ?_
    refine ⟨_, _, id, ?_,
     (leG
      (leQ0H (And.intro hlt hren))
      rfl fG_at), ⟨k + 1, upG G av ((G av).set k z'), by omega, rfl, hb1, rfl⟩⟩
    omega
   ·refine AX.sR (rgWV [2, 3, 5, 6, 11, 12, 14, 113] (aI @hcl (aI @hfi (aI @hc2 oT))) oT) ?_
    refine AX.condF ?_
    refine AX.exit ?_
    refine nmZ ?_
    refine AX.rR (rgWV [2, 3, 5, 6, 11, 12] (aI @lit_add oT) oT) ?_
    refine nmZ ?_
    refine ⟨_, _, id, ?_,
     (leG
      (leQ0H (And.intro hlt hren))
      rfl fG_at), ⟨i + 1, G, by omega, rfl, hG, rfl⟩⟩
    omega
 ·obtain rfl : i = 9 := by omega
  refine AX.sR (rgAV [2, 3, 5, 6, 11, 12, 77]) ?_
  refine AX.condF ?_
  refine AX.exit ?_
  refine nmZ ?_
  refine AX.sR (rgCV [4] (aI cs1 (aI cs2 (aI caw oT)))) ?_
  refine AX.ret ⟨.inl rfl, ?_⟩
  exact Done.one rfl rfl rfl rfl
set_option maxRecDepth 20000 in
set_option maxHeartbeats 4000000 in
theorem ratioOwn_ok (s : Bool) (a b : List Nat) (ha : Dg a) (hb : Dg b) (la : a.length < 2 ^ 62) (lb : b.length < 2 ^ 62) (t : Bool) (c d : List Nat) (hc : Dg c) (hd : Dg d) (lc : c.length < 2 ^ 62) (ld : d.length < 2 ^ 62) : PCall Try.prog 12 [rR s a b, rR t c d] (.b true) [] := by
 have cf := lfew2 12 (by omega) s t a b c d la lb lc ld
 by_cases h : (okR 12 (s, a, b) && okR 12 (t, c, d)) = true
 ·rw [h] at cf
  rw [Bool.and_eq_true, okR_iff, okR_iff] at h
  obtain ⟨⟨h1, h2⟩, h3, h4⟩ := h
  obtain ⟨q0, z0, z1, n0, n1, e0, g0, l0, g1, l1, _, k0⟩ := div_qo s a b ha hb (by omega) (by omega) t c d hc hd (by omega) (by omega)
  obtain ⟨q1, z2, z3, n2, n3, e1, g2, l2, g3, l3, _, k1⟩ := of_qo s a b ha hb (by omega) (by omega)
  obtain ⟨q2, z4, z5, n4, n5, g4, l4, g5, l5, k2⟩ := add_qo s a b ha hb (by omega) (by omega) t c d hc hd (by omega) (by omega)
  obtain ⟨q3, z6, z7, n6, n7, g6, l6, g7, l7, k3⟩ := mul_qo s a b ha hb (by omega) (by omega) t c d hc hd (by omega) (by omega)
  obtain ⟨q4, z8, z9, n8, n9, g8, l8, g9, l9, k4⟩ := neg_qo s a b ha hb (by omega) (by omega)
  obtain ⟨q5, z10, z11, n10, n11, g10, l10, g11, l11, k5⟩ := least_qo s a b ha hb (by omega) (by omega) t c d hc hd (by omega) (by omega)
  obtain ⟨q6, z12, z13, n12, n13, g12, l12, g13, l13, k6⟩ := sum1_qo s a b ha hb (by omega) (by omega)
  obtain ⟨q7, z14, z15, n14, n15, g14, l14, g15, l15, k7⟩ := one_qo
  obtain ⟨q8, z16, z17, n16, n17, g16, l16, g17, l17, k8⟩ := zero_qo
  refine ratioOwn_core s t a b c d (by omega) (by omega) (by omega) (by omega) (fun j => [q0, q1, q2, q3, q4, q5, q6, q7, q8].getD j false) (fun j => [n0, n1, n2, n3, n4, n5, n6, n7, n8, n9, n10, n11, n12, n13, n14, n15, n16, n17].getD j 0) (fun j => [z0, z1, z2, z3, z4, z5, z6, z7, z8, z9, z10, z11, z12, z13, z14, z15, z16, z17].getD j []) (fun j hj => ?_) e0 e1 cf k0 k1 k2 k3 k4 k5 k6 k7 k8
  match j, hj with
  | 0, _ => exact ⟨g0, l0⟩
  | 1, _ => exact ⟨g1, l1⟩
  | 2, _ => exact ⟨g2, l2⟩
  | 3, _ => exact ⟨g3, l3⟩
  | 4, _ => exact ⟨g4, l4⟩
  | 5, _ => exact ⟨g5, l5⟩
  | 6, _ => exact ⟨g6, l6⟩
  | 7, _ => exact ⟨g7, l7⟩
  | 8, _ => exact ⟨g8, l8⟩
  | 9, _ => exact ⟨g9, l9⟩
  | 10, _ => exact ⟨g10, l10⟩
  | 11, _ => exact ⟨g11, l11⟩
  | 12, _ => exact ⟨g12, l12⟩
  | 13, _ => exact ⟨g13, l13⟩
  | 14, _ => exact ⟨g14, l14⟩
  | 15, _ => exact ⟨g15, l15⟩
  | 16, _ => exact ⟨g16, l16⟩
  | 17, _ => exact ⟨g17, l17⟩
  | k + 18, h => exact absurd h (by omega)
 ·rw [Bool.not_eq_true] at h
  rw [h] at cf
  have caw := lawake_ok
  refine PCall.of_ax Try.call12 Try.func12 rfl (by simp [Try.ntmps12]) fun O w => ?_
  simp only [Try.ntmps12, Try.results12, argFr]
  refine AX.sR (rgAV [2, 3]) ?_
  refine AX.seq ?_
  refine AX.sR (rgCV [2, 3, 19] (aI cf oT)) ?_
  refine AX.condT ?_
  refine AX.sR (rgCV [4] (aI caw oT)) ?_
  refine AX.ret ⟨.inl rfl, ?_⟩
  exact Done.one rfl rfl rfl rfl
end Go.Proofs.Ytmhjcmochemndaa
