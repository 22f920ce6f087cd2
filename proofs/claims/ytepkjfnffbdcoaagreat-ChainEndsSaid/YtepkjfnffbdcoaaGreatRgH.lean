/- The reference's chains: Ends; and statements about chains: ChainEnds. -/
import Derived.Test.YtepkjfnffbdcoaaGreatRgG
import Derived.Test.YtepkjfnffbdcoaaGreatHN
import Derived.Test.YtepkjfnffbdcoaaGreatHC
set_option linter.unusedVariables false
set_option maxRecDepth 20000
set_option linter.unusedSimpArgs false
namespace Go.Proofs.YtepkjfnffbdcoaaGreat
open Go Go.Proofs.YtepkjfnffbdcoaaGreat.Lift
attribute [local irreducible] Lift.PCall Lift.HCall
set_option maxHeartbeats 4000000 in
theorem r20each_not (R1 C1 R2 C2 : Int) (x y : List V) (hr : PCall Tryz.prog 42 [.agg [.i .i64 R1, .i .i64 C1, .sl x, .i .i64 R2, .i .i64 C2, .sl y]] (.b false) []) :
  PCall Tryz.prog 16 [.agg [.i .i64 R1, .i .i64 C1, .sl x, .i .i64 R2, .i .i64 C2, .sl y]] (.tup [.agg [.i .i64 0, .i .i64 0, .sl []], .i .i64 1]) [] := by
 refine PCall.of_ax Tryz.call16 Tryz.func16 rfl (by simp [Tryz.ntmps16]) fun O w => ?_
 simp only [Tryz.ntmps16, Tryz.results16, argFr]
 refine AX.sR (rgAV [1, 2]) ?_
 refine AX.seq ?_
 refine AX.sR (rgCV [1, 2, 15] (aI hr oT)) ?_
 refine AX.condT (h := ?_)
 refine AX.sR (rgAV [2, 3]) ?_
 refine AX.ret ⟨.inl rfl, ?_⟩
 exact dnQ8
set_option maxHeartbeats 4000000 in
theorem c20each_not (R1 C1 R2 C2 : Int) (x y : List V) (hr : PCall Tryz.prog 41 [.agg [.i .i64 R1, .i .i64 C1, .sl x, .i .i64 R2, .i .i64 C2, .sl y]] (.b false) []) :
  PCall Tryz.prog 15 [.agg [.i .i64 R1, .i .i64 C1, .sl x, .i .i64 R2, .i .i64 C2, .sl y]] (.tup [.agg [.i .i64 0, .i .i64 0, .sl []], .i .i64 1]) [] := by
 refine PCall.of_ax Tryz.call15 Tryz.func15 rfl (by simp [Tryz.ntmps15]) fun O w => ?_
 simp only [Tryz.ntmps15, Tryz.results15, argFr]
 refine AX.sR (rgAV [1, 2]) ?_
 refine AX.seq ?_
 refine AX.sR (rgCV [1, 2, 12] (aI hr oT)) ?_
 refine AX.condT (h := ?_)
 refine AX.sR (rgAV [2, 3]) ?_
 refine AX.ret ⟨.inl rfl, ?_⟩
 exact dnQ8
set_option maxHeartbeats 4000000 in
theorem rends_not (R1 C1 R2 C2 : Int) (x y sl : List V) (hr : PCall Tryz.prog 42 [.agg [.i .i64 R1, .i .i64 C1, .sl x, .i .i64 R2, .i .i64 C2, .sl y]] (.b false) []) :
  PCall Tryz.prog 19 [.agg [.i .i64 R1, .i .i64 C1, .sl x, .i .i64 R2, .i .i64 C2, .sl y], .sl sl] (.tup [.sl [], zR, .i .i64 1]) [] := by
 refine PCall.of_ax Tryz.call19 Tryz.func19 rfl (by simp [Tryz.ntmps19]) fun O w => ?_
 simp only [Tryz.ntmps19, Tryz.results19, argFr]
 refine AX.sR (rgAV [1, 2, 5]) ?_
 refine AX.seq ?_
 refine AX.sR (rgCV [1, 2, 5, 20] (aI hr oT)) ?_
 refine AX.condT (h := ?_)
 refine AX.sR (rgAV [4, 5, 6]) ?_
 refine AX.ret ⟨.inl rfl, ?_⟩
 exact dnQ8
set_option maxHeartbeats 4000000 in
theorem rends_arg (n m : Nat) (A B : Mx) (sl : List V) (hr : PCall Tryz.prog 42 [cV n m A B] (.b true) []) (hw : PCall Tryz.prog 44 [.sl sl, .i .i64 n] (.b false) []) :
  PCall Tryz.prog 19 [cV n m A B, .sl sl] (.tup [.sl [], zR, .i .i64 1]) [] := by
 refine PCall.of_ax Tryz.call19 Tryz.func19 rfl (by simp [Tryz.ntmps19]) fun O w => ?_
 simp only [Tryz.ntmps19, Tryz.results19, argFr]
 unfold cV at *
 generalize (mcells n A (n * n)).map rV = Ac at *
 generalize (mcells m B (n * m)).map rV = Bc at *
 refine AX.sR (rgAV [1, 2, 5]) ?_
 refine AX.seq ?_
 refine AX.sR (rgCV [1, 2, 5, 20] (aI hr (aI hw oT))) ?_
 refine AX.condT (h := ?_)
 refine AX.sR (rgAV [4, 5, 6]) ?_
 refine AX.ret ⟨.inl rfl, ?_⟩
 exact dnQ8
theorem five8 {n : Nat} (hn : n ≤ 8) : 5 ^ n * (38 + 2) < 2 ^ 30 := by
 have h1 : 5 ^ n * (38 + 2) ≤ 5 ^ 8 * (38 + 2) := Nat.mul_le_mul_right _ (Nat.pow_le_pow_right (by decide) hn)
 have h2 : 5 ^ 8 * (38 + 2) < 2 ^ 30 := by decide
 omega
theorem Small.reach {n m : Nat} {A B : Mx} {v : Nat → Rat} (h : Small n m A B v) : PCall Tryz.prog 16 [cV n m A B] (.tup [qM n m (eachM n m A B), .i .i64 0]) [] :=
 r20each_ok n m 38 (by have := h.hn; omega) (by have := h.hm; omega) A B _ h.hC h.is h.hA h.hB (by decide) (by decide) (five8 h.hn)
set_option maxHeartbeats 8000000 in
theorem Small.rends {n m : Nat} {A B : Mx} {v : Nat → Rat} (h : Small n m A B v) : PCall Tryz.prog 19 [cV n m A B, .sl ((vl n v).map rV)] (.tup [.sl ((vl m (thr n v (eachM n m A B))).map rV), rV (neverQ n m A B v), .i .i64 0]) [] := by
 have hn := h.hn
 have hm := h.hm
 have cr := r20right_ok n m 38 (by omega) (by omega) A B h.hA h.hB (by decide) (by decide)
 rw [h.hC] at cr
 have cw := rweights_q n 3 (by omega) v h.hv h.hvL (by decide)
 have ce := h.reach
 have cb := rby_ok n m 100000 (by omega) (by omega) v (eachM n m A B) (fun i hi => Nat.le_trans (h.hvL i hi) (by decide)) h.hX (by decide) (by decide)
 have cs1 := pvsum h.hvL (by decide) (by omega)
 have cs2 := pvsum h.endL (by decide) (by omega)
 have h1 := sumN_len h.hvL n (Nat.le_refl _)
 have h2 := sumN_len h.endL m (Nat.le_refl _)
 have h3 : n * (3 + 1) ≤ 8 * (3 + 1) := Nat.mul_le_mul_right _ h.hn
 have h4 : m * (2000000 + 1) ≤ 5 * (2000000 + 1) := Nat.mul_le_mul_right _ h.hm
 have cd : PCall Tryz.prog 48 [.agg [.b (decide ((sumN n v).num < 0)), dg (digits (sumN n v).num.natAbs), dg (digits (sumN n v).den)], .agg [.b (decide ((sumN m (thr n v (eachM n m A B))).num < 0)), dg (digits (sumN m (thr n v (eachM n m A B))).num.natAbs), dg (digits (sumN m (thr n v (eachM n m A B))).den)]] (rV (neverQ n m A B v)) [] := psub_ok (L := 11000000) (IsQ.of (by omega)) (IsQ.of (by omega)) (by decide) (by decide)
 refine PCall.of_ax Tryz.call19 Tryz.func19 rfl (by simp [Tryz.ntmps19]) fun O w => ?_
 simp only [Tryz.ntmps19, Tryz.results19, argFr]
 clear h h1 h2 h3 h4
 unfold cV qM mV at *
 generalize (mcells n A (n * n)).map rV = Ac at *
 generalize (mcells m B (n * m)).map rV = Bc at *
 generalize neverQ n m A B v = nq at *
 generalize sumN m (thr n v (eachM n m A B)) = s2 at *
 generalize sumN n v = s1 at *
 generalize (vl m (thr n v (eachM n m A B))).map rV = Le' at *
 generalize (mcells m (eachM n m A B) (n * m)).map rV = Xc at *
 generalize (vl n v).map rV = Sc at *
 refine AX.sR (rgAV [1, 2, 5]) ?_
 refine AX.seq ?_
 refine AX.sR (rgCV [1, 2, 5, 20] (aI cr (aI cw oT))) ?_
 refine AX.condF (h := ?_)
 refine AX.keepA [1, 2, 5] (h := ?_)
 refine AX.skip ?_
 refine nmZ (h := ?_)
 refine AX.sR (rgCV [1, 5, 7] (aI ce oT)) ?_
 refine AX.sR (rgCV [1, 5, 9] (aI cb oT)) ?_
 refine AX.sR (rgCV [4, 5, 6] (aI cs1 (aI cs2 (aI cd oT)))) ?_
 refine AX.ret ⟨.inl rfl, ?_⟩
 exact dnQ8
def EndsAgree (c : V) (S : List V) : Prop := ∃ (r k e g : Int) (cs a : List V) (p : V), PCall Tryz.prog 15 [c] (.tup [.agg [.i .i64 r, .i .i64 k, .sl cs], .i .i64 e]) [] ∧ PCall Tryz.prog 16 [c] (.tup [.agg [.i .i64 r, .i .i64 k, .sl cs], .i .i64 e]) [] ∧
 PCall Tryz.prog 18 [c, .sl S] (.tup [.sl a, p, .i .i64 g]) [] ∧ PCall Tryz.prog 19 [c, .sl S] (.tup [.sl a, p, .i .i64 g]) [] ∧
 PCall Tryz.prog 20 [.agg [.i .i64 r, .i .i64 k, .sl cs], .agg [.i .i64 r, .i .i64 k, .sl cs]] (.b true) [] ∧ PCall Tryz.prog 21 [.sl a, .sl a] (.b true) [] ∧ PCall Tryz.prog 22 [p, p] (.b true) [] ∧ ∃ (s : Bool) (d1 d2 : List Nat), p = rR s d1 d2
theorem same_nil : PCall Tryz.prog 21 [.sl [], .sl []] (.b true) [] := c20same_ok [] [] 1 (fun q h => nomatch h) (fun q h => nomatch h) (by decide) (by decide) (by decide) (by decide)
theorem wsame_nil (r k : Int) : PCall Tryz.prog 20 [.agg [.i .i64 r, .i .i64 k, .sl []], .agg [.i .i64 r, .i .i64 k, .sl []]] (.b true) [] := by
 have := wsame_ok r k r k [] [] 1 (fun q h => nomatch h) (fun q h => nomatch h) (by decide) (by decide) (by decide) (by decide)
 rwa [decide_eq_true ⟨rfl, rfl, rfl⟩] at this
theorem psame_z : PCall Tryz.prog 22 [zR, zR] (.b true) [] := by
 have z : IsQ zR (rq false (val []) (val [])) 1 := IsQ.raw (s := false) (a := []) (b := []) (fun d h => nomatch h) (fun d h => nomatch h) (by decide) (by decide)
 have := psame_ok z z (by decide) (by decide)
 rwa [decide_eq_true rfl] at this
theorem psame_q {q : Rat} {L : Nat} (h : rL q ≤ L) (hL : L < 2 ^ 33) (hL1 : 1 ≤ L) : PCall Tryz.prog 22 [rV q, rV q] (.b true) [] := by
 have := psame_ok (IsQ.of h) (IsQ.of h) hL hL1
 rwa [decide_eq_true rfl] at this
theorem wsame_m {n m : Nat} {X : Mx} (hn : n ≤ 60) (hm : m ≤ 60) (h : ∀ i k, i < n → k < m → rL (X i k) ≤ 100000) : PCall Tryz.prog 20 [qM n m X, qM n m X] (.b true) [] := by
 have hq : ∀ q ∈ mcells m X (n * m), rL q ≤ 100000 := fun q hq => by
  obtain ⟨j, hj, rfl⟩ := List.mem_map.1 hq
  have hj : j < n * m := by simpa using hj
  have hm0 : 0 < m := Nat.pos_of_ne_zero fun e => by rw [e, Nat.mul_zero] at hj; omega
  exact h _ _ ((Nat.div_lt_iff_lt_mul hm0).2 hj) (Nat.mod_lt _ hm0)
 have hl : (mcells m X (n * m)).length < 2 ^ 40 := by
  rw [mcells_length]
  have : n * m ≤ 60 * 60 := Nat.mul_le_mul hn hm
  omega
 have := wsame_ok n m n m _ _ 100000 hq hq (by decide) (by decide) hl hl
 rwa [decide_eq_true ⟨rfl, rfl, rfl⟩] at this
theorem Few.endsAgree {c : V} (h : Few c) {ss : List RT} (hs : okX ss) (hl : ss.length ≤ 100) (hs3 : ∀ x ∈ ss, x.2.1.length ≤ 3 ∧ x.2.2.length ≤ 3) : EndsAgree c (ss.map fR) := by
 cases h with
 | shape R1 C1 R2 C2 xs ys h1 h2 h3 h4 hx hy lx ly hno =>
  have c1 := cright_not R1 C1 R2 C2 xs ys h1 h2 h3 h4 hx hy (by omega) (by omega) hno
  have c2 := r20right_not R1 C1 R2 C2 xs ys h1 h2 h3 h4 hx hy (by omega) (by omega) hno
  exact ⟨0, 0, 1, 1, [], [], zR, c20each_not R1 C1 R2 C2 _ _ c1, r20each_not R1 C1 R2 C2 _ _ c2, cends_not R1 C1 R2 C2 _ _ _ c1, rends_not R1 C1 R2 C2 _ _ _ c2, wsame_nil 0 0, same_nil, psame_z, false, [], [], rfl⟩
 | rows n m A B hn hm hA hB hC =>
  have c1 := cright_ok n m 3 hn hm A B hA hB (by decide) (by decide)
  have c2 := r20right_ok n m 3 hn hm A B hA hB (by decide) (by decide)
  rw [hC] at c1 c2
  exact ⟨0, 0, 1, 1, [], [], zR, c20each_not n n n m _ _ c1, r20each_not n n n m _ _ c2, cends_not n n n m _ _ _ c1, rends_not n n n m _ _ _ c2, wsame_nil 0 0, same_nil, psame_z, false, [], [], rfl⟩
 | ok n m A B hn hm hA hB hC =>
  have c1 := cright_ok n m 38 (by omega) (by omega) A B hA hB (by decide) (by decide)
  have c2 := r20right_ok n m 38 (by omega) (by omega) A B hA hB (by decide) (by decide)
  rw [hC] at c1 c2
  have w1 := weights_ok n m A B (by omega) ss (by omega) hs
  have w2 := rweights_ok n (by omega) ss (by omega) hs
  have hX := each_small hn hC hA hB
  have his := each_is (L := 38) hC hA hB (by decide)
  have d1 := ceach_ok n m 38 (by omega) (by omega) A B hC hA hB (by decide) (bigL8 hn) (by decide)
  have d2 := r20each_ok n m 38 (by omega) (by omega) A B _ hC his hA hB (by decide) (by decide) (five8 hn)
  have ds := wsame_m (by omega) (by omega) hX
  cases hW : isW n ss with
  | false =>
   rw [hW] at w1 w2
   exact ⟨n, m, 0, 1, _, [], zR, d1, d2, cends_arg n m A B _ c1 w1, rends_arg n m A B _ c2 w2, ds, same_nil, psame_z, false, [], [], rfl⟩
  | true =>
   obtain ⟨v, rfl, hv⟩ := isW_vec (fun x hx => ⟨(hs x hx).1, (hs x hx).2.1⟩) hW
   have hS : Small n m A B v := ⟨hn, hm, hA, hB, hC, hv, fun i hi => by
    have hm : toRT (v i) ∈ (vl n v).map toRT := List.mem_map.2 ⟨v i, List.mem_map.2 ⟨i, by simpa using hi, rfl⟩, rfl⟩
    exact toRT_len (hs3 _ hm).1 (hs3 _ hm).2⟩
   rw [map_toRT]
   have hq : ∀ q ∈ vl m (thr n v (eachM n m A B)), rL q ≤ 2000000 := vl_mem (fun k hk => hS.endL k hk)
   have sm := c20same_ok (vl m (thr n v (eachM n m A B))) (vl m (thr n v (eachM n m A B))) 2000000 hq hq (by decide) (by decide) (by rw [vl_length]; omega) (by rw [vl_length]; omega)
   rw [decide_eq_true rfl] at sm
   exact ⟨n, m, 0, 0, _, _, _, d1, d2, hS.ends, hS.rends, ds, sm, psame_q hS.neverL (by decide) (by decide), _, _, _, rfl⟩
set_option maxHeartbeats 8000000 in
theorem ends_rest (c c' : V) (S S' : List V) (R1 C1 R2 C2 : Int) (x y : List V) (hc : c = .agg [.i .i64 R1, .i .i64 C1, .sl x, .i .i64 R2, .i .i64 C2, .sl y]) (R1' C1' R2' C2' : Int) (x' y' : List V) (hc' : c' = .agg [.i .i64 R1', .i .i64 C1', .sl x', .i .i64 R2', .i .i64 C2', .sl y'])
  (cf : PCall Tryz.prog 14 [c, .sl S] (.tup [c', .sl S']) []) (hm : EndsAgree c' S') : PCall Tryz.prog 3 [c, .sl S] (.b true) [] := by
 obtain ⟨r, k, e, g, cs, a, p, c1, c2, c3, c4, c5, c6, c7, s, d1, d2, hp⟩ := hm
 subst hp hc hc'
 have cof := lof_ok R1' C1' R2' C2' x' y'
 have cal := lalive_ok
 unfold rR at *
 refine PCall.of_ax Tryz.call3 Tryz.func3 rfl (by simp [Tryz.ntmps3]) fun O w0 => ?_
 simp only [Tryz.ntmps3, Tryz.results3, argFr]
 refine AX.sR (rgAV [1, 2]) ?_
 refine AX.sR (rgCV [1, 2] (aI cf oT)) ?_
 refine AX.sR (rgCV [1, 2, 5, 6] (aI c1 oT)) ?_
 refine AX.sR (rgCV [1, 2, 5, 6, 7, 8] (aI cof (aI c2 oT))) ?_
 refine AX.sR (rgCV [1, 2, 5, 6, 7, 8, 9, 10, 11] (aI c3 oT)) ?_
 refine AX.sR (rgCV [5, 6, 7, 8, 9, 10, 11, 12, 13, 14] (aI cof (aI c4 oT))) ?_
 refine AX.sR (rgCV [4] (aI c5 (aI c6 (aI c7 (aI cal oT))))) ?_
 refine AX.ret ⟨.inl rfl, ?_⟩
 exact Done.one rfl rfl rfl rfl
theorem chainEnds_ok (R1 C1 R2 C2 : Int) (xs ys ss : List RT) (h1 : bd R1) (h2 : bd C1) (h3 : bd R2) (h4 : bd C2) (hx : okRT xs) (hy : okRT ys) (hs : okRT ss) (lx : xs.length < 2 ^ 62) (ly : ys.length < 2 ^ 62) (ls : ss.length < 2 ^ 62) :
  PCall Tryz.prog 3 [.agg [.i .i64 R1, .i .i64 C1, .sl (xs.map fR), .i .i64 R2, .i .i64 C2, .sl (ys.map fR)], .sl (ss.map fR)] (.b true) [] := by
 obtain ⟨c', S', cf, hf, s1, s2, s3⟩ := few_all R1 C1 R2 C2 xs ys ss h1 h2 h3 h4 hx hy hs lx ly ls
 obtain ⟨R1', C1', R2', C2', x', y', e⟩ := hf.shaped
 exact ends_rest _ c' _ _ R1 C1 R2 C2 _ _ rfl R1' C1' R2' C2' x' y' e cf (hf.endsAgree s1 s2 s3)
end Go.Proofs.YtepkjfnffbdcoaaGreat
