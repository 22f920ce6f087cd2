/- Statements about chains: few where the chain is cut. -/
import Derived.Test.YtepkjfnffbdcoaaGreatLawC3
set_option linter.unusedVariables false
set_option maxRecDepth 20000
set_option linter.unusedSimpArgs false
namespace Go.Proofs.YtepkjfnffbdcoaaGreat
open Go Go.Proofs.YtepkjfnffbdcoaaGreat.Lift
attribute [local irreducible] Lift.PCall Lift.HCall

/-- What is cut off a row, in order. -/
def offF (n k j : Nat) (A B : Mx) (i c : Nat) : Rat := if c < n - k then A i (k + c) else B i (j + (c - (n - k)))
theorem offF_sum (n m k j : Nat) (A B : Mx) (i : Nat) : sumN (n - k + (m - j)) (offF n k j A B i) = offR n m k j A B i := by
  rw [sumN_split]
  unfold offR
  congr 1
  · exact sumN_congr fun c hc => if_pos hc
  · refine sumN_congr fun c hc => ?_
    unfold offF
    rw [if_neg (by omega), Nat.add_sub_cancel_left]
theorem offF_vl (n m k j : Nat) (A B : Mx) (i : Nat) : vl (n - k + (m - j)) (offF n k j A B i) = (vl (n - k) fun c => A i (k + c)) ++ vl (m - j) fun c => B i (j + c) := by
  unfold vl
  rw [List.range_add, List.map_append, List.map_map]
  congr 1
  · exact List.map_congr_left fun c hc => if_pos (by simpa using hc)
  · refine List.map_congr_left fun c hc => ?_
    show offF n k j A B i (n - k + c) = _
    unfold offF
    rw [if_neg (by omega), Nat.add_sub_cancel_left]
/-- A matrix's next row. -/
theorem mcells_next (c i : Nat) (F : Mx) : mcells c F (i * c) ++ vl c (F i) = mcells c F ((i + 1) * c) := by
  have key : ∀ t, t ≤ c → mcells c F (i * c) ++ vl t (F i) = mcells c F (i * c + t) := by
    intro t
    induction t with
    | zero => intro _; simp [vl]
    | succ t ih =>
      intro ht
      rw [vl_succ, ← List.append_assoc, ih (by omega), mcells_succ F (by omega)]
  rw [key c (Nat.le_refl _), Nat.succ_mul]
theorem take_vl (k : Nat) (v : Nat → Rat) : List.take (k * 3) (qrow (vl k v)) = qrow (vl k v) := List.take_of_length_le (by rw [vl_len3]; exact Nat.le_refl _)

theorem vl_mlen (n : Nat) (v : Nat → Rat) : ((vl n v).map rV).length = n := by rw [List.length_map, vl_length]
theorem vl_one (n : Nat) (v : Nat → Rat) : (((vl n v).map rV).getD 0 .junk).cells.length = 3 ∨ (vl n v).map rV = [] := by
  by_cases h : n = 0
  · subst h
    exact .inr rfl
  · left
    rw [getD_rV (by rw [vl_length]; omega)]
    rfl
set_option maxHeartbeats 16000000 in
theorem few_cut (n m k j : Nat) (hn : n ≤ 60) (hm : m ≤ 60) (hk : k = if 8 < n then 8 else n) (hj : j = if 5 < m then 5 else m) (hbig : 8 < n ∨ 5 < m) (A B : Mx) (hC : isC n m A B = true) (hA : ∀ i c, i < n → c < n → rL (A i c) ≤ 3) (hB : ∀ i c, i < n → c < m → rL (B i c) ≤ 3) (X0 Y0 : List V) (xs ys ss : List RT) (hX0 : X0 = xs.map fR) (hY0 : Y0 = ys.map fR)
    (lx : xs.length < 2 ^ 62) (ly : ys.length < 2 ^ 62) (ls : ss.length < 2 ^ 62)
    (hx : ∀ x ∈ xs, x.2.1.length < 2 ^ 62 ∧ x.2.2.length < 2 ^ 62) (hy : ∀ x ∈ ys, x.2.1.length < 2 ^ 62 ∧ x.2.2.length < 2 ^ 62) (hs : ∀ x ∈ ss, x.2.1.length < 2 ^ 62 ∧ x.2.2.length < 2 ^ 62)
    (hXA : (lcut 4000 xs).map fR = (mcells n A (n * n)).map rV) (hYB : (lcut 4000 ys).map fR = (mcells m B (n * m)).map rV) :
    PCall Tryz.prog 14 [.agg [.i .i64 n, .i .i64 n, .sl X0, .i .i64 n, .i .i64 m, .sl Y0], .sl (ss.map fR)] (.tup [cV k j (fewA n m k j A B) B, .sl (((lcut 100 ss).take k).map fR)]) [] := by
  have c1 := llist_ok 4000 (by decide) xs lx hx
  have c2 := llist_ok 4000 (by decide) ys ly hy
  have c3 := llist_ok 100 (by decide) ss ls hs
  rw [← hX0] at c1
  rw [← hY0] at c2
  have c1 : PCall Tryz.prog 29 [.sl X0, .i .i64 4000] (.sl ((lcut 4000 xs).map fR)) [] := c1
  have c2 : PCall Tryz.prog 29 [.sl Y0, .i .i64 4000] (.sl ((lcut 4000 ys).map fR)) [] := c2
  have c3 : PCall Tryz.prog 29 [.sl (ss.map fR), .i .i64 100] (.sl ((lcut 100 ss).map fR)) [] := c3
  rw [hXA] at c1
  rw [hYB] at c2
  have cr := r20right_ok n m 3 hn hm A B hA hB (by decide) (by decide)
  rw [hC] at cr
  have hkn : k ≤ n ∧ k ≤ 8 := by rw [hk]; split <;> omega
  have hjm : j ≤ m ∧ j ≤ 5 := by rw [hj]; split <;> omega
  have cof := lof_ok n n n m ((mcells n A (n * n)).map rV) ((mcells m B (n * m)).map rV)
  have hnn : n * n ≤ 60 * 60 := Nat.mul_le_mul hn hn
  have hnm : n * m ≤ 60 * 60 := Nat.mul_le_mul hn hm
  have s1 := fun (i : Nat) (hi : i < n) => effSliceSeg (p := n) (m := n) (o := 0) (t := k) A hi (by omega) hnn
  have s2 := fun (i : Nat) (hi : i < n) => effSliceSeg (p := n) (m := n) (o := k) (t := n - k) A hi (by omega) hnn
  have s3 := fun (i : Nat) (hi : i < n) => effSliceSeg (p := n) (m := m) (o := j) (t := m - j) B hi (by omega) hnm
  have s4 := fun (i : Nat) (hi : i < n) => effSliceSeg (p := n) (m := m) (o := 0) (t := j) B hi (by omega) hnm
  have hoff : ∀ i c, i < n → c < n - k + (m - j) → rL (offF n k j A B i c) ≤ 3 := fun i c hi hc => by
    unfold offF
    split
    · exact hA i _ hi (by omega)
    · exact hB i _ hi (by omega)
  have e8 : (if (8 : Int) < (n : Int) then (8 : Int) else (n : Int)) = (k : Int) := by rw [hk]; split <;> split <;> omega
  have e5 : (if (5 : Int) < (m : Int) then (5 : Int) else (m : Int)) = (j : Int) := by rw [hj]; split <;> split <;> omega
  have hF : ∀ i c, fewA n m k j A B i c = if c = 0 then A i 0 + sumN (n - k + (m - j)) (offF n k j A B i) else A i c := fun i c => by
    rw [offF_sum]
    rfl
  refine PCall.of_ax Tryz.call14 Tryz.func14 rfl (by simp [Tryz.ntmps14]) fun O w => ?_
  simp only [Tryz.ntmps14, Tryz.results14, argFr]
  have hfin : ∀ b : Nat, b = (if k < (lcut 100 ss).length then k else (lcut 100 ss).length) → (lcut 100 ss).take b = (lcut 100 ss).take k := fun b hb => by
    rw [hb]
    split
    · rfl
    · rw [List.take_length, List.take_of_length_le (by omega)]
  unfold cV at *
  generalize fewA n m k j A B = F at *
  generalize hAc : (mcells n A (n * n)).map rV = Ac at *
  generalize hBc : (mcells m B (n * m)).map rV = Bc at *
  generalize lcut 100 ss = s0 at *
  generalize ss.map fR = S0 at *
  refine AX.sregAV [1, 2, 4] (hq := ?_)
  refine AX.sdregCV [1, 2, 4] (aI c1 (aI c2 (aI c3 oT))) (hq := ?_)
  refine AX.sdregAV [1, 2, 4, 6, 7] (hq := ?_)
  have hne : ¬ ((n : Int) ≤ 8 ∧ (m : Int) ≤ 5) := by omega
  refine AX.cut (fun st => Le 0 id ⟨[(7, .i .i64 m), (6, .i .i64 n), (4, .ptr 1 0), (2, .ptr 0 0), (1, .sl (s0.map fR))], [(0, ⟨26, [.i .i64 n, .i .i64 n, .sl Ac, .i .i64 n, .i .i64 m, .sl Bc]⟩), (1, ⟨26, [.i .i64 0, .i .i64 0, .nl, .i .i64 0, .i .i64 0, .nl]⟩)], 2⟩ st) ?_ ?_
  · by_cases h8 : 8 < n
    · refine AX.sregCV [1, 2, 4, 6, 7, 46] (aI cof (aI cr oT)) (hq := ?_)
      refine AX.condF (h := ?_)
      refine AX.keepA [1, 2, 4, 6, 7] (h := ?_)
      refine AX.skip ⟨by first | exact trivial | rfl,
        leQ5
        ⟩
    · have h5 : 5 < m := by omega
      refine AX.sregCV [1, 2, 4, 6, 7, 46] (aI cof (aI cr oT)) (hq := ?_)
      refine AX.condF (h := ?_)
      refine AX.keepA [1, 2, 4, 6, 7] (h := ?_)
      refine AX.skip ⟨by first | exact trivial | rfl,
        leQ5
        ⟩
  rintro st hle
  refine AX.weaken id hle ?_
  clear hle c1 c2 c3 cof cr hne
  refine AX.sregWV [1, 2, 4, 6, 7, 8, 9] (aI @e8 (aI @e5 oT)) oT (hq := ?_)
  refine AX.sregAV [1, 2, 4, 6, 7, 8, 9, 10] (hq := ?_)
  refine AX.own0c 2 2 41 3 rfl rfl (by show 2 < 6; decide) ?_
  refine AX.own0c 2 5 41 3 rfl rfl (by show 5 < 6; decide) ?_
  refine AX.cut (fun st => ∃ us vs : List Rat, us = mcells k F (k * k) ∧ vs = mcells j B (k * j) ∧ Le 0 id ⟨[(10, .ptr 2 0), (8, .i .i64 k), (4, .ptr 1 0), (1, .sl (s0.map fR))], [(1, ⟨26, [.i .i64 0, .i .i64 0, .nl, .i .i64 0, .i .i64 0, .nl]⟩), (2, ⟨26, [.i .i64 k, .i .i64 k, .own 3 0 us.length 3, .i .i64 k, .i .i64 j, .own 4 0 vs.length 3]⟩), (3, ⟨41, qrow us⟩), (4, ⟨41, qrow vs⟩)], 5⟩ st) ?_ ?_
  · refine AX.sregAV [1, 2, 4, 6, 7, 8, 9, 10, 11] (hq := ?_)
    refine AX.weaken id (st' := ⟨[(11, .i .i64 (0 : Nat)), (10, .ptr 2 0), (9, .i .i64 j), (8, .i .i64 k), (7, .i .i64 m), (6, .i .i64 n), (4, .ptr 1 0), (2, .ptr 0 0), (1, .sl (s0.map fR))], [(0, ⟨26, [.i .i64 n, .i .i64 n, .sl Ac, .i .i64 n, .i .i64 m, .sl Bc]⟩), (1, ⟨26, [.i .i64 0, .i .i64 0, .nl, .i .i64 0, .i .i64 0, .nl]⟩), (2, ⟨26, [.i .i64 k, .i .i64 k, .own 3 0 0 3, .i .i64 k, .i .i64 j, .own 4 0 0 3]⟩), (3, ⟨41, qrow []⟩), (4, ⟨41, qrow []⟩)], 5⟩)
      leQ5
      ?_
    refine AX.block ?_
    refine AX.loop (fun N st => ∃ (i p q : Nat) (us vs : List Rat), i ≤ k ∧ N = k - i ∧ p = i * k ∧ q = i * j ∧ us = mcells k F (i * k) ∧ vs = mcells j B (i * j) ∧ st = ⟨[(11, .i .i64 i), (10, .ptr 2 0), (9, .i .i64 j), (8, .i .i64 k), (7, .i .i64 m), (6, .i .i64 n), (4, .ptr 1 0), (2, .ptr 0 0), (1, .sl (s0.map fR))], [(0, ⟨26, [.i .i64 n, .i .i64 n, .sl Ac, .i .i64 n, .i .i64 m, .sl Bc]⟩), (1, ⟨26, [.i .i64 0, .i .i64 0, .nl, .i .i64 0, .i .i64 0, .nl]⟩), (2, ⟨26, [.i .i64 k, .i .i64 k, .own 3 0 p 3, .i .i64 k, .i .i64 j, .own 4 0 q 3]⟩), (3, ⟨41, qrow us⟩), (4, ⟨41, qrow vs⟩)], 5⟩) k ⟨0, 0, 0, [], [], Nat.zero_le _, rfl, by omega, by omega, by rw [Nat.zero_mul]; rfl, by rw [Nat.zero_mul]; rfl, rfl⟩ ?_
    rintro N st ⟨i, p, q, us, vs, hi, rfl, hp, hq, hus, hvs, rfl⟩
    by_cases h1 : i < k
    · have hin : i < n := by omega
      have sA := s1 i hin
      have sA2 := s2 i hin
      have sB := s3 i hin
      have sB2 := s4 i hin
      have hw := fun c hc => hoff i c hin hc
      have hsl := sumN_len (L := 3) (n := n - k + (m - j)) (f := offF n k j A B i) hw
      have hFi := hF i
      have hA0 := hA i 0 hin (by omega)
      obtain ⟨T, hT⟩ : ∃ T, n - k + (m - j) = T := ⟨_, rfl⟩
      have hTb : T ≤ 120 := by omega
      have hvl := offF_vl n m k j A B i
      have hunext := mcells_next k i F
      have hvnext := mcells_next j i B
      have lu : us.length = p := by rw [hus, mcells_length, hp]
      have lv : vs.length = q := by rw [hvs, mcells_length, hq]
      rw [← hus] at hunext
      rw [← hvs] at hvnext
      rw [hT] at hvl hsl hFi hw
      have m1 : (i : Int) * (n : Int) = ((i * n : Nat) : Int) := (Int.natCast_mul i n).symm
      have m2 : ((i + 1 : Nat) : Int) * (n : Int) = ((i * n + n : Nat) : Int) := by rw [← Int.natCast_mul, Nat.succ_mul]
      have m3 : (i : Int) * (m : Int) = ((i * m : Nat) : Int) := (Int.natCast_mul i m).symm
      have m4 : ((i + 1 : Nat) : Int) * (m : Int) = ((i * m + m : Nat) : Int) := by rw [← Int.natCast_mul, Nat.succ_mul]
      have a1 : ((i * n : Nat) : Int) + (k : Int) = ((i * n + k : Nat) : Int) := (Int.natCast_add _ _).symm
      have a2 : ((i * m : Nat) : Int) + (j : Int) = ((i * m + j : Nat) : Int) := (Int.natCast_add _ _).symm
      have bn : i * n ≤ 60 * 60 := Nat.mul_le_mul (by omega) hn
      have bm : i * m ≤ 60 * 60 := Nat.mul_le_mul (by omega) hm
      have bp : p ≤ 8 * 8 := by rw [hp]; exact Nat.mul_le_mul (by omega) (by omega)
      have bq : q ≤ 8 * 8 := by rw [hq]; exact Nat.mul_le_mul (by omega) (by omega)
      clear s1 s2 s3 s4 hoff hA hB hF hC
      have eA : (vl k fun c => A i (0 + c)) = vl k (A i) := vl_congr fun c _ => by rw [Nat.zero_add]
      have eB : (vl j fun c => B i (0 + c)) = vl j (B i) := vl_congr fun c _ => by rw [Nat.zero_add]
      rw [eA] at sA
      rw [eB] at sB2
      have sA := fun x lo hi' => sA x lo hi' (a := ((i * n : Nat) : Int)) (b := ((i * n + k : Nat) : Int)) rfl rfl
      have sA2 := fun x lo hi' => sA2 x lo hi' (a := ((i * n + k : Nat) : Int)) (b := ((i * n + n : Nat) : Int)) rfl (by omega)
      have sB := fun x lo hi' => sB x lo hi' (a := ((i * m + j : Nat) : Int)) (b := ((i * m + m : Nat) : Int)) rfl (by omega)
      have sB2 := fun x lo hi' => sB2 x lo hi' (a := ((i * m : Nat) : Int)) (b := ((i * m + j : Nat) : Int)) rfl rfl
      obtain ⟨z1, hz1⟩ : ∃ z, i * n = z := ⟨_, rfl⟩
      obtain ⟨z2, hz2⟩ : ∃ z, i * m = z := ⟨_, rfl⟩
      rw [hz1] at m1 m2 a1 bn sA sA2
      rw [hz2] at m3 m4 a2 bm sB sB2
      refine AX.seq ?_
      refine AX.sregAV [1, 2, 4, 6, 7, 8, 9, 10, 11, 62] (hq := ?_)
      refine AX.condT (h := ?_)
      refine AX.keepA [1, 2, 4, 6, 7, 8, 9, 10, 11] (h := ?_)
      refine AX.skip ?_
      try simp only [zn1,zn2,zn3,zn4,zn5,zn6,zn7,zn8,if_true]
      refine AX.seq ?_
      refine AX.block ?_
      refine AX.sregEV [1, 2, 4, 6, 7, 8, 9, 10, 11, 12] (aI @m1 (aI @a1 (aI @vl_mlen (aI @flatCells_q (aI @vl_len3 (aI @flat_q (aI @vl_one oT))))))) oT (aI (sA _) oT) (hq := ?_)
      refine AX.cut (fun st => Le 0 id ⟨[(12, .own 6 0 k 3), (11, .i .i64 i), (10, .ptr 2 0), (9, .i .i64 j), (8, .i .i64 k), (7, .i .i64 m), (6, .i .i64 n), (4, .ptr 1 0), (2, .ptr 0 0), (1, .sl (s0.map fR))], [(0, ⟨26, [.i .i64 n, .i .i64 n, .sl Ac, .i .i64 n, .i .i64 m, .sl Bc]⟩), (1, ⟨26, [.i .i64 0, .i .i64 0, .nl, .i .i64 0, .i .i64 0, .nl]⟩), (2, ⟨26, [.i .i64 k, .i .i64 k, .own 3 0 p 3, .i .i64 k, .i .i64 j, .own 4 0 q 3]⟩), (3, ⟨41, qrow us⟩), (4, ⟨41, qrow vs⟩), (6, ⟨41, qrow (vl k (F i))⟩)], 10⟩ st) ?_ ?_
      · refine AX.sdregEV [1, 2, 4, 6, 7, 8, 9, 10, 11, 12, 107, 108, 109] (aI @lit_add (aI @m1 (aI @m2 (aI @m3 (aI @m4 (aI @a1 (aI @a2 (aI @vl_mlen (aI @flatCells_q (aI @vl_len3 (aI @flat_q (aI @vl_one (aI @hT oT))))))))))))) oT (aI (sA2 _) (aI (sB _) oT)) (hq := ?_)
        obtain ⟨w9, hw9⟩ : ∃ l, vl T (offF n k j A B i) = l := ⟨_, rfl⟩
        rw [← qrow_app, ← hvl, hw9]
        refine AX.weaken id (st' := ⟨[(109, .i .i64 (0 : Nat)), (108, .i .i64 T), (107, .own 9 0 T 3), (12, .own 6 0 k 3), (11, .i .i64 i), (10, .ptr 2 0), (9, .i .i64 j), (8, .i .i64 k), (7, .i .i64 m), (6, .i .i64 n), (4, .ptr 1 0), (2, .ptr 0 0), (1, .sl (s0.map fR))], [(0, ⟨26, [.i .i64 n, .i .i64 n, .sl Ac, .i .i64 n, .i .i64 m, .sl Bc]⟩), (1, ⟨26, [.i .i64 0, .i .i64 0, .nl, .i .i64 0, .i .i64 0, .nl]⟩), (2, ⟨26, [.i .i64 k, .i .i64 k, .own 3 0 p 3, .i .i64 k, .i .i64 j, .own 4 0 q 3]⟩), (3, ⟨41, qrow us⟩), (4, ⟨41, qrow vs⟩), (6, ⟨41, qrow (vl k (A i))⟩), (9, ⟨41, qrow w9⟩)], 10⟩)
          leQ5
          ?_
        refine AX.block ?_
        refine AX.loop (fun N st => ∃ (d : Nat) (xs : List Rat), d ≤ T ∧ N = T - d ∧ (xs = vl k fun c => if c = 0 then A i 0 + sumN d (offF n k j A B i) else A i c) ∧ st = ⟨[(109, .i .i64 d), (108, .i .i64 T), (107, .own 9 0 T 3), (12, .own 6 0 k 3), (11, .i .i64 i), (10, .ptr 2 0), (9, .i .i64 j), (8, .i .i64 k), (7, .i .i64 m), (6, .i .i64 n), (4, .ptr 1 0), (2, .ptr 0 0), (1, .sl (s0.map fR))], [(0, ⟨26, [.i .i64 n, .i .i64 n, .sl Ac, .i .i64 n, .i .i64 m, .sl Bc]⟩), (1, ⟨26, [.i .i64 0, .i .i64 0, .nl, .i .i64 0, .i .i64 0, .nl]⟩), (2, ⟨26, [.i .i64 k, .i .i64 k, .own 3 0 p 3, .i .i64 k, .i .i64 j, .own 4 0 q 3]⟩), (3, ⟨41, qrow us⟩), (4, ⟨41, qrow vs⟩), (6, ⟨41, qrow xs⟩), (9, ⟨41, qrow w9⟩)], 10⟩) T ⟨0, _, Nat.zero_le _, rfl, vl_congr fun c _ => by
          show _ = if c = 0 then A i 0 + 0 else A i c
          rw [Rat.add_zero]
          split
          · rename_i h; rw [h]
          · rfl, rfl⟩ ?_
        rintro N st ⟨d, xs, hd, rfl, hxs, rfl⟩
        by_cases h2 : d < T
        · have hk0 : 0 < k := by omega
          have hl := vl_len3 k (fun c => if c = 0 then A i 0 + sumN d (offF n k j A B i) else A i c)
          have hg := vl_get3 (fun c => if c = 0 then A i 0 + sumN d (offF n k j A B i) else A i c) hk0
          have hset := vl_set3 (fun c => if c = 0 then A i 0 + sumN d (offF n k j A B i) else A i c) (A i 0 + sumN d (offF n k j A B i) + offF n k j A B i d) hk0
          rw [if_pos rfl] at hg
          rw [← hxs] at hl hg hset
          obtain ⟨ys, hys⟩ : ∃ ys, (vl k fun k' => if k' = 0 then A i 0 + sumN d (offF n k j A B i) + offF n k j A B i d else if k' = 0 then A i 0 + sumN d (offF n k j A B i) else A i k') = ys := ⟨_, rfl⟩
          rw [hys] at hset
          have hys' : ys = vl k fun c => if c = 0 then A i 0 + sumN (d + 1) (offF n k j A B i) else A i c := by
            rw [← hys]
            refine vl_congr fun c _ => ?_
            by_cases h : c = 0
            · rw [if_pos h, if_pos h, sumN_succ, Rat.add_assoc]
            · rw [if_neg h, if_neg h, if_neg h]
          have hl9 := vl_len3 T (offF n k j A B i)
          have hg9 := vl_get3 (offF n k j A B i) h2
          rw [hw9] at hl9 hg9
          have b1 := hsl d (by omega)
          have b2 := rL_add (A i 0) (sumN d (offF n k j A B i)) hA0 b1
          have b3 := hw d h2
          have ca : PCall Tryz.prog 33 [.agg [.b (decide ((A i 0 + sumN d (offF n k j A B i)).num < 0)), dg (digits (A i 0 + sumN d (offF n k j A B i)).num.natAbs), dg (digits (A i 0 + sumN d (offF n k j A B i)).den)], .agg [.b (decide ((offF n k j A B i d).num < 0)), dg (digits (offF n k j A B i d).num.natAbs), dg (digits (offF n k j A B i d).den)]] (.agg [.b (decide ((A i 0 + sumN d (offF n k j A B i) + offF n k j A B i d).num < 0)), dg (digits (A i 0 + sumN d (offF n k j A B i) + offF n k j A B i d).num.natAbs), dg (digits (A i 0 + sumN d (offF n k j A B i) + offF n k j A B i d).den)]) [] := padd_ok (L := 1000) (IsQ.of (by omega)) (IsQ.of (by omega)) (by decide) (by decide)
          rw [Nat.zero_mul] at hg hset
          rw [List.drop_zero] at hg
          clear hys hxs b1 b2 b3 hsl hw hvl hFi hA0
          generalize A i 0 + sumN d (offF n k j A B i) + offF n k j A B i d = y3 at *
          generalize A i 0 + sumN d (offF n k j A B i) = y1 at *
          generalize offF n k j A B i d = y2 at *
          refine AX.sregAV [1, 2, 4, 6, 7, 8, 9, 10, 11, 12, 107, 108, 109, 110] (hq := ?_)
          refine AX.seq ?_
          refine AX.condT (h := ?_)
          refine AX.keepA [1, 2, 4, 6, 7, 8, 9, 10, 11, 12, 107, 108, 109] (h := ?_)
          refine AX.skip ?_
          try simp only [zn1,zn2,zn3,zn4,zn5,zn6,zn7,zn8,if_true]
          refine AX.seq ?_
          refine AX.block ?_
          refine AX.sregWV [1, 2, 4, 6, 7, 8, 9, 10, 11, 12, 14, 107, 108, 109] (aI @hl9 (aI @hg9 oT)) oT (hq := ?_)
          refine AX.dregWV [1, 2, 4, 6, 7, 8, 9, 10, 11, 12, 107, 108, 109] (aI @hl (aI @hg oT)) (aI ca oT) (hq := ?_)
          try simp only [zn1,zn2,zn3,zn4,zn5,zn6,zn7,zn8,if_true]
          rw [hset]
          refine AX.regWV [1, 2, 4, 6, 7, 8, 9, 10, 11, 12, 107, 108, 109] (aI @lit_add oT) oT (hq := ?_)
          try simp only [zn1,zn2,zn3,zn4,zn5,zn6,zn7,zn8,if_true]
          refine ⟨_, _, id, ?_,
            leQ5
            , ⟨d + 1, ys, by omega, rfl, hys', rfl⟩⟩
          omega
        · have e : d = T := by omega
          subst e
          have hxF : xs = vl k (F i) := by
            rw [hxs]
            exact vl_congr fun c _ => (hFi c).symm
          rw [hxF]
          refine AX.sregAV [1, 2, 4, 6, 7, 8, 9, 10, 11, 12, 107, 108, 109, 110] (hq := ?_)
          refine AX.seq ?_
          refine AX.condF (h := ?_)
          refine AX.exit ?_
          try simp only [zn1,zn2,zn3,zn4,zn5,zn6,zn7,zn8,if_true]
          exact ⟨by first | exact trivial | rfl,
            leQ5
            ⟩
      rintro st hle
      refine AX.weaken id hle ?_
      clear hle hsl hw hvl hFi hA0
      have hlu : (qrow us).length = p * 3 := by rw [qrow_length, lu]
      have hlv : (qrow vs).length = q * 3 := by rw [qrow_length, lv]
      refine AX.sregWV [1, 2, 4, 6, 7, 8, 9, 10, 11] (aI @hlu (aI @take_vl (aI @vl_len3 (aI @flat_q oT)))) oT (hq := ?_)
      refine AX.dregEV [1, 2, 4, 6, 7, 8, 9, 10, 11] (aI @m3 (aI @a2 (aI @hlv (aI @vl_mlen (aI @flatCells_q (aI @vl_len3 (aI @flat_q (aI @vl_one oT)))))))) oT (aI (sB2 _) oT) (hq := ?_)
      try simp only [zn1,zn2,zn3,zn4,zn5,zn6,zn7,zn8,if_true]
      rw [← qrow_app, ← qrow_app, hunext, hvnext]
      refine AX.regWV [1, 2, 4, 6, 7, 8, 9, 10, 11] (aI @lit_add oT) oT (hq := ?_)
      try simp only [zn1,zn2,zn3,zn4,zn5,zn6,zn7,zn8,if_true]
      refine ⟨_, _, fun n => if n = 3 then 10 else if n = 4 then 11 else n, ?_,
        leQ5
        , ⟨i + 1, p + k, q + j, _, _, by omega, rfl, by rw [hp, Nat.succ_mul], by rw [hq, Nat.succ_mul], rfl, rfl, rfl⟩⟩
      omega
    · have e : i = k := by omega
      subst e
      have lu : us.length = p := by rw [hus, mcells_length, hp]
      have lv : vs.length = q := by rw [hvs, mcells_length, hq]
      subst lu lv
      refine AX.seq ?_
      refine AX.sregAV [1, 2, 4, 6, 7, 8, 9, 10, 11, 62] (hq := ?_)
      refine AX.condF (h := ?_)
      refine AX.exit ?_
      try simp only [zn1,zn2,zn3,zn4,zn5,zn6,zn7,zn8,if_true]
      refine ⟨by first | exact trivial | rfl, us, vs, hus, hvs,
        leQ5
        ⟩
  rintro st ⟨us, vs, hus, hvs, hle⟩
  refine AX.weaken id hle ?_
  clear hle
  rw [← hus, ← hvs]
  refine AX.fz 3 (fr' := [(10, .ptr 2 0), (8, .i .i64 k), (4, .ptr 1 0), (1, .sl (s0.map fR))]) (hp' := [(1, ⟨26, [.i .i64 0, .i .i64 0, .nl, .i .i64 0, .i .i64 0, .nl]⟩), (2, ⟨26, [.i .i64 k, .i .i64 k, .sl (us.map rV), .i .i64 k, .i .i64 j, .own 4 0 vs.length 3]⟩), (4, ⟨41, qrow vs⟩)]) rfl (hf_q us) (.cons rfl .same (.cons rfl .same (.cons rfl .same (.cons rfl .same .nil)))) (.keep (by decide) rfl (.cons (by decide) rfl rfl rfl (fun t ht => ?_) (.keep (by decide) rfl .nil))) ?_
  · have : t = 0 ∨ t = 1 ∨ t = 2 ∨ t = 3 ∨ t = 4 ∨ t = 5 := by simp at ht; omega
    rcases this with rfl | rfl | rfl | rfl | rfl | rfl
    · exact .same
    · exact .same
    · exact .own (okFrz_q us) (by rw [take_q, chunks_q])
    · exact .same
    · exact .same
    · exact .same
  refine AX.fz 4 (fr' := [(10, .ptr 2 0), (8, .i .i64 k), (4, .ptr 1 0), (1, .sl (s0.map fR))]) (hp' := [(1, ⟨26, [.i .i64 0, .i .i64 0, .nl, .i .i64 0, .i .i64 0, .nl]⟩), (2, ⟨26, [.i .i64 k, .i .i64 k, .sl (us.map rV), .i .i64 k, .i .i64 j, .sl (vs.map rV)]⟩)]) rfl (hf_q vs) (.cons rfl .same (.cons rfl .same (.cons rfl .same (.cons rfl .same .nil)))) (.keep (by decide) rfl (.cons (by decide) rfl rfl rfl (fun t ht => ?_) .nil)) ?_
  · have : t = 0 ∨ t = 1 ∨ t = 2 ∨ t = 3 ∨ t = 4 ∨ t = 5 := by simp at ht; omega
    rcases this with rfl | rfl | rfl | rfl | rfl | rfl
    · exact .same
    · exact .same
    · exact .same
    · exact .same
    · exact .same
    · exact .own (okFrz_q vs) (by rw [take_q, chunks_q])
  obtain ⟨b, hb, hb1⟩ : ∃ b : Nat, (if (k : Int) < (s0.length : Int) then (k : Int) else (s0.length : Int)) = (b : Int) ∧ b = (if k < s0.length then k else s0.length) := ⟨_, by split <;> split <;> omega, rfl⟩
  have hbl : b ≤ s0.length := by rw [hb1]; split <;> omega
  have he := effHiR hbl
  rw [hfin b hb1] at he
  have hs0 : (s0.map fR).length = s0.length := List.length_map ..
  generalize (s0.take k).map fR = sk at *
  generalize s0.map fR = sl0 at *
  generalize us.map rV = Uc at *
  generalize vs.map rV = Vc at *
  refine AX.sdregEV [4, 5] (aI @hs0 (aI @hb oT)) oT (aI he oT) (hq := ?_)
  refine AX.ret (And.intro (Or.inl rfl) ?_)
  exact dnQ5

end Go.Proofs.YtepkjfnffbdcoaaGreat
