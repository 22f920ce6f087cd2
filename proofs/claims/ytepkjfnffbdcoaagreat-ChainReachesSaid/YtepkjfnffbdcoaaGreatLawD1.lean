/- Statements about chains: ChainReaches. -/
import Derived.Test.YtepkjfnffbdcoaaGreatRfH
import Derived.Test.YtepkjfnffbdcoaaGreatHN
set_option linter.unusedVariables false
set_option maxRecDepth 20000
set_option linter.unusedSimpArgs false
namespace Go.Proofs.YtepkjfnffbdcoaaGreat
open Go Go.Proofs.YtepkjfnffbdcoaaGreat.Lift
attribute [local irreducible] Lift.PCall Lift.HCall
set_option maxHeartbeats 8000000 in
theorem sets_ok (L : List (List Nat)) (hL : L.length < 2 ^ 40) (hl : ∀ l ∈ L, l.length < 2 ^ 40) : PCall Tryz.prog 52 [.sl (sll L), .sl (sll L)] (.b true) [] := by
  refine PCall.of_ax Tryz.call52 Tryz.func52 rfl (by simp [Tryz.ntmps52]) fun O w0 => ?_
  simp only [Tryz.ntmps52, Tryz.results52, argFr]
  have hsl := sll_length L
  have hsg := fun j (hj : j < L.length) => sll_get hj
  have hml : ∀ j, j < L.length → (L.getD j []).length < 2 ^ 40 := fun j hj => hl _ (by rw [List.getD_eq_getElem?_getD, List.getElem?_eq_getElem hj]; exact List.getElem_mem _)
  generalize sll L = S at *
  refine AX.sregAV [0, 1] (hq := ?_)
  refine AX.seq ?_
  refine AX.sregAV [0, 1, 11] (hq := ?_)
  refine AX.condF (h := ?_)
  refine AX.keepA [0, 1] (h := ?_)
  refine AX.skip ?_
  try simp only [zn1,zn2,zn3,zn4,zn5,zn6,zn7,zn8,if_true]
  refine AX.seq ?_
  refine AX.sregWV [0, 1, 13, 14] (aI @hsl oT) oT (hq := ?_)
  refine AX.weaken id (st' := ⟨[(14, .i .i64 (0 : Nat)), (13, .i .i64 L.length), (1, .sl S), (0, .sl S)], [], 0⟩)
    leQ9
    ?_
  refine AX.block ?_
  refine AX.loop (fun N st => ∃ i : Nat, i ≤ L.length ∧ N = L.length - i ∧ st = ⟨[(14, .i .i64 i), (13, .i .i64 L.length), (1, .sl S), (0, .sl S)], [], 0⟩) L.length ⟨0, Nat.zero_le _, rfl, rfl⟩ ?_
  rintro N st ⟨i, hi, rfl, rfl⟩
  by_cases h1 : i < L.length
  · have hg := hsg i h1
    have hm := hml i h1
    have hil := il_length (L.getD i [])
    have hix := fun k (hk : k < (L.getD i []).length) => il_get hk
    clear hsg hml hl
    generalize L.getD i [] = l at *
    generalize il l = Il at *
    refine AX.sregAV [0, 1, 13, 14, 15] (hq := ?_)
    refine AX.seq ?_
    refine AX.condT (h := ?_)
    refine AX.keepA [0, 1, 13, 14] (h := ?_)
    refine AX.skip ?_
    try simp only [zn1,zn2,zn3,zn4,zn5,zn6,zn7,zn8,if_true]
    refine AX.seq ?_
    refine AX.block ?_
    refine AX.sregAV [0, 1, 5, 13, 14] (hq := ?_)
    refine AX.seq ?_
    refine AX.sdregWV [0, 1, 5, 13, 14, 27] (aI @hsl (aI @hg (aI @hil oT))) oT (hq := ?_)
    refine AX.condF (h := ?_)
    refine AX.keepA [0, 1, 5, 13, 14] (h := ?_)
    refine AX.skip ?_
    try simp only [zn1,zn2,zn3,zn4,zn5,zn6,zn7,zn8,if_true]
    refine AX.sregWV [0, 1, 5, 13, 14, 32, 33] (aI @hsl (aI @hg (aI @hil oT))) oT (hq := ?_)
    refine AX.weaken id (st' := ⟨[(33, .i .i64 (0 : Nat)), (32, .i .i64 l.length), (14, .i .i64 i), (13, .i .i64 L.length), (5, .i .i64 i), (1, .sl S), (0, .sl S)], [], 0⟩)
      leQ9
      ?_
    refine AX.block ?_
    refine AX.loop (fun N st => ∃ k : Nat, k ≤ l.length ∧ N = l.length - k ∧ st = ⟨[(33, .i .i64 k), (32, .i .i64 l.length), (14, .i .i64 i), (13, .i .i64 L.length), (5, .i .i64 i), (1, .sl S), (0, .sl S)], [], 0⟩) l.length ⟨0, Nat.zero_le _, rfl, rfl⟩ ?_
    rintro N st ⟨k, hk, rfl, rfl⟩
    by_cases h2 : k < l.length
    · have hgk := hix k h2
      clear hix
      generalize l.getD k 0 = d at *
      refine AX.sregAV [0, 1, 5, 13, 14, 32, 33, 34] (hq := ?_)
      refine AX.seq ?_
      refine AX.condT (h := ?_)
      refine AX.keepA [0, 1, 5, 13, 14, 32, 33] (h := ?_)
      refine AX.skip ?_
      try simp only [zn1,zn2,zn3,zn4,zn5,zn6,zn7,zn8,if_true]
      refine AX.seq ?_
      refine AX.block ?_
      refine AX.sregAV [0, 1, 5, 6, 13, 14, 32, 33] (hq := ?_)
      refine AX.sdregWV [0, 1, 5, 13, 14, 32, 33, 50] (aI @hsl (aI @hg (aI @hil (aI @hgk oT)))) oT (hq := ?_)
      refine AX.condF (h := ?_)
      refine AX.keepA [0, 1, 5, 13, 14, 32, 33] (h := ?_)
      refine AX.skip ?_
      try simp only [zn1,zn2,zn3,zn4,zn5,zn6,zn7,zn8,if_true]
      refine AX.regWV [0, 1, 5, 13, 14, 32, 33] (aI @lit_add oT) oT (hq := ?_)
      try simp only [zn1,zn2,zn3,zn4,zn5,zn6,zn7,zn8,if_true]
      refine ⟨_, _, id, ?_,
        leQ9
        , ⟨k + 1, by omega, rfl, rfl⟩⟩
      omega
    · have e : k = l.length := by omega
      subst e
      refine AX.sregAV [0, 1, 5, 13, 14, 32, 33, 34] (hq := ?_)
      refine AX.seq ?_
      refine AX.condF (h := ?_)
      refine AX.exit ?_
      try simp only [zn1,zn2,zn3,zn4,zn5,zn6,zn7,zn8,if_true]
      refine AX.regWV [0, 1, 13, 14] (aI @lit_add oT) oT (hq := ?_)
      try simp only [zn1,zn2,zn3,zn4,zn5,zn6,zn7,zn8,if_true]
      refine ⟨_, _, id, ?_,
        leQ9
        , ⟨i + 1, by omega, rfl, rfl⟩⟩
      omega
  · have e : i = L.length := by omega
    subst e
    refine AX.sregAV [0, 1, 13, 14, 15] (hq := ?_)
    refine AX.seq ?_
    refine AX.condF (h := ?_)
    refine AX.exit ?_
    try simp only [zn1,zn2,zn3,zn4,zn5,zn6,zn7,zn8,if_true]
    refine AX.sregAV [4] (hq := ?_)
    refine AX.ret (And.intro (Or.inl rfl) ?_)
    exact Done.one rfl rfl rfl rfl
/-- Both reach the same, and have the same closed classes. -/
def Meet (c : V) : Prop := ∃ (p : Nat) (f : Nat → Bool) (L : List (List Nat)), p ≤ 60 ∧ L.length < 2 ^ 40 ∧ (∀ l ∈ L, l.length < 2 ^ 40) ∧
  PCall Tryz.prog 50 [c] (.sl (bl p f)) [] ∧ PCall Tryz.prog 51 [c] (.sl (bl p f)) [] ∧ PCall Tryz.prog 49 [c] (.sl (sll L)) [] ∧ PCall Tryz.prog 28 [c] (.sl (sll L)) []
theorem shutL_len {n : Nat} {F : Nat → Nat → Bool} {r : Nat → Bool} (i : Nat) : (shutL n F r i).length ≤ i ∧ ∀ l ∈ shutL n F r i, l.length ≤ n := by
  induction i with
  | zero => exact ⟨Nat.le_refl _, fun l h => nomatch h⟩
  | succ i ih =>
    unfold shutL
    split
    · refine ⟨by rw [List.length_append, List.length_singleton]; omega, fun l h => ?_⟩
      rcases List.mem_append.1 h with h | h
      · exact ih.2 l h
      · rw [List.mem_singleton.1 h]
        exact pick_le _ _
    · exact ⟨by omega, ih.2⟩
theorem Few.meet {c : V} (h : Few c) : Meet c := by
  cases h with
  | shape R1 C1 R2 C2 xs ys h1 h2 h3 h4 hx hy lx ly hno =>
    have c1 := cright_not R1 C1 R2 C2 xs ys h1 h2 h3 h4 hx hy (by omega) (by omega) hno
    have c2 := r20right_not R1 C1 R2 C2 xs ys h1 h2 h3 h4 hx hy (by omega) (by omega) hno
    exact ⟨0, fun _ => false, [], by decide, by decide, (fun l h => nomatch h), creaches_not _ R1 C1 R2 C2 _ _ rfl c1, rreaches_not _ R1 C1 R2 C2 _ _ rfl c2, cclosed_not _ R1 C1 R2 C2 _ _ rfl c1, rclosed_not _ R1 C1 R2 C2 _ _ rfl c2⟩
  | rows n m A B hn hm hA hB hC =>
    have c1 := cright_ok n m 3 hn hm A B hA hB (by decide) (by decide)
    have c2 := r20right_ok n m 3 hn hm A B hA hB (by decide) (by decide)
    rw [hC] at c1 c2
    exact ⟨0, fun _ => false, [], by decide, by decide, (fun l h => nomatch h), creaches_not _ n n n m _ _ rfl c1, rreaches_not _ n n n m _ _ rfl c2, cclosed_not _ n n n m _ _ rfl c1, rclosed_not _ n n n m _ _ rfl c2⟩
  | ok n m A B hn hm hA hB hC =>
    have c1 := cright_ok n m 38 (by omega) (by omega) A B hA hB (by decide) (by decide)
    rw [hC] at c1
    have hs := shutL_len (n := n) (F := toB n A) (r := rchB n m A B) n
    exact ⟨n, _, closedL n m A B, by omega, by have := hs.1; unfold closedL; omega, (fun l h => by have := hs.2 l h; omega), creaches_ok _ n n n m _ _ _ rfl c1 (reaches_ok n m 38 (by omega) (by omega) A B hC), rreaches_ok n m 38 (by omega) (by omega) A B hC hA hB (by decide) (by decide),
      cclosed_ok n m 38 (by omega) (by omega) A B hC hA hB (by decide) (by decide), rclosed_ok n m 38 (by omega) (by omega) A B hC hA hB (by decide) (by decide)⟩
set_option maxHeartbeats 8000000 in
theorem reaches_rest (c c' : V) (S' : List V) (R1 C1 R2 C2 : Int) (x y : List V) (hc : c = .agg [.i .i64 R1, .i .i64 C1, .sl x, .i .i64 R2, .i .i64 C2, .sl y]) (R1' C1' R2' C2' : Int) (x' y' : List V) (hc' : c' = .agg [.i .i64 R1', .i .i64 C1', .sl x', .i .i64 R2', .i .i64 C2', .sl y'])
    (cf : PCall Tryz.prog 14 [c, .sl []] (.tup [c', .sl S']) []) (hm : Meet c') : PCall Tryz.prog 11 [c] (.b true) [] := by
  obtain ⟨n, f, L, hn, l1, l2, c1, c2, c3, c4⟩ := hm
  subst hc hc'
  have cof := lof_ok R1' C1' R2' C2' x' y'
  have cal := lalive_ok
  have cs := sets_ok L l1 l2
  have hl := bl_length n f
  have hg := fun i (hi : i < n) => bl_get f hi
  generalize sll L = S at *
  generalize bl n f = Bf at *
  refine PCall.of_ax Tryz.call11 Tryz.func11 rfl (by simp [Tryz.ntmps11]) fun O w0 => ?_
  simp only [Tryz.ntmps11, Tryz.results11, argFr]
  refine AX.sregAV [1] (hq := ?_)
  refine AX.sregCV [1] (aI cf oT) (hq := ?_)
  refine AX.sdregCV [1, 3, 4] (aI c1 (aI cof (aI c2 oT))) (hq := ?_)
  refine AX.seq ?_
  refine AX.sregWV [1, 3, 4, 20] (aI @hl oT) oT (hq := ?_)
  refine AX.condF (h := ?_)
  refine AX.keepA [1, 3, 4] (h := ?_)
  refine AX.skip ?_
  try simp only [zn1,zn2,zn3,zn4,zn5,zn6,zn7,zn8,if_true]
  refine AX.seq ?_
  refine AX.sregWV [1, 3, 4, 22, 23] (aI @hl oT) oT (hq := ?_)
  refine AX.weaken id (st' := ⟨[(23, .i .i64 (0 : Nat)), (22, .i .i64 n), (4, .sl Bf), (3, .sl Bf), (1, .ptr 0 0)], [(0, ⟨26, [.i .i64 R1', .i .i64 C1', .sl x', .i .i64 R2', .i .i64 C2', .sl y']⟩)], 1⟩)
    leQ9
    ?_
  refine AX.block ?_
  refine AX.loop (fun N st => ∃ i : Nat, i ≤ n ∧ N = n - i ∧ st = ⟨[(23, .i .i64 i), (22, .i .i64 n), (4, .sl Bf), (3, .sl Bf), (1, .ptr 0 0)], [(0, ⟨26, [.i .i64 R1', .i .i64 C1', .sl x', .i .i64 R2', .i .i64 C2', .sl y']⟩)], 1⟩) n ⟨0, Nat.zero_le _, rfl, rfl⟩ ?_
  rintro N st ⟨i, hi, rfl, rfl⟩
  by_cases h1 : i < n
  · have hgi := hg i h1
    clear hg
    generalize f i = b at *
    refine AX.sregAV [1, 3, 4, 22, 23, 24] (hq := ?_)
    refine AX.seq ?_
    refine AX.condT (h := ?_)
    refine AX.keepA [1, 3, 4, 22, 23] (h := ?_)
    refine AX.skip ?_
    try simp only [zn1,zn2,zn3,zn4,zn5,zn6,zn7,zn8,if_true]
    refine AX.seq ?_
    refine AX.block ?_
    refine AX.sregAV [1, 3, 4, 5, 22, 23] (hq := ?_)
    cases b
    · refine AX.sdregWV [1, 3, 4, 22, 23, 34] (aI @hl (aI @hgi oT)) oT (hq := ?_)
      refine AX.condF (h := ?_)
      refine AX.keepA [1, 3, 4, 22, 23] (h := ?_)
      refine AX.skip ?_
      try simp only [zn1,zn2,zn3,zn4,zn5,zn6,zn7,zn8,if_true]
      refine AX.regWV [1, 3, 4, 22, 23] (aI @lit_add oT) oT (hq := ?_)
      try simp only [zn1,zn2,zn3,zn4,zn5,zn6,zn7,zn8,if_true]
      refine ⟨_, _, id, ?_,
        leQ9
        , ⟨i + 1, by omega, rfl, rfl⟩⟩
      omega
    · refine AX.sdregWV [1, 3, 4, 22, 23, 34] (aI @hl (aI @hgi oT)) oT (hq := ?_)
      refine AX.condF (h := ?_)
      refine AX.keepA [1, 3, 4, 22, 23] (h := ?_)
      refine AX.skip ?_
      try simp only [zn1,zn2,zn3,zn4,zn5,zn6,zn7,zn8,if_true]
      refine AX.regWV [1, 3, 4, 22, 23] (aI @lit_add oT) oT (hq := ?_)
      try simp only [zn1,zn2,zn3,zn4,zn5,zn6,zn7,zn8,if_true]
      refine ⟨_, _, id, ?_,
        leQ9
        , ⟨i + 1, by omega, rfl, rfl⟩⟩
      omega
  · have e : i = n := by omega
    subst e
    refine AX.sregAV [1, 3, 4, 22, 23, 24] (hq := ?_)
    refine AX.seq ?_
    refine AX.condF (h := ?_)
    refine AX.exit ?_
    try simp only [zn1,zn2,zn3,zn4,zn5,zn6,zn7,zn8,if_true]
    refine AX.sdregCV [2] (aI c3 (aI cof (aI c4 (aI cs (aI cal oT))))) (hq := ?_)
    refine AX.ret (And.intro (Or.inl rfl) ?_)
    exact Done.one rfl rfl rfl rfl
theorem few_all_nil (R1 C1 R2 C2 : Int) (xs ys : List RT) (h1 : bd R1) (h2 : bd C1) (h3 : bd R2) (h4 : bd C2) (hx : okRT xs) (hy : okRT ys) (lx : xs.length < 2 ^ 62) (ly : ys.length < 2 ^ 62) :
    ∃ (c' : V) (S' : List V), PCall Tryz.prog 14 [.agg [.i .i64 R1, .i .i64 C1, .sl (xs.map fR), .i .i64 R2, .i .i64 C2, .sl (ys.map fR)], .sl []] (.tup [c', .sl S']) [] ∧ Few c' := by
  obtain ⟨c', S', cf, hf, s1, s2, s3⟩ := few_all R1 C1 R2 C2 xs ys [] h1 h2 h3 h4 hx hy (fun x h => nomatch h) lx ly (by decide)
  exact ⟨c', _, cf, hf⟩
theorem chainReaches_ok (R1 C1 R2 C2 : Int) (xs ys : List RT) (h1 : bd R1) (h2 : bd C1) (h3 : bd R2) (h4 : bd C2) (hx : okRT xs) (hy : okRT ys) (lx : xs.length < 2 ^ 62) (ly : ys.length < 2 ^ 62) :
    PCall Tryz.prog 11 [.agg [.i .i64 R1, .i .i64 C1, .sl (xs.map fR), .i .i64 R2, .i .i64 C2, .sl (ys.map fR)]] (.b true) [] := by
  obtain ⟨c', S', cf, hf⟩ := few_all_nil R1 C1 R2 C2 xs ys h1 h2 h3 h4 hx hy lx ly
  obtain ⟨R1', C1', R2', C2', x', y', e⟩ := hf.shaped
  exact reaches_rest _ c' S' R1 C1 R2 C2 _ _ rfl R1' C1' R2' C2' x' y' e cf hf.meet
end Go.Proofs.YtepkjfnffbdcoaaGreat
