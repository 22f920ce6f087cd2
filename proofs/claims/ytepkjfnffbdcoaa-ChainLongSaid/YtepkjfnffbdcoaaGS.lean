/- Fractions: Sum; the law's few, Same and made. -/
import Derived.Test.YtepkjfnffbdcoaaGR
set_option linter.unusedVariables false
set_option maxRecDepth 20000
set_option linter.unusedSimpArgs false
namespace Go.Proofs.Ytepkjfnffbdcoaa
open Go Go.Proofs.Ytepkjfnffbdcoaa.Lift
attribute [local irreducible] Lift.PCall Lift.HCall

theorem rL_mk (z : Int) (n L : Nat) (hz : (digits z.natAbs).length ≤ L) (hn : (digits n).length ≤ L) (hL : 1 ≤ L) : rL (mkRat z n) ≤ L := by
  have e : mkRat z n = rq (decide (z < 0)) z.natAbs n := by
    unfold rq
    rw [sg_self]
  rw [e]
  exact rL_rq hz hn hL
theorem len_sum {m n K : Nat} (hm : (digits m).length ≤ K) (hn : (digits n).length ≤ K) : (digits (m + n)).length ≤ K + 1 := by
  apply digits_length_le
  have h1 := val_lt (Dg_digits m)
  have h2 := val_lt (Dg_digits n)
  rw [val_digits] at h1 h2
  have h3 : (4294967296 : Nat) ^ (digits m).length ≤ 4294967296 ^ K := Nat.pow_le_pow_right (by omega) hm
  have h4 : (4294967296 : Nat) ^ (digits n).length ≤ 4294967296 ^ K := Nat.pow_le_pow_right (by omega) hn
  rw [Nat.pow_succ]
  omega
theorem rL_add (p q : Rat) {A B : Nat} (hp : rL p ≤ A) (hq : rL q ≤ B) : rL (p + q) ≤ A + B + 1 := by
  have ep := rq_self p
  have eq := rq_self q
  have p1 : (digits p.num.natAbs).length ≤ A := Nat.le_trans (Nat.le_max_left _ _) hp
  have p2 : (digits p.den).length ≤ A := Nat.le_trans (Nat.le_max_right _ _) hp
  have q1 : (digits q.num.natAbs).length ≤ B := Nat.le_trans (Nat.le_max_left _ _) hq
  have q2 : (digits q.den).length ≤ B := Nat.le_trans (Nat.le_max_right _ _) hq
  rw [← ep, ← eq, add_rq p.den_nz q.den_nz]
  have l1 := digits_len_mul p.num.natAbs q.den
  have l2 := digits_len_mul q.num.natAbs p.den
  have l3 := digits_len_mul p.den q.den
  have l4 := len_sum (m := p.num.natAbs * q.den) (n := q.num.natAbs * p.den) (K := A + B) (by omega) (by omega)
  refine rL_mk _ _ _ ?_ (by omega) (by omega)
  refine Nat.le_trans (digits_len_mono (n := p.num.natAbs * q.den + q.num.natAbs * p.den) ?_) ?_
  · have h1 := sg_natAbs (decide (p.num < 0)) (p.num.natAbs * q.den)
    have h2 := sg_natAbs (decide (q.num < 0)) (q.num.natAbs * p.den)
    omega
  · omega
theorem rL_mul (p q : Rat) {A B : Nat} (hp : rL p ≤ A) (hq : rL q ≤ B) (h : 1 ≤ A + B) : rL (p * q) ≤ A + B := by
  have ep := rq_self p
  have eq := rq_self q
  have p1 : (digits p.num.natAbs).length ≤ A := Nat.le_trans (Nat.le_max_left _ _) hp
  have p2 : (digits p.den).length ≤ A := Nat.le_trans (Nat.le_max_right _ _) hp
  have q1 : (digits q.num.natAbs).length ≤ B := Nat.le_trans (Nat.le_max_left _ _) hq
  have q2 : (digits q.den).length ≤ B := Nat.le_trans (Nat.le_max_right _ _) hq
  rw [← ep, ← eq, mul_rq]
  have l1 := digits_len_mul p.num.natAbs q.num.natAbs
  have l3 := digits_len_mul p.den q.den
  exact rL_rq (by omega) (by omega) (by omega)
theorem rL_div (p q : Rat) {A B : Nat} (hp : rL p ≤ A) (hq : rL q ≤ B) (h : 1 ≤ A + B) : rL (p / q) ≤ A + B := by
  have ep := rq_self p
  have eq := rq_self q
  have p1 : (digits p.num.natAbs).length ≤ A := Nat.le_trans (Nat.le_max_left _ _) hp
  have p2 : (digits p.den).length ≤ A := Nat.le_trans (Nat.le_max_right _ _) hp
  have q1 : (digits q.num.natAbs).length ≤ B := Nat.le_trans (Nat.le_max_left _ _) hq
  have q2 : (digits q.den).length ≤ B := Nat.le_trans (Nat.le_max_right _ _) hq
  rw [← ep, ← eq, div_rq]
  have l1 := digits_len_mul p.num.natAbs q.den
  have l3 := digits_len_mul p.den q.num.natAbs
  exact rL_rq (by omega) (by omega) (by omega)
theorem rL_sub (p q : Rat) {A B : Nat} (hp : rL p ≤ A) (hq : rL q ≤ B) : rL (p - q) ≤ A + B + 1 := by
  rw [Rat.sub_eq_add_neg]
  exact rL_add _ _ hp (by rw [rL_neg]; exact hq)

/-- The sum of the first n. -/
def sumTo (qs : List Rat) : Nat → Rat
  | 0 => 0
  | n + 1 => sumTo qs n + qs.getD n 0
def IsQs (els : List V) (qs : List Rat) (L : Nat) : Prop := els.length = qs.length ∧ ∀ i, i < els.length → IsQ (els.getD i .junk) (qs.getD i 0) L
theorem IsQ.rL {v : V} {q : Rat} {L : Nat} (h : IsQ v q L) (hL : 1 ≤ L) : rL q ≤ L := by
  obtain ⟨s, a, b, rfl, ha, hb, hq, hla, hlb⟩ := h
  rw [← hq]
  exact rL_rq (Nat.le_trans (digits_length_val ha) hla) (Nat.le_trans (digits_length_val hb) hlb) hL
theorem sumTo_len {els : List V} {qs : List Rat} {L : Nat} (h : IsQs els qs L) (hL : 1 ≤ L) : ∀ n, n ≤ els.length → rL (sumTo qs n) ≤ n * (L + 1) + 1
  | 0, _ => by
    have e : sumTo qs 0 = 0 := rfl
    rw [e]
    unfold Go.Proofs.Ytepkjfnffbdcoaa.rL
    have h0 : (0 : Rat).num.natAbs = 0 := rfl
    have h1 : (0 : Rat).den = 1 := rfl
    rw [h0, h1, digits_zero]
    have := lenS (n := 1) (by omega)
    have : (digits 1).length ≤ 1 := digits_length_le (by omega)
    simp
    omega
  | n + 1, hn => by
    have ih := sumTo_len h hL n (by omega)
    have := rL_add (sumTo qs n) (qs.getD n 0) ih ((h.2 n (by omega)).rL hL)
    have e : (n + 1) * (L + 1) = n * (L + 1) + (L + 1) := by rw [Nat.succ_mul]
    rw [e]
    show rL (sumTo qs n + qs.getD n 0) ≤ _
    omega

attribute [go_sem] Try.underlying31
theorem effIxR {els : List V} {j : Nat} {x y : Operand} (hj : j < els.length) {s : Bool} {a b : List Nat} (he : els.getD j .junk = rR s a b) : eff Try.prog (.indexAddr 31 x y) [.sl els, .i .i64 (j : Int)] = some (.val (.rp [.b s, dg a, dg b])) := by
  simp only [eff, effIndexAddr, Try.underlying31, lay_ratio, Int.toNat_natCast, he]
  rw [if_pos ⟨by omega, by omega, rfl⟩]
  rfl

set_option maxRecDepth 20000 in
set_option maxHeartbeats 4000000 in
theorem qsum_ok {els : List V} {qs : List Rat} {L : Nat} (h : IsQs els qs L) (hL : els.length * (L + 1) + L + 1 < 2 ^ 34) (hL1 : 1 ≤ L) : PCall Try.prog 51 [.sl els] (rV (sumTo qs els.length)) [] := by
  have hlen : els.length < 2 ^ 34 := by
    have : els.length * 1 ≤ els.length * (L + 1) := Nat.mul_le_mul_left _ (by omega)
    omega
  refine PCall.of_ax Try.call51 Try.func51 rfl (by simp [Try.ntmps51]) fun O w => ?_
  simp only [Try.ntmps51, Try.results51, argFr]
  have c1 : PCall Try.prog 32 [] (rR (decide ((0 : Rat).num < 0)) (digits (0 : Rat).num.natAbs) (digits (0 : Rat).den)) [] := zero_ok
  refine AX.sregAV [0, 2] (hq := ?_)
  refine AX.sregCV [0, 2, 3] (And.intro c1 True.intro) (hq := ?_)
  refine AX.seq ?_
  refine AX.sregAV [7, 2, 3, 8, 9] (hq := ?_)
  refine AX.block ?_
  refine AX.loop (fun N st => ∃ i : Nat, i ≤ els.length ∧ N = els.length - i ∧ st = ⟨[(9, .i .i64 i), (8, .i .i64 els.length), (7, .sl els), (3, .ptr 1 0), (2, .ptr 0 0)], [(1, ⟨25, [.b (decide ((sumTo qs i).num < 0)), dg (digits (sumTo qs i).num.natAbs), dg (digits (sumTo qs i).den)]⟩), (0, ⟨25, [.b false, .nl, .nl]⟩)], 2⟩) els.length ⟨0, Nat.zero_le _, rfl, rfl⟩ ?_
  rintro N st ⟨i, hi, rfl, rfl⟩
  by_cases h1 : i < els.length
  · obtain ⟨s, a, b, he, ha, hb, hq, hla, hlb⟩ := h.2 i h1
    have hm : i * (L + 1) + (L + 1) ≤ els.length * (L + 1) := by
      rw [← Nat.succ_mul]
      exact Nat.mul_le_mul_right _ (by omega)
    have hs := sumTo_len h hL1 i hi
    have c2 : PCall Try.prog 20 [rR (decide ((sumTo qs i).num < 0)) (digits (sumTo qs i).num.natAbs) (digits (sumTo qs i).den), rR s a b] (rR (decide ((sumTo qs (i + 1)).num < 0)) (digits (sumTo qs (i + 1)).num.natAbs) (digits (sumTo qs (i + 1)).den)) [] :=
      qadd_ok (L := i * (L + 1) + 1 + L) (IsQ.of (by omega)) ⟨s, a, b, rfl, ha, hb, hq, by omega, by omega⟩ (by omega)
    have hix := fun x y => effIxR (x := x) (y := y) h1 he
    generalize sumTo qs i = P0 at *
    refine AX.sregAV [2, 3, 7, 8, 9, 10] (hq := ?_)
    refine AX.seq ?_
    refine AX.condT (h := ?_)
    refine AX.keepA [2, 3, 7, 8, 9] (h := ?_)
    refine AX.skip ?_
    try simp only [thenS_normal, thenS_ret, thenS_exit, blockS_normal, blockS_ret, blockS_exit, backS_ret, backS_exit, if_true]
    refine AX.seq ?_
    refine AX.block ?_
    apply AX.sreg [2, 3, 5, 7, 8, 9] (by simp only [pq]; rfl)
    · repeat (first
     | (apply RunO.op rfl; · rfl
        · (simp only [opsOf, valsOf, valOf, lkp, ofConst, ofCell, Array.toList, Option.toList, List.map_cons, List.map_nil, List.cons_append, List.nil_append, List.append_nil, Nat.reduceEqDiff, Nat.reducePow, Nat.reduceLT, Nat.reduceLeDiff, reduceIte, if_true, if_false, IntKind.min, IntKind.max, IntKind.bits, IntKind.signed, Int.reduceLE, Int.reduceNeg, Int.reducePow, Int.reduceSub, and_self, Bool.false_eq_true, Nat.reduceSub]; rfl)
        · first | exact hix _ _ | (simp (disch := omega) only [go_sem, i64_of, u32_of, u64_of, Nat.reduceLT, Nat.reduceLeDiff, Nat.reduceEqDiff, Nat.reduceAdd, Nat.reduceSub, Nat.reduceMul, Nat.reducePow, Nat.reduceBEq, Int.reduceLE, Int.reduceLT, Int.reduceToNat, Int.reduceEq, Int.reduceNeg, reduceIte, reduceCtorEq]; rfl)
        · (simp (disch := omega) only [go_sem, i64_of, u32_of, u64_of, Nat.reduceLT, Nat.reduceLeDiff, Nat.reduceEqDiff, Nat.reduceAdd, Nat.reduceSub, Nat.reduceMul, Nat.reducePow, Nat.reduceBEq, Int.reduceLE, Int.reduceLT, Int.reduceToNat, Int.reduceEq, Int.reduceNeg, reduceIte, reduceCtorEq]; rfl)
        · (simp only [pb, Nat.reduceLT, Nat.reduceAdd, reduceIte]; rfl))
     | (apply RunO.skip; · rfl
        · (simp only [pb, Nat.reduceLT, Nat.reduceAdd, reduceIte]; rfl)))
      exact RunO.nil
    · repeat (first | exact Keep.nil | (apply Keep.take; · rfl) | (apply Keep.drop; · rfl))
    refine AX.regCV [2, 3, 7, 8, 9] (And.intro c2 True.intro) (hq := ?_)
    try simp only [thenS_normal, thenS_ret, thenS_exit, blockS_normal, blockS_ret, blockS_exit, backS_ret, backS_exit, if_true]
    refine AX.regWV [2, 3, 7, 8, 9] (And.intro @lit_add True.intro) True.intro (hq := ?_)
    try simp only [thenS_normal, thenS_ret, thenS_exit, blockS_normal, blockS_ret, blockS_exit, backS_ret, backS_exit, if_true]
    refine ⟨els.length - (i + 1), _, id, by omega,
      leA
      , ⟨i + 1, by omega, rfl, rfl⟩⟩
  · refine AX.sregAV [2, 3, 7, 8, 9, 10] (hq := ?_)
    refine AX.seq ?_
    refine AX.condF (h := ?_)
    refine AX.keepA [2, 3] (h := ?_)
    refine AX.exit ?_
    try simp only [thenS_normal, thenS_ret, thenS_exit, blockS_normal, blockS_ret, blockS_exit, backS_ret, backS_exit, if_true]
    have e : i = els.length := by omega
    subst e
    refine AX.sregAV [2] (hq := ?_)
    refine AX.ret (And.intro (Or.inl rfl) ?_)
    exact Done.cell rfl rfl

end Go.Proofs.Ytepkjfnffbdcoaa

/- Fractions of any form as rows of a list. -/
set_option linter.unusedVariables false
set_option linter.unusedSimpArgs false
namespace Go.Proofs.Ytepkjfnffbdcoaa
open Go Go.Proofs.Ytepkjfnffbdcoaa.Lift
attribute [local irreducible] Lift.PCall Lift.HCall

abbrev RT := Bool × List Nat × List Nat
abbrev fR (x : RT) : V := rR x.1 x.2.1 x.2.2
def okR (m : Nat) (x : RT) : Bool := decide (x.2.1.length ≤ m) && decide (x.2.2.length ≤ m)
def d0 : RT := (false, [], [])
theorem getD_fR {xs : List RT} {j : Nat} (h : j < xs.length) : (xs.map fR).getD j .junk = rR (xs.getD j d0).1 (xs.getD j d0).2.1 (xs.getD j d0).2.2 := by
  simp [List.getD_eq_getElem?_getD, h]

end Go.Proofs.Ytepkjfnffbdcoaa

/- Parse and Text of fractions, each behind the other. -/
set_option linter.unusedVariables false
set_option linter.unusedSimpArgs false
namespace Go.Proofs.Ytepkjfnffbdcoaa
open Go Go.Proofs.Ytepkjfnffbdcoaa.Lift
attribute [local irreducible] Lift.PCall Lift.HCall

theorem ibx_none {l : List UInt8} {c : UInt8} (h : ∀ x ∈ l, x ≠ c) : Go.Lib.indexByte l c = -1 := by
  induction l with
  | nil => rfl
  | cons b l ih =>
    have h1 : (b == c) = false := by simpa using h b (List.mem_cons_self ..)
    have h2 := ih fun x hx => h x (List.mem_cons_of_mem _ hx)
    unfold Go.Lib.indexByte
    rw [h1, h2]
    rfl
theorem ibx_app {l r : List UInt8} {c : UInt8} (h : ∀ x ∈ l, x ≠ c) : Go.Lib.indexByte (l ++ c :: r) c = l.length := by
  induction l with
  | nil =>
    show Go.Lib.indexByte (c :: r) c = 0
    unfold Go.Lib.indexByte
    simp
  | cons b l ih =>
    have h1 : (b == c) = false := by simpa using h b (List.mem_cons_self ..)
    have h2 := ih fun x hx => h x (List.mem_cons_of_mem _ hx)
    show Go.Lib.indexByte (b :: (l ++ c :: r)) c = _
    unfold Go.Lib.indexByte
    rw [h1, h2]
    have h3 : (((l.length : Nat) : Int) == -1) = false := by
      rw [beq_eq_false_iff_ne]
      omega
    rw [h3]
    simp
theorem data_strN (l : List Nat) : (strN l).data.toList = l.map fun x => UInt8.ofNat x := by
  unfold strN strOf
  simp only [List.map_map, List.toList_toArray]
  apply List.map_congr_left
  intro x _
  rfl
theorem ext_strN (l : List Nat) (i j : Nat) : (strN l).extract i j = strN ((l.take j).drop i) := by
  apply ByteArray.ext
  apply Array.ext'
  rw [data_strN, ByteArray.data_extract, Array.toList_extract, data_strN, List.extract_eq_drop_take']
  simp [List.map_drop, List.map_take]
theorem ne47 {l : List Nat} (h : B10 l) : ∀ x ∈ l.map (fun x => UInt8.ofNat x), x ≠ 47 := by
  intro x hx
  obtain ⟨n, hn, rfl⟩ := List.mem_map.1 hx
  have := h n hn
  intro e
  have e2 : (UInt8.ofNat n).toNat = 47 := by rw [e]; rfl
  rw [UInt8.toNat_ofNat', Nat.mod_eq_of_lt (by omega)] at e2
  omega
theorem ixS_dig {l : List Nat} (h : B10 l) : ixS (strN l) = -1 := by
  unfold ixS
  rw [data_strN]
  exact ibx_none (ne47 h)
theorem ixS_app {l r : List Nat} (h : B10 l) : ixS (strN (l ++ 47 :: r)) = l.length := by
  unfold ixS
  rw [data_strN, List.map_append, List.map_cons]
  have := ibx_app (r := r.map fun x => UInt8.ofNat x) (ne47 h)
  rw [List.length_map] at this
  exact this
theorem decB_pos (n : Nat) : 0 < (decB n).length := by
  have := decB_head n
  omega
theorem neg1_strN {l : List Nat} (h : ∀ x ∈ l, x < 256) : neg1 (strN l) = decide (0 < l.length ∧ l.getD 0 0 = 45) := by
  unfold neg1
  rw [size_strN, bt_strN h]
theorem rtx_lt (q : Rat) : ∀ x ∈ rtxL q, x < 256 := by
  intro x hx
  unfold rtxL at hx
  have h1 := decB_dig q.num.natAbs
  have h2 := decB_dig q.den
  simp only [List.mem_append] at hx
  rcases hx with (hx | hx) | hx
  · split at hx
    · simp at hx; omega
    · simp at hx
  · have := h1 x hx; omega
  · split at hx
    · simp at hx
    · rcases List.mem_cons.1 hx with rfl | hx
      · omega
      · have := h2 x hx; omega
/-- What stands behind the sign. -/
def absL (q : Rat) : List Nat := decB q.num.natAbs ++ (if q.den = 1 then [] else 47 :: decB q.den)
theorem rtxL_abs (q : Rat) : rtxL q = (if q.num < 0 then [45] else []) ++ absL q := List.append_assoc _ _ _
theorem absL_head (q : Rat) : 0 < (absL q).length ∧ (absL q).getD 0 0 ≠ 45 := by
  have h0 := decB_pos q.num.natAbs
  have h1 := decB_dig q.num.natAbs
  unfold absL
  refine ⟨by rw [List.length_append]; omega, ?_⟩
  cases hd : decB q.num.natAbs with
  | nil => rw [hd] at h0; cases h0
  | cons x l =>
    have := h1 x (by rw [hd]; exact List.mem_cons_self ..)
    show x ≠ 45
    omega
theorem neg1_rtxt (q : Rat) : neg1 (rtxt q) = decide (q.num < 0) := by
  rw [neg1_strN (rtx_lt q), rtxL_abs]
  obtain ⟨h1, h2⟩ := absL_head q
  by_cases h : q.num < 0
  · rw [if_pos h, decide_eq_true h]
    exact decide_eq_true ⟨by simp, rfl⟩
  · rw [if_neg h, decide_eq_false h, List.nil_append]
    exact decide_eq_false fun e => h2 e.2
theorem rest_rtxt (q : Rat) : restS (rtxt q) = strN (absL q) := by
  unfold restS
  rw [neg1_rtxt]
  by_cases h : q.num < 0
  · rw [decide_eq_true h, if_pos rfl]
    show (strN (rtxL q)).extract 1 (strN (rtxL q)).size = _
    rw [size_strN, ext_strN, List.take_length, rtxL_abs, if_pos h]
    rfl
  · rw [decide_eq_false h, if_neg (by simp)]
    show strN (rtxL q) = _
    rw [rtxL_abs, if_neg h, List.nil_append]
theorem par_rtxt {q : Rat} (h : rL q ≤ 1000) : rpE (rtxt q) = 0 ∧ rpQ (rtxt q) = q := by
  have hr1 : (digits q.num.natAbs).length ≤ 1000 := Nat.le_trans (Nat.le_max_left _ _) h
  have hr2 : (digits q.den).length ≤ 1000 := Nat.le_trans (Nat.le_max_right _ _) h
  obtain ⟨n1, n2⟩ := par_txt hr1
  obtain ⟨d1, d2⟩ := par_txt hr2
  have key : numS (strN (absL q)) = txt q.num.natAbs ∧ denE (strN (absL q)) = 0 ∧ denN (strN (absL q)) = q.den := by
    unfold numS denE denN denS absL
    by_cases h1 : q.den = 1
    · rw [if_pos h1, List.append_nil, ixS_dig (decB_dig _), if_pos rfl, if_pos rfl, if_pos rfl]
      exact ⟨rfl, rfl, h1.symm⟩
    · rw [if_neg h1, ixS_app (decB_dig _), if_neg (by omega), if_neg (by omega), if_neg (by omega), Int.toNat_natCast, ext_strN, size_strN, ext_strN, List.take_length]
      have e1 : (List.take (decB q.num.natAbs).length (decB q.num.natAbs ++ 47 :: decB q.den)).drop 0 = decB q.num.natAbs := by simp
      have e2 : (decB q.num.natAbs ++ 47 :: decB q.den).drop ((decB q.num.natAbs).length + 1) = decB q.den := by
        rw [← List.drop_drop, List.drop_append_of_le_length (Nat.le_refl _), List.drop_length]
        rfl
      rw [e1, e2]
      exact ⟨rfl, d1, d2⟩
  obtain ⟨k1, k2, k3⟩ := key
  have hQ : rpQ (rtxt q) = q := by
    unfold rpQ
    rw [rest_rtxt, k1, k3, n2, neg1_rtxt, rq_self]
  refine ⟨?_, hQ⟩
  unfold rpE
  rw [rest_rtxt, k1, k2, n1, hQ]
  rw [if_neg (by omega), if_neg (by omega), if_pos rfl]
theorem rpV_rtxt {q : Rat} (h : rL q ≤ 1000) : rpV (rtxt q) = .tup [rV q, .i .i64 0] := by
  obtain ⟨h1, h2⟩ := par_rtxt h
  unfold rpV
  rw [h1, if_pos rfl, h2]
theorem rpE_text {s : ByteArray} (h : rpE s = 0) : rtxt (rpQ s) = s := by
  unfold rpE at h
  split at h
  · rename_i h1; exact absurd h h1
  · split at h
    · rename_i h1; exact absurd h h1
    · split at h
      · assumption
      · omega

end Go.Proofs.Ytepkjfnffbdcoaa
