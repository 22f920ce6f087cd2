/- The reference's Text and Parse of fractions. -/
import Derived.Test.YtmhjcmochemndaaQ2B
import Derived.Test.YtmhjcmochemndaaGS
import Derived.Test.YtmhjcmochemndaaGZ
set_option linter.unusedVariables false
set_option linter.unusedSimpArgs false
namespace Go.Proofs.Ytmhjcmochemndaa
open Go Go.Proofs.Ytmhjcmochemndaa.Lift
attribute [local irreducible] Lift.PCall Lift.HCall

theorem cmp_one_ne {n : Nat} : cmp n 1 ≠ 0 ↔ n ≠ 1 := by
  have h := cmp_one n
  unfold gcd1 at h
  have := decide_eq_decide.1 h
  omega

set_option maxRecDepth 20000 in
set_option maxHeartbeats 4000000 in
theorem ptext_ok {x : V} {q : Rat} {L : Nat} (hx : IsQ x q L) (hL : L < 2 ^ 34) (hL1 : 1 ≤ L) : PCall Try.prog 49 [x] (.s (rtxt q)) [] := by
  have c1 : PCall Try.prog 67 [x] (.agg [.b (decide (q.num < 0)), nv q.num.natAbs, nv q.den]) [] := pvalid_ok hx (by omega)
  have hr := hx.rL hL1
  have hr1 : (digits q.num.natAbs).length ≤ L := Nat.le_trans (Nat.le_max_left _ _) hr
  have hr2 : (digits q.den).length ≤ L := Nat.le_trans (Nat.le_max_right _ _) hr
  have c2 := rtext_ok (digits q.num.natAbs) (Dg_digits _) (by omega)
  have c3 := rtext_ok (digits q.den) (Dg_digits _) (by omega)
  rw [val_digits] at c2 c3
  have c4 := rof_ok 1 (by omega)
  have c5 := rcmp_n q.den 1 (by omega) (by have := lenS (n := 1) (by omega); omega)
  have d1 := decB_len q.num.natAbs
  have d2 := decB_len q.den
  have hrt : rtxt q = strN ((if q.num < 0 then [45] else []) ++ decB q.num.natAbs ++ (if q.den = 1 then [] else 47 :: decB q.den)) := rfl
  rw [hrt]
  have z := cmp_one_ne (n := q.den)
  obtain ⟨s, a, b, rfl, ha, hb, hq, hla, hlb⟩ := hx
  clear hq
  generalize q.num.natAbs = N at *
  generalize q.den = D at *
  generalize cmp D 1 = Z at *
  refine PCall.of_ax Try.call49 Try.func49 rfl (by simp [Try.ntmps49]) fun O w => ?_
  simp only [Try.ntmps49, Try.results49, argFr]
  refine AX.sregAV [1] (hq := ?_)
  refine AX.sregCV [1] (And.intro c1 True.intro) (hq := ?_)
  refine AX.sregCV [1, 3] (And.intro c2 True.intro) (hq := ?_)
  refine AX.cut (fun st => ∃ l : List Nat, l = (if q.num < 0 then [45] else []) ++ decB N ∧ st = ⟨[(3, .s (strN l)), (1, .ptr 0 0)], [(0, ⟨25, [.b (decide (q.num < 0)), nv N, nv D]⟩)], 1⟩) ?_ ?_
  · by_cases hn : q.num < 0
    · rw [decide_eq_true hn, if_pos hn]
      have hcat := fun x y t y' => effCat (P := Try.prog) (t := t) (y' := y') (x := x) (y := y) (l := [45]) (l' := decB N) (by simp only [List.length_cons, List.length_nil]; omega)
      refine AX.sregAV [1, 3, 10] (hq := ?_)
      refine AX.condT (h := ?_)
      apply AX.reg [1, 3] (by simp only [pq]; rfl)
      · repeat (first
       | (apply RunO.op rfl; · rfl
          · (simp only [opsOf, valsOf, valOf, lkp, ofConst, ofCell, Array.toList, Option.toList, List.map_cons, List.map_nil, List.cons_append, List.nil_append, List.append_nil, Nat.reduceEqDiff, Nat.reducePow, Nat.reduceLT, Nat.reduceLeDiff, reduceIte, if_true, if_false, IntKind.min, IntKind.max, IntKind.bits, IntKind.signed, Int.reduceLE, Int.reduceNeg, Int.reducePow, Int.reduceSub, and_self, Bool.false_eq_true, Nat.reduceSub]; rfl)
          · first | exact hcat _ _ _ _ | (simp (disch := omega) only [go_sem, i64_of, u32_of, u64_of, Nat.reduceLT, Nat.reduceLeDiff, Nat.reduceEqDiff, Nat.reduceAdd, Nat.reduceSub, Nat.reduceMul, Nat.reducePow, Nat.reduceBEq, Int.reduceLE, Int.reduceLT, Int.reduceToNat, Int.reduceEq, Int.reduceNeg, reduceIte, reduceCtorEq]; rfl)
          · (simp (disch := omega) only [go_sem, i64_of, u32_of, u64_of, Nat.reduceLT, Nat.reduceLeDiff, Nat.reduceEqDiff, Nat.reduceAdd, Nat.reduceSub, Nat.reduceMul, Nat.reducePow, Nat.reduceBEq, Int.reduceLE, Int.reduceLT, Int.reduceToNat, Int.reduceEq, Int.reduceNeg, reduceIte, reduceCtorEq]; rfl)
          · (simp only [pb, Nat.reduceLT, Nat.reduceAdd, reduceIte]; rfl))
       | (apply RunO.skip; · rfl
          · (simp only [pb, Nat.reduceLT, Nat.reduceAdd, reduceIte]; rfl)))
        exact RunO.nil
      · repeat (first | exact Keep.nil | (apply Keep.take; · rfl) | (apply Keep.drop; · rfl))
      exact ⟨rfl, _, rfl, rfl⟩
    · rw [decide_eq_false hn, if_neg hn]
      refine AX.sregAV [1, 3, 10] (hq := ?_)
      refine AX.condF (h := ?_)
      refine AX.keepA [1, 3] (h := ?_)
      refine AX.skip ?_
      try simp only [thenS_normal, thenS_ret, thenS_exit, blockS_normal, blockS_ret, blockS_exit, backS_ret, backS_exit, if_true]
      refine ⟨by first | exact trivial | rfl, _, rfl, rfl⟩
  rintro st ⟨l, hl, rfl⟩
  rw [← hl]
  have hll : l.length ≤ 10 * L + 2 := by
    rw [hl, List.length_append]
    split <;> simp <;> omega
  by_cases h1 : D = 1
  · have hz : Z = 0 := by omega
    subst hz
    rw [if_pos h1, List.append_nil]
    refine AX.seq ?_
    refine AX.sdregCV [1, 3, 17] (And.intro c4 (And.intro c5 True.intro)) (hq := ?_)
    refine AX.condF (h := ?_)
    refine AX.keepA [3] (h := ?_)
    refine AX.skip ?_
    try simp only [thenS_normal, thenS_ret, thenS_exit, blockS_normal, blockS_ret, blockS_exit, backS_ret, backS_exit, if_true]
    refine AX.sregAV [2] (hq := ?_)
    refine AX.ret (And.intro (Or.inl rfl) ?_)
    exact Done.one rfl rfl rfl rfl
  · have hz : Z ≠ 0 := z.2 h1
    rw [if_neg h1]
    have hcat1 := fun x y t y' => effCat (P := Try.prog) (t := t) (y' := y') (x := x) (y := y) (l := l) (l' := [47]) (by simp only [List.length_cons, List.length_nil]; omega)
    have hcat2 := fun x y t y' => effCat (P := Try.prog) (t := t) (y' := y') (x := x) (y := y) (l := l ++ [47]) (l' := decB D) (by simp only [List.length_append, List.length_cons, List.length_nil]; omega)
    rw [List.append_assoc] at hcat2
    refine AX.seq ?_
    refine AX.sdregWV [1, 3, 17] (And.intro @hz True.intro) (And.intro c4 (And.intro c5 True.intro)) (hq := ?_)
    refine AX.condT (h := ?_)
    apply AX.reg [3] (by simp only [pq]; rfl)
    · repeat (first
     | (apply RunO.op rfl; · rfl
        · (simp only [opsOf, valsOf, valOf, lkp, ofConst, ofCell, Array.toList, Option.toList, List.map_cons, List.map_nil, List.cons_append, List.nil_append, List.append_nil, Nat.reduceEqDiff, Nat.reducePow, Nat.reduceLT, Nat.reduceLeDiff, reduceIte, if_true, if_false, IntKind.min, IntKind.max, IntKind.bits, IntKind.signed, Int.reduceLE, Int.reduceNeg, Int.reducePow, Int.reduceSub, and_self, Bool.false_eq_true, Nat.reduceSub]; rfl)
        · first | exact hcat1 _ _ _ _ | exact hcat2 _ _ _ _ | (simp (disch := omega) only [go_sem, i64_of, u32_of, u64_of, Nat.reduceLT, Nat.reduceLeDiff, Nat.reduceEqDiff, Nat.reduceAdd, Nat.reduceSub, Nat.reduceMul, Nat.reducePow, Nat.reduceBEq, Int.reduceLE, Int.reduceLT, Int.reduceToNat, Int.reduceEq, Int.reduceNeg, reduceIte, reduceCtorEq]; rfl)
        · (simp (disch := omega) only [go_sem, i64_of, u32_of, u64_of, Nat.reduceLT, Nat.reduceLeDiff, Nat.reduceEqDiff, Nat.reduceAdd, Nat.reduceSub, Nat.reduceMul, Nat.reducePow, Nat.reduceBEq, Int.reduceLE, Int.reduceLT, Int.reduceToNat, Int.reduceEq, Int.reduceNeg, reduceIte, reduceCtorEq]; rfl)
        · (simp only [pb, Nat.reduceLT, Nat.reduceAdd, reduceIte]; rfl))
     | (apply RunO.call rfl; · rfl
        · (simp only [opsOf, valsOf, valOf, lkp, ofConst, ofCell, Array.toList, Option.toList, List.map_cons, List.map_nil, List.cons_append, List.nil_append, List.append_nil, Nat.reduceEqDiff, Nat.reducePow, Nat.reduceLT, Nat.reduceLeDiff, reduceIte, if_true, if_false, IntKind.min, IntKind.max, IntKind.bits, IntKind.signed, Int.reduceLE, Int.reduceNeg, Int.reducePow, Int.reduceSub, and_self, Bool.false_eq_true, Nat.reduceSub]; rfl)
        · (simp (disch := omega) only [go_sem, i64_of, u32_of, u64_of, Nat.reduceLT, Nat.reduceLeDiff, Nat.reduceEqDiff, Nat.reduceAdd, Nat.reduceSub, Nat.reduceMul, Nat.reducePow, Nat.reduceBEq, Int.reduceLE, Int.reduceLT, Int.reduceToNat, Int.reduceEq, Int.reduceNeg, reduceIte, reduceCtorEq]; rfl)
        · rfl
        · (first | exact c3)
        · (simp (disch := omega) only [go_sem, i64_of, u32_of, u64_of, Nat.reduceLT, Nat.reduceLeDiff, Nat.reduceEqDiff, Nat.reduceAdd, Nat.reduceSub, Nat.reduceMul, Nat.reducePow, Nat.reduceBEq, Int.reduceLE, Int.reduceLT, Int.reduceToNat, Int.reduceEq, Int.reduceNeg, reduceIte, reduceCtorEq]; rfl)
        · (simp only [pb, Nat.reduceLT, Nat.reduceAdd, reduceIte]; rfl))
     | (apply RunO.skip; · rfl
        · (simp only [pb, Nat.reduceLT, Nat.reduceAdd, reduceIte]; rfl)))
      exact RunO.nil
    · repeat (first | exact Keep.nil | (apply Keep.take; · rfl) | (apply Keep.drop; · rfl))
    try simp only [thenS_normal, thenS_ret, thenS_exit, blockS_normal, blockS_ret, blockS_exit, backS_ret, backS_exit, if_true]
    refine AX.sregAV [2] (hq := ?_)
    refine AX.ret (And.intro (Or.inl rfl) ?_)
    exact Done.one rfl rfl rfl rfl

/-! ### What Parse takes -/
theorem strN_inj {l l' : List Nat} (h : ∀ x ∈ l, x < 256) (h' : ∀ x ∈ l', x < 256) (e : strN l = strN l') : l = l' := by
  have hl : l.length = l'.length := by rw [← size_strN l, ← size_strN l', e]
  refine eq_of_getD hl fun j _ => ?_
  rw [← bt_strN h, ← bt_strN h', e]
theorem txt_inj {m n : Nat} (h : txt m = txt n) : m = n := by
  have := strN_inj (decB_dig m).lt (decB_dig n).lt h
  rw [← bv_decB m, ← bv_decB n, this]
theorem byte_bt {r : ByteArray} {x : UInt8} (h : x ∈ r.data.toList) : ∃ j, j < r.size ∧ bt r j = x.toNat := by
  obtain ⟨j, hj, rfl⟩ := List.getElem_of_mem h
  have hj' : j < r.data.size := by simpa using hj
  refine ⟨j, hj', ?_⟩
  unfold bt
  rw [Array.getD_eq_getD_getElem?, Array.getElem?_eq_getElem hj']
  rfl
theorem ixS_none {r : ByteArray} (h : ∀ j, j < r.size → bt r j ≠ 47) : ixS r = -1 := by
  refine ibx_none fun x hx e => ?_
  obtain ⟨j, hj, hb⟩ := byte_bt hx
  rw [e] at hb
  exact h j hj hb
/-- The first slash stands at i. -/
def Cut (r : ByteArray) (i : Nat) : Prop := (i = r.size ∧ ∀ j, j < r.size → bt r j ≠ 47) ∨ (i < r.size ∧ bt r i = 47 ∧ ∀ j, j < i → bt r j ≠ 47)
theorem bytes_split {l : List Nat} {i : Nat} (hi : i < l.length) : l = l.take i ++ l.getD i 0 :: l.drop (i + 1) := by
  have e : l.getD i 0 = l[i] := by rw [List.getD_eq_getElem?_getD, List.getElem?_eq_getElem hi]; rfl
  rw [e, List.getElem_cons_drop, List.take_append_drop]
theorem ixS_at {r : ByteArray} {i : Nat} (hi : i < r.size) (h47 : bt r i = 47) (h : ∀ j, j < i → bt r j ≠ 47) : ixS r = i := by
  unfold ixS
  have hl : r.data.toList.length = r.size := by rw [Array.length_toList]; rfl
  have hi' : i < r.data.toList.length := by omega
  have e : r.data.toList = r.data.toList.take i ++ 47 :: r.data.toList.drop (i + 1) := by
    have e0 : r.data.toList[i] = 47 := by
      apply UInt8.toNat_inj.1
      have h2 : bt r i = (r.data.toList[i]).toNat := by
        have hd : i < r.data.size := by simpa using hi'
        unfold bt
        rw [Array.getD_eq_getD_getElem?, Array.getElem?_eq_getElem hd]
        rfl
      rw [← h2, h47]
      rfl
    have e1 := (List.take_append_drop i r.data.toList).symm
    rw [← List.getElem_cons_drop (h := hi'), e0] at e1
    exact e1
  rw [e]
  have := ibx_app (l := r.data.toList.take i) (r := r.data.toList.drop (i + 1)) (c := 47) (by
    intro x hx e
    obtain ⟨j, hj, hje⟩ := List.getElem_of_mem hx
    rw [List.length_take] at hj
    apply h j (by omega)
    have hd : j < r.data.size := by have : r.data.size = r.size := rfl; omega
    have h2 : bt r j = (r.data.toList[j]'(by omega)).toNat := by
      unfold bt
      rw [Array.getD_eq_getD_getElem?, Array.getElem?_eq_getElem hd]
      rfl
    rw [List.getElem_take] at hje
    rw [h2, hje, e]
    rfl)
  rw [this, List.length_take]
  omega

/-- A fraction as Parse takes it. -/
def canon (two neg : Bool) (p q : Nat) : Prop := (two = true → 1 < q ∧ Nat.gcd p q = 1) ∧ ¬ (neg = true ∧ p = 0)
theorem sgn_split (s : ByteArray) {l : List Nat} (hl : restS s = strN l) : s = strN ((if neg1 s = true then [45] else []) ++ l) := by
  by_cases h : neg1 s = true
  · have h1 := of_decide_eq_true h
    rw [if_pos h]
    unfold restS at hl
    rw [if_pos h] at hl
    have e := strN_bytesOf s
    have hlen := bytesOf_len s
    have hb : (bytesOf s).getD 0 0 = 45 := by
      rw [← bt_strN (bytesOf_lt s), e]
      exact h1.2
    have e2 : bytesOf s = 45 :: (bytesOf s).drop 1 := by
      cases hs : bytesOf s with
      | nil => rw [hs] at hlen; simp at hlen; omega
      | cons x t =>
        rw [hs] at hb
        have : x = 45 := hb
        rw [this]
        rfl
    have e3 : s.extract 1 s.size = strN ((bytesOf s).drop 1) := by
      have e4 := ext_strN (bytesOf s) 1 (bytesOf s).length
      rw [List.take_length, e, hlen] at e4
      exact e4
    rw [← strN_app, ← hl, e3, strN_app]
    show s = strN (45 :: (bytesOf s).drop 1)
    rw [← e2, e]
  · rw [if_neg h]
    unfold restS at hl
    rw [if_neg h] at hl
    exact hl
theorem cut_split {r : ByteArray} {i : Nat} (hc : Cut r i) (h1 : parE (numS r) = 0) (h2 : denE r = 0) : r = strN (decB (parN (numS r)) ++ (if ixS r = -1 then [] else 47 :: decB (denN r))) ∧ (ixS r = -1 ↔ ¬ i < r.size) ∧ (ixS r = -1 → denN r = 1) := by
  have t1 := txt_par h1
  rcases hc with ⟨rfl, hn⟩ | ⟨hi, h47, hn⟩
  · have hx := ixS_none hn
    refine ⟨?_, ⟨fun _ => by omega, fun _ => hx⟩, fun _ => if_pos hx⟩
    rw [if_pos hx, List.append_nil]
    have e : numS r = r := if_pos hx
    rw [e] at t1
    rw [e]
    exact t1.symm
  · have hx := ixS_at hi h47 hn
    have hx' : ixS r ≠ -1 := by omega
    refine ⟨?_, ⟨fun h => absurd h hx', fun h => absurd hi h⟩, fun h => absurd h hx'⟩
    rw [if_neg hx']
    have e1 : numS r = r.extract 0 i := by unfold numS; rw [if_neg hx', hx]; rfl
    have e2 : denS r = r.extract (i + 1) r.size := by unfold denS; rw [hx]; rfl
    have e3 : denN r = parN (denS r) := if_neg hx'
    have e4 : parE (denS r) = 0 := by
      have : denE r = parE (denS r) := if_neg hx'
      rw [← this]
      exact h2
    have t2 := txt_par e4
    rw [e3]
    have hb := strN_bytesOf r
    have hlen := bytesOf_len r
    have g1 : r.extract 0 i = strN ((bytesOf r).take i) := by
      have := ext_strN (bytesOf r) 0 i
      rw [hb] at this
      exact this
    have g2 : r.extract (i + 1) r.size = strN ((bytesOf r).drop (i + 1)) := by
      have := ext_strN (bytesOf r) (i + 1) (bytesOf r).length
      rw [List.take_length, hb, hlen] at this
      exact this
    have g3 : (bytesOf r).getD i 0 = 47 := by
      rw [← bt_strN (bytesOf_lt r), hb]
      exact h47
    have g4 := bytes_split (l := bytesOf r) (i := i) (by omega)
    rw [g3] at g4
    have g5 : decB (parN (numS r)) = (bytesOf r).take i := strN_inj (decB_dig _).lt (fun x hx => bytesOf_lt r x (List.mem_of_mem_take hx)) (by rw [← g1, ← e1]; exact t1)
    have g6 : decB (parN (denS r)) = (bytesOf r).drop (i + 1) := strN_inj (decB_dig _).lt (fun x hx => bytesOf_lt r x (List.mem_of_mem_drop hx)) (by rw [← g2, ← e2]; exact t2)
    rw [g5, g6, ← g4, hb]
theorem ix_absL (q : Rat) : (ixS (strN (absL q)) = -1 ↔ q.den = 1) ∧ numS (strN (absL q)) = txt q.num.natAbs ∧ (q.den ≠ 1 → denS (strN (absL q)) = txt q.den) := by
  unfold numS denS absL
  by_cases h1 : q.den = 1
  · rw [if_pos h1, List.append_nil, ixS_dig (decB_dig _), if_pos rfl]
    exact ⟨⟨fun _ => h1, fun _ => rfl⟩, rfl, fun h => absurd h1 h⟩
  · rw [if_neg h1, ixS_app (decB_dig _), if_neg (by omega), Int.toNat_natCast, ext_strN, size_strN, ext_strN, List.take_length]
    have e1 : (List.take (decB q.num.natAbs).length (decB q.num.natAbs ++ 47 :: decB q.den)).drop 0 = decB q.num.natAbs := by simp
    have e2 : (decB q.num.natAbs ++ 47 :: decB q.den).drop ((decB q.num.natAbs).length + 1) = decB q.den := by
      rw [← List.drop_drop, List.drop_append_of_le_length (Nat.le_refl _), List.drop_length]
      rfl
    rw [e1, e2]
    exact ⟨⟨fun h => by omega, fun h => absurd h h1⟩, rfl, fun _ => rfl⟩

theorem canon_text {s : ByteArray} {i : Nat} (hc : Cut (restS s) i) (h1 : parE (numS (restS s)) = 0) (h2 : denE (restS s) = 0) :
    rtxt (rpQ s) = s ↔ canon (decide (i < (restS s).size)) (neg1 s) (parN (numS (restS s))) (denN (restS s)) := by
  obtain ⟨g1, g2, g3⟩ := cut_split hc h1 h2
  constructor
  · intro h
    have n1 := neg1_rtxt (rpQ s)
    have n2 := rest_rtxt (rpQ s)
    rw [h] at n1 n2
    obtain ⟨k1, k2, k3⟩ := ix_absL (rpQ s)
    rw [← n2] at k1 k2 k3
    have t1 := txt_par h1
    have p1 : parN (numS (restS s)) = (rpQ s).num.natAbs := txt_inj (by rw [t1, k2])
    have p2 : denN (restS s) = (rpQ s).den := by
      by_cases hx : ixS (restS s) = -1
      · rw [g3 hx, k1.1 hx]
      · have e4 : parE (denS (restS s)) = 0 := by
          have : denE (restS s) = parE (denS (restS s)) := if_neg hx
          rw [← this]
          exact h2
        have t2 := txt_par e4
        have e3 : denN (restS s) = parN (denS (restS s)) := if_neg hx
        rw [e3]
        exact txt_inj (by rw [t2, k3 (fun e => hx (k1.2 e))])
    refine ⟨fun hi => ?_, ?_⟩
    · have hi := of_decide_eq_true hi
      have hx : ixS (restS s) ≠ -1 := fun e => (g2.1 e) hi
      rw [p1, p2]
      have hd : (rpQ s).den ≠ 1 := fun e => hx (k1.2 e)
      have := (rpQ s).den_nz
      exact ⟨by omega, (rpQ s).reduced⟩
    · rintro ⟨hn, hp⟩
      rw [n1] at hn
      have := of_decide_eq_true hn
      rw [p1] at hp
      omega
  · rintro ⟨h3, h4⟩
    have hq : denN (restS s) ≠ 0 ∧ Nat.gcd (parN (numS (restS s))) (denN (restS s)) = 1 := by
      by_cases hx : ixS (restS s) = -1
      · rw [g3 hx]
        exact ⟨by omega, Nat.gcd_one_right _⟩
      · have hi : i < (restS s).size := Classical.byContradiction fun h => hx (g2.2 h)
        obtain ⟨h5, h6⟩ := h3 (decide_eq_true hi)
        exact ⟨by omega, h6⟩
    have e1 : (rpQ s).num = sg (neg1 s) (parN (numS (restS s))) := by
      unfold rpQ
      rw [rq_num hq.1, hq.2, Nat.div_one]
    have e2 : (rpQ s).den = denN (restS s) := by
      unfold rpQ
      rw [rq_den hq.1, hq.2, Nat.div_one]
    have e3 : ((rpQ s).num < 0) ↔ neg1 s = true := by
      rw [e1]
      have := sg_neg (neg1 s) (parN (numS (restS s)))
      cases hn : neg1 s
      · simp [sg]
      · have hp : parN (numS (restS s)) ≠ 0 := fun e => h4 ⟨hn, e⟩
        simp [sg]
        omega
    have e4 := sgn_split s g1
    show strN (rtxL (rpQ s)) = s
    conv => rhs; rw [e4]
    unfold rtxL
    rw [e1, sg_natAbs, e2, ← e1]
    simp only [e3]
    have e5 : (ixS (restS s) = -1) ↔ denN (restS s) = 1 := by
      constructor
      · exact g3
      · intro e
        apply Classical.byContradiction
        intro hx
        have hi : i < (restS s).size := Classical.byContradiction fun h => hx (g2.2 h)
        have := (h3 (decide_eq_true hi)).1
        omega
    simp only [e5, List.append_assoc]

theorem canon_val {s : ByteArray} {i : Nat} (hc : Cut (restS s) i) (h1 : parE (numS (restS s)) = 0) (h2 : denE (restS s) = 0)
    (h : canon (decide (i < (restS s).size)) (neg1 s) (parN (numS (restS s))) (denN (restS s))) : rpV s = .tup [rR (neg1 s) (digits (parN (numS (restS s)))) (digits (denN (restS s))), .i .i64 0] := by
  have ht := (canon_text hc h1 h2).2 h
  obtain ⟨g1, g2, g3⟩ := cut_split hc h1 h2
  obtain ⟨h3, h4⟩ := h
  have hE : rpE s = 0 := by
    unfold rpE
    rw [if_neg (by omega), if_neg (by omega), if_pos ht]
  rw [rpV, if_pos hE]
  have hq : denN (restS s) ≠ 0 ∧ Nat.gcd (parN (numS (restS s))) (denN (restS s)) = 1 := by
    by_cases hx : ixS (restS s) = -1
    · rw [g3 hx]
      exact ⟨by omega, Nat.gcd_one_right _⟩
    · have hi : i < (restS s).size := Classical.byContradiction fun h => hx (g2.2 h)
      obtain ⟨h5, h6⟩ := h3 (decide_eq_true hi)
      exact ⟨by omega, h6⟩
  unfold rpQ
  rw [rV_rq hq.1, hq.2, Nat.div_one, Nat.div_one]
  have e : (neg1 s && decide (0 < (digits (parN (numS (restS s)))).length)) = neg1 s := by
    cases hn : neg1 s
    · rfl
    · have hp : parN (numS (restS s)) ≠ 0 := fun e => h4 ⟨hn, e⟩
      have : 0 < (digits (parN (numS (restS s)))).length := Nat.pos_of_ne_zero fun e => hp (digits_len_zero.1 e)
      rw [decide_eq_true this]
      rfl
  rw [e]
theorem canon_no {s : ByteArray} {i : Nat} (hc : Cut (restS s) i) (h1 : parE (numS (restS s)) = 0) (h2 : denE (restS s) = 0)
    (h : ¬ canon (decide (i < (restS s).size)) (neg1 s) (parN (numS (restS s))) (denN (restS s))) : rpV s = .tup [zR, .i .i64 33] := by
  have ht : ¬ rtxt (rpQ s) = s := fun e => h ((canon_text hc h1 h2).1 e)
  have hE : rpE s = 33 := by
    unfold rpE
    rw [if_neg (by omega), if_neg (by omega), if_neg ht]
  rw [rpV, if_neg (by omega), hE]

theorem cmp_le_zero {m n : Nat} : cmp m n ≤ 0 ↔ m ≤ n := by
  unfold cmp
  split
  · omega
  · split <;> omega

theorem numS_cut {r : ByteArray} {i : Nat} (hc : Cut r i) : numS r = r.extract 0 i := by
  rcases hc with ⟨rfl, hn⟩ | ⟨hi, h47, hn⟩
  · rw [extract_all]
    exact if_pos (ixS_none hn)
  · have hx := ixS_at hi h47 hn
    unfold numS
    rw [if_neg (by omega), hx]
    rfl
theorem den_cut {r : ByteArray} {i : Nat} (hc : Cut r i) : (i < r.size → denE r = parE (r.extract (i + 1) r.size) ∧ denN r = parN (r.extract (i + 1) r.size)) ∧ (¬ i < r.size → denE r = 0 ∧ denN r = 1) := by
  rcases hc with ⟨rfl, hn⟩ | ⟨hi, h47, hn⟩
  · have hx := ixS_none hn
    exact ⟨fun h => by omega, fun _ => ⟨if_pos hx, if_pos hx⟩⟩
  · have hx := ixS_at hi h47 hn
    have hx' : ixS r ≠ -1 := by omega
    have e2 : denS r = r.extract (i + 1) r.size := by unfold denS; rw [hx]; rfl
    rw [← e2]
    exact ⟨fun _ => ⟨if_neg hx', if_neg hx'⟩, fun h => absurd hi h⟩
theorem Cut.le {r : ByteArray} {i : Nat} (hc : Cut r i) : i ≤ r.size := by
  rcases hc with ⟨rfl, _⟩ | ⟨hi, _⟩ <;> omega

set_option maxRecDepth 20000 in
set_option maxHeartbeats 4000000 in
theorem pparse_ok (s : ByteArray) (hs : s.size < 2 ^ 62) : PCall Try.prog 47 [.s s] (rpV s) [] := by
  refine PCall.of_ax Try.call47 Try.func47 rfl (by simp [Try.ntmps47]) fun O w => ?_
  simp only [Try.ntmps47, Try.results47, argFr]
  refine AX.sregAV [0, 2] (hq := ?_)
  refine AX.cut (fun st => st = ⟨[(4, .b (neg1 s)), (2, .ptr 0 0), (0, .s s)], [(0, ⟨25, [.b false, .nl, .nl]⟩)], 1⟩) ?_ ?_
  · by_cases h0 : s.size = 0
    · have hq : decide (s = ⟨#[]⟩) = true := decide_eq_true (size_zero.2 h0)
      have hn : neg1 s = false := decide_eq_false (fun h => by omega)
      rw [hn]
      apply AX.reg [0, 2, 4] (by simp only [pq]; rfl)
      · repeat (first
       | (apply RunO.op rfl; · rfl
          · (simp only [opsOf, valsOf, valOf, lkp, ofConst, ofCell, Array.toList, Option.toList, List.map_cons, List.map_nil, List.cons_append, List.nil_append, List.append_nil, Nat.reduceEqDiff, Nat.reducePow, Nat.reduceLT, Nat.reduceLeDiff, reduceIte, if_true, if_false, IntKind.min, IntKind.max, IntKind.bits, IntKind.signed, Int.reduceLE, Int.reduceNeg, Int.reducePow, Int.reduceSub, and_self, Bool.false_eq_true, Nat.reduceSub]; rfl)
          · first | exact effStrNe hq | (simp (disch := omega) only [go_sem, i64_of, u32_of, u64_of, Nat.reduceLT, Nat.reduceLeDiff, Nat.reduceEqDiff, Nat.reduceAdd, Nat.reduceSub, Nat.reduceMul, Nat.reducePow, Nat.reduceBEq, Int.reduceLE, Int.reduceLT, Int.reduceToNat, Int.reduceEq, Int.reduceNeg, reduceIte, reduceCtorEq]; rfl)
          · (simp (disch := omega) only [go_sem, i64_of, u32_of, u64_of, Nat.reduceLT, Nat.reduceLeDiff, Nat.reduceEqDiff, Nat.reduceAdd, Nat.reduceSub, Nat.reduceMul, Nat.reducePow, Nat.reduceBEq, Int.reduceLE, Int.reduceLT, Int.reduceToNat, Int.reduceEq, Int.reduceNeg, reduceIte, reduceCtorEq]; rfl)
          · (simp only [pb, Nat.reduceLT, Nat.reduceAdd, reduceIte]; rfl))
       | (apply RunO.skip; · rfl
          · (simp only [pb, Nat.reduceLT, Nat.reduceAdd, reduceIte]; rfl)))
        exact RunO.nil
      · repeat (first | exact Keep.nil | (apply Keep.take; · rfl) | (apply Keep.drop; · rfl))
      exact ⟨rfl, rfl⟩
    · have hq : decide (s = ⟨#[]⟩) = false := decide_eq_false fun e => h0 (size_zero.1 e)
      by_cases h45 : bt s 0 = 45
      · have hn : neg1 s = true := decide_eq_true ⟨by omega, h45⟩
        rw [hn]
        apply AX.reg [0, 2, 4] (by simp only [pq]; rfl)
        · repeat (first
         | (apply RunO.op rfl; · rfl
            · (simp only [opsOf, valsOf, valOf, lkp, ofConst, ofCell, Array.toList, Option.toList, List.map_cons, List.map_nil, List.cons_append, List.nil_append, List.append_nil, Nat.reduceEqDiff, Nat.reducePow, Nat.reduceLT, Nat.reduceLeDiff, reduceIte, if_true, if_false, IntKind.min, IntKind.max, IntKind.bits, IntKind.signed, Int.reduceLE, Int.reduceNeg, Int.reducePow, Int.reduceSub, and_self, Bool.false_eq_true, Nat.reduceSub]; rfl)
            · first | exact effStrNe hq | exact effIx0 (Nat.pos_of_ne_zero h0) | (simp (disch := omega) only [go_sem, i64_of, u32_of, u64_of, Nat.reduceLT, Nat.reduceLeDiff, Nat.reduceEqDiff, Nat.reduceAdd, Nat.reduceSub, Nat.reduceMul, Nat.reducePow, Nat.reduceBEq, Int.reduceLE, Int.reduceLT, Int.reduceToNat, Int.reduceEq, Int.reduceNeg, reduceIte, reduceCtorEq, h45]; rfl)
            · (simp (disch := omega) only [go_sem, i64_of, u32_of, u64_of, Nat.reduceLT, Nat.reduceLeDiff, Nat.reduceEqDiff, Nat.reduceAdd, Nat.reduceSub, Nat.reduceMul, Nat.reducePow, Nat.reduceBEq, Int.reduceLE, Int.reduceLT, Int.reduceToNat, Int.reduceEq, Int.reduceNeg, reduceIte, reduceCtorEq, h45]; rfl)
            · (simp only [pb, Nat.reduceLT, Nat.reduceAdd, reduceIte]; rfl))
         | (apply RunO.skip; · rfl
            · (simp only [pb, Nat.reduceLT, Nat.reduceAdd, reduceIte]; rfl)))
          exact RunO.nil
        · repeat (first | exact Keep.nil | (apply Keep.take; · rfl) | (apply Keep.drop; · rfl))
        exact ⟨rfl, rfl⟩
      · have hn : neg1 s = false := decide_eq_false (fun h => h45 h.2)
        rw [hn]
        apply AX.reg [0, 2, 4] (by simp only [pq]; rfl)
        · repeat (first
         | (apply RunO.op rfl; · rfl
            · (simp only [opsOf, valsOf, valOf, lkp, ofConst, ofCell, Array.toList, Option.toList, List.map_cons, List.map_nil, List.cons_append, List.nil_append, List.append_nil, Nat.reduceEqDiff, Nat.reducePow, Nat.reduceLT, Nat.reduceLeDiff, reduceIte, if_true, if_false, IntKind.min, IntKind.max, IntKind.bits, IntKind.signed, Int.reduceLE, Int.reduceNeg, Int.reducePow, Int.reduceSub, and_self, Bool.false_eq_true, Nat.reduceSub]; rfl)
            · first | exact effStrNe hq | exact effIx0 (Nat.pos_of_ne_zero h0) | (simp (disch := omega) only [go_sem, i64_of, u32_of, u64_of, Nat.reduceLT, Nat.reduceLeDiff, Nat.reduceEqDiff, Nat.reduceAdd, Nat.reduceSub, Nat.reduceMul, Nat.reducePow, Nat.reduceBEq, Int.reduceLE, Int.reduceLT, Int.reduceToNat, Int.reduceEq, Int.reduceNeg, reduceIte, reduceCtorEq]; rfl)
            · (simp (disch := omega) only [go_sem, i64_of, u32_of, u64_of, Nat.reduceLT, Nat.reduceLeDiff, Nat.reduceEqDiff, Nat.reduceAdd, Nat.reduceSub, Nat.reduceMul, Nat.reducePow, Nat.reduceBEq, Int.reduceLE, Int.reduceLT, Int.reduceToNat, Int.reduceEq, Int.reduceNeg, reduceIte, reduceCtorEq]; rfl)
            · (simp only [pb, Nat.reduceLT, Nat.reduceAdd, reduceIte]; rfl))
         | (apply RunO.skip; · rfl
            · (simp only [pb, Nat.reduceLT, Nat.reduceAdd, reduceIte]; rfl)))
          exact RunO.nil
        · repeat (first | exact Keep.nil | (apply Keep.take; · rfl) | (apply Keep.drop; · rfl))
        exact ⟨rfl, rfl⟩
  rintro st rfl
  refine AX.cut (fun st => Le 0 id ⟨[(4, .b (neg1 s)), (2, .ptr 0 0), (0, .s (restS s))], [(0, ⟨25, [.b false, .nl, .nl]⟩)], 1⟩ st) ?_ ?_
  · cases hn : neg1 s
    · have e : restS s = s := if_neg (by rw [hn]; exact Bool.false_ne_true)
      rw [e]
      refine AX.sregAV [0, 2, 4, 16] (hq := ?_)
      refine AX.condF (h := ?_)
      refine AX.keepA [0, 2, 4] (h := ?_)
      refine AX.skip ⟨rfl,
        leA
        ⟩
    · have e : restS s = s.extract 1 s.size := if_pos hn
      have h1 : 1 ≤ s.size := (of_decide_eq_true hn).1
      rw [e]
      refine AX.sregAV [0, 2, 4, 16] (hq := ?_)
      refine AX.condT (h := ?_)
      apply AX.reg [0, 2, 4] (by simp only [pq]; rfl)
      · repeat (first
       | (apply RunO.op rfl; · rfl
          · (simp only [opsOf, valsOf, valOf, lkp, ofConst, ofCell, Array.toList, Option.toList, List.map_cons, List.map_nil, List.cons_append, List.nil_append, List.append_nil, Nat.reduceEqDiff, Nat.reducePow, Nat.reduceLT, Nat.reduceLeDiff, reduceIte, if_true, if_false, IntKind.min, IntKind.max, IntKind.bits, IntKind.signed, Int.reduceLE, Int.reduceNeg, Int.reducePow, Int.reduceSub, and_self, Bool.false_eq_true, Nat.reduceSub]; rfl)
          · first | exact effSl (n := 1) h1 | (simp (disch := omega) only [go_sem, i64_of, u32_of, u64_of, Nat.reduceLT, Nat.reduceLeDiff, Nat.reduceEqDiff, Nat.reduceAdd, Nat.reduceSub, Nat.reduceMul, Nat.reducePow, Nat.reduceBEq, Int.reduceLE, Int.reduceLT, Int.reduceToNat, Int.reduceEq, Int.reduceNeg, reduceIte, reduceCtorEq]; rfl)
          · (simp (disch := omega) only [go_sem, i64_of, u32_of, u64_of, Nat.reduceLT, Nat.reduceLeDiff, Nat.reduceEqDiff, Nat.reduceAdd, Nat.reduceSub, Nat.reduceMul, Nat.reducePow, Nat.reduceBEq, Int.reduceLE, Int.reduceLT, Int.reduceToNat, Int.reduceEq, Int.reduceNeg, reduceIte, reduceCtorEq]; rfl)
          · (simp only [pb, Nat.reduceLT, Nat.reduceAdd, reduceIte]; rfl))
       | (apply RunO.skip; · rfl
          · (simp only [pb, Nat.reduceLT, Nat.reduceAdd, reduceIte]; rfl)))
        exact RunO.nil
      · repeat (first | exact Keep.nil | (apply Keep.take; · rfl) | (apply Keep.drop; · rfl))
      exact ⟨rfl,
        leA
        ⟩
  rintro st hle
  refine AX.weaken id hle ?_
  clear hle
  have hrs := restS_lt hs
  have key1 := fun i hc h1 h2 h => canon_val (s := s) (i := i) hc h1 h2 h
  have key2 := fun i hc h1 h2 h => canon_no (s := s) (i := i) hc h1 h2 h
  have key3 : parE (numS (restS s)) ≠ 0 → rpV s = .tup [zR, .i .i64 (parE (numS (restS s)))] := by
    intro h
    have hE : rpE s = parE (numS (restS s)) := if_pos h
    rw [rpV, if_neg (by rw [hE]; exact h), hE]
  have key4 : parE (numS (restS s)) = 0 → denE (restS s) ≠ 0 → rpV s = .tup [zR, .i .i64 (denE (restS s))] := by
    intro h h'
    have hE : rpE s = denE (restS s) := by unfold rpE; rw [if_neg (by omega), if_pos h']
    rw [rpV, if_neg (by rw [hE]; exact h'), hE]
  generalize neg1 s = n at *
  generalize rpV s = RV at *
  generalize restS s = r at *
  refine AX.sregAV [0, 2, 4, 5] (hq := ?_)
  refine AX.cut (fun st => ∃ i : Nat, Cut r i ∧ st = ⟨[(5, .i .i64 i), (4, .b n), (2, .ptr 0 0), (0, .s r)], [(0, ⟨25, [.b false, .nl, .nl]⟩)], 1⟩) ?_ ?_
  · refine AX.block ?_
    refine AX.loop (fun N st => ∃ i : Nat, N = r.size - i ∧ i ≤ r.size ∧ (∀ j, j < i → bt r j ≠ 47) ∧ st = ⟨[(5, .i .i64 i), (4, .b n), (2, .ptr 0 0), (0, .s r)], [(0, ⟨25, [.b false, .nl, .nl]⟩)], 1⟩) r.size ⟨0, rfl, by omega, fun j hj => absurd hj (Nat.not_lt_zero j), rfl⟩ ?_
    rintro N st ⟨i, rfl, hi, hdg, rfl⟩
    refine AX.seq ?_
    by_cases h : i < r.size
    · by_cases h47 : bt r i = 47
      · apply AX.sreg [0, 2, 4, 5, 28] (by simp only [pq]; rfl)
        · repeat (first
         | (apply RunO.op rfl; · rfl
            · (simp only [opsOf, valsOf, valOf, lkp, ofConst, ofCell, Array.toList, Option.toList, List.map_cons, List.map_nil, List.cons_append, List.nil_append, List.append_nil, Nat.reduceEqDiff, Nat.reducePow, Nat.reduceLT, Nat.reduceLeDiff, reduceIte, if_true, if_false, IntKind.min, IntKind.max, IntKind.bits, IntKind.signed, Int.reduceLE, Int.reduceNeg, Int.reducePow, Int.reduceSub, and_self, Bool.false_eq_true, Nat.reduceSub]; rfl)
            · first | exact effIx h | (simp (disch := omega) only [go_sem, i64_of, u32_of, u64_of, Nat.reduceLT, Nat.reduceLeDiff, Nat.reduceEqDiff, Nat.reduceAdd, Nat.reduceSub, Nat.reduceMul, Nat.reducePow, Nat.reduceBEq, Int.reduceLE, Int.reduceLT, Int.reduceToNat, Int.reduceEq, Int.reduceNeg, reduceIte, reduceCtorEq, h47]; rfl)
            · (simp (disch := omega) only [go_sem, i64_of, u32_of, u64_of, Nat.reduceLT, Nat.reduceLeDiff, Nat.reduceEqDiff, Nat.reduceAdd, Nat.reduceSub, Nat.reduceMul, Nat.reducePow, Nat.reduceBEq, Int.reduceLE, Int.reduceLT, Int.reduceToNat, Int.reduceEq, Int.reduceNeg, reduceIte, reduceCtorEq, h47]; rfl)
            · (simp only [pb, Nat.reduceLT, Nat.reduceAdd, reduceIte]; rfl))
         | (apply RunO.skip; · rfl
            · (simp only [pb, Nat.reduceLT, Nat.reduceAdd, reduceIte]; rfl)))
          exact RunO.nil
        · repeat (first | exact Keep.nil | (apply Keep.take; · rfl) | (apply Keep.drop; · rfl))
        refine AX.condF (h := ?_)
        refine AX.keepA [0, 2, 4, 5] (h := ?_)
        refine AX.exit ?_
        try simp only [thenS_normal, thenS_ret, thenS_exit, blockS_normal, blockS_ret, blockS_exit, backS_ret, backS_exit, if_true]
        refine ⟨trivial, i, .inr ⟨h, h47, hdg⟩, ?_⟩
        first | rfl | skip
      · apply AX.sreg [0, 2, 4, 5, 28] (by simp only [pq]; rfl)
        · repeat (first
         | (apply RunO.op rfl; · rfl
            · (simp only [opsOf, valsOf, valOf, lkp, ofConst, ofCell, Array.toList, Option.toList, List.map_cons, List.map_nil, List.cons_append, List.nil_append, List.append_nil, Nat.reduceEqDiff, Nat.reducePow, Nat.reduceLT, Nat.reduceLeDiff, reduceIte, if_true, if_false, IntKind.min, IntKind.max, IntKind.bits, IntKind.signed, Int.reduceLE, Int.reduceNeg, Int.reducePow, Int.reduceSub, and_self, Bool.false_eq_true, Nat.reduceSub]; rfl)
            · first | exact effIx h | (simp (disch := omega) only [go_sem, i64_of, u32_of, u64_of, Nat.reduceLT, Nat.reduceLeDiff, Nat.reduceEqDiff, Nat.reduceAdd, Nat.reduceSub, Nat.reduceMul, Nat.reducePow, Nat.reduceBEq, Int.reduceLE, Int.reduceLT, Int.reduceToNat, Int.reduceEq, Int.reduceNeg, reduceIte, reduceCtorEq]; rfl)
            · (simp (disch := omega) only [go_sem, i64_of, u32_of, u64_of, Nat.reduceLT, Nat.reduceLeDiff, Nat.reduceEqDiff, Nat.reduceAdd, Nat.reduceSub, Nat.reduceMul, Nat.reducePow, Nat.reduceBEq, Int.reduceLE, Int.reduceLT, Int.reduceToNat, Int.reduceEq, Int.reduceNeg, reduceIte, reduceCtorEq]; rfl)
            · (simp only [pb, Nat.reduceLT, Nat.reduceAdd, reduceIte]; rfl))
         | (apply RunO.skip; · rfl
            · (simp only [pb, Nat.reduceLT, Nat.reduceAdd, reduceIte]; rfl)))
          exact RunO.nil
        · repeat (first | exact Keep.nil | (apply Keep.take; · rfl) | (apply Keep.drop; · rfl))
        refine AX.condT (h := ?_)
        refine AX.keepA [0, 2, 4, 5] (h := ?_)
        refine AX.skip ?_
        try simp only [thenS_normal, thenS_ret, thenS_exit, blockS_normal, blockS_ret, blockS_exit, backS_ret, backS_exit, if_true]
        refine AX.block ?_
        refine AX.regWV [0, 2, 4, 5] (And.intro @lit_add True.intro) True.intro (hq := ?_)
        try simp only [thenS_normal, thenS_ret, thenS_exit, blockS_normal, blockS_ret, blockS_exit, backS_ret, backS_exit, if_true]
        refine ⟨r.size - (i + 1), _, id, by omega,
          leA
          , ⟨i + 1, rfl, by omega, ?_, rfl⟩⟩
        intro j hj
        by_cases e : j = i
        · rw [e]; exact h47
        · exact hdg j (by omega)
    · refine AX.sregAV [0, 2, 4, 5, 28] (hq := ?_)
      refine AX.condF (h := ?_)
      refine AX.keepA [0, 2, 4, 5] (h := ?_)
      refine AX.exit ?_
      try simp only [thenS_normal, thenS_ret, thenS_exit, blockS_normal, blockS_ret, blockS_exit, backS_ret, backS_exit, if_true]
      have e : i = r.size := by omega
      subst e
      refine ⟨trivial, r.size, .inl ⟨rfl, hdg⟩, ?_⟩
      first | rfl | skip
  rintro st ⟨i, hc, rfl⟩
  have hir := hc.le
  have enum := numS_cut hc
  obtain ⟨eden, eden'⟩ := den_cut hc
  have c1 : PCall Try.prog 77 [.s (r.extract 0 i)] (numE (parN (numS r)) (parE (numS r))) [] := by
    rw [enum]
    exact rparse_ok (r.extract 0 i) (by rw [ByteArray.size_extract]; omega)
  have c0 := rof_ok 1 (by omega)
  have key1 := key1 i hc
  have key2 := key2 i hc
  have lp := parN_len (numS r)
  by_cases h1 : parE (numS r) = 0
  · rw [h1] at c1
    have key1 := key1 h1
    have key2 := key2 h1
    have key4 := key4 h1
    clear key3
    generalize parN (numS r) = p at *
    apply AX.sreg [0, 2, 4, 5, 6, 7] (by simp only [pq]; rfl)
    · repeat (first
     | (apply RunO.op rfl; · rfl
        · (simp only [opsOf, valsOf, valOf, lkp, ofConst, ofCell, Array.toList, Option.toList, List.map_cons, List.map_nil, List.cons_append, List.nil_append, List.append_nil, Nat.reduceEqDiff, Nat.reducePow, Nat.reduceLT, Nat.reduceLeDiff, reduceIte, if_true, if_false, IntKind.min, IntKind.max, IntKind.bits, IntKind.signed, Int.reduceLE, Int.reduceNeg, Int.reducePow, Int.reduceSub, and_self, Bool.false_eq_true, Nat.reduceSub]; rfl)
        · first | exact effSlTo hir | (simp (disch := omega) only [go_sem, i64_of, u32_of, u64_of, Nat.reduceLT, Nat.reduceLeDiff, Nat.reduceEqDiff, Nat.reduceAdd, Nat.reduceSub, Nat.reduceMul, Nat.reducePow, Nat.reduceBEq, Int.reduceLE, Int.reduceLT, Int.reduceToNat, Int.reduceEq, Int.reduceNeg, reduceIte, reduceCtorEq]; rfl)
        · (simp (disch := omega) only [go_sem, i64_of, u32_of, u64_of, Nat.reduceLT, Nat.reduceLeDiff, Nat.reduceEqDiff, Nat.reduceAdd, Nat.reduceSub, Nat.reduceMul, Nat.reducePow, Nat.reduceBEq, Int.reduceLE, Int.reduceLT, Int.reduceToNat, Int.reduceEq, Int.reduceNeg, reduceIte, reduceCtorEq]; rfl)
        · (simp only [pb, Nat.reduceLT, Nat.reduceAdd, reduceIte]; rfl))
     | (apply RunO.call rfl; · rfl
        · (simp only [opsOf, valsOf, valOf, lkp, ofConst, ofCell, Array.toList, Option.toList, List.map_cons, List.map_nil, List.cons_append, List.nil_append, List.append_nil, Nat.reduceEqDiff, Nat.reducePow, Nat.reduceLT, Nat.reduceLeDiff, reduceIte, if_true, if_false, IntKind.min, IntKind.max, IntKind.bits, IntKind.signed, Int.reduceLE, Int.reduceNeg, Int.reducePow, Int.reduceSub, and_self, Bool.false_eq_true, Nat.reduceSub]; rfl)
        · (simp (disch := omega) only [go_sem, i64_of, u32_of, u64_of, Nat.reduceLT, Nat.reduceLeDiff, Nat.reduceEqDiff, Nat.reduceAdd, Nat.reduceSub, Nat.reduceMul, Nat.reducePow, Nat.reduceBEq, Int.reduceLE, Int.reduceLT, Int.reduceToNat, Int.reduceEq, Int.reduceNeg, reduceIte, reduceCtorEq]; rfl)
        · rfl
        · (first | exact c1)
        · (simp (disch := omega) only [go_sem, i64_of, u32_of, u64_of, Nat.reduceLT, Nat.reduceLeDiff, Nat.reduceEqDiff, Nat.reduceAdd, Nat.reduceSub, Nat.reduceMul, Nat.reducePow, Nat.reduceBEq, Int.reduceLE, Int.reduceLT, Int.reduceToNat, Int.reduceEq, Int.reduceNeg, reduceIte, reduceCtorEq]; rfl)
        · (simp only [pb, Nat.reduceLT, Nat.reduceAdd, reduceIte]; rfl))
     | (apply RunO.skip; · rfl
        · (simp only [pb, Nat.reduceLT, Nat.reduceAdd, reduceIte]; rfl)))
      exact RunO.nil
    · repeat (first | exact Keep.nil | (apply Keep.take; · rfl) | (apply Keep.drop; · rfl))
    refine AX.seq ?_
    refine AX.sregAV [0, 2, 4, 5, 6, 7, 39] (hq := ?_)
    refine AX.condF (h := ?_)
    refine AX.keepA [0, 2, 4, 5, 6] (h := ?_)
    refine AX.skip ?_
    try simp only [thenS_normal, thenS_ret, thenS_exit, blockS_normal, blockS_ret, blockS_exit, backS_ret, backS_exit, if_true]
    refine AX.sregCV [0, 2, 4, 5, 6, 8] (And.intro c0 True.intro) (hq := ?_)
    refine AX.cutR (fun st => ∃ q, (digits q).length ≤ 20000 ∧ denE r = 0 ∧ denN r = q ∧ (decide (i < r.size) = true → 1 < q ∧ Nat.gcd p q = 1) ∧ Le 0 id ⟨[(8, nv q), (6, nv p), (4, .b n), (2, .ptr 0 0)], [(0, ⟨25, [.b false, .nl, .nl]⟩)], 1⟩ st) ?_ ?_
    · by_cases h2 : i < r.size
      · obtain ⟨f1, f2⟩ := eden h2
        have c2 := rparse_ok (r.extract (i + 1) r.size) (by rw [size_ext]; omega)
        have lq := parN_len (r.extract (i + 1) r.size)
        have hi1 : i + 1 ≤ r.size := h2
        rw [f1, f2] at key1 key2
        rw [f1] at key4
        by_cases h3 : parE (r.extract (i + 1) r.size) = 0
        · rw [h3] at c2 f1
          have key2 := key2 h3
          rw [f1, f2]
          clear key1 key4
          generalize parN (r.extract (i + 1) r.size) = q at *
          have c3 := rcmp_n q 1 (by omega) (by have := lenS (n := 1) (by omega); omega)
          have c4 := rgcd_ok (digits p) (digits q) (Dg_digits _) (Dg_digits _) (by omega) (by omega)
          rw [val_digits, val_digits] at c4
          have c5 := rcmp_n (Nat.gcd p q) 1 (by have := gcd_lt (a := digits p) (b := digits q) (by omega) (by omega) (Dg_digits _) (Dg_digits _); rw [val_digits, val_digits] at this; omega) (by have := lenS (n := 1) (by omega); omega)
          have z1 := cmp_le_zero (m := q) (n := 1)
          have z2 := cmp_one_ne (n := Nat.gcd p q)
          generalize cmp q 1 = Z1 at *
          generalize cmp (Nat.gcd p q) 1 = Z2 at *
          refine AX.sregAV [0, 2, 4, 5, 6, 8, 46] (hq := ?_)
          refine AX.condT (h := ?_)
          apply AX.sreg [2, 4, 6, 7, 8] (by simp only [pq]; rfl)
          · repeat (first
           | (apply RunO.op rfl; · rfl
              · (simp only [opsOf, valsOf, valOf, lkp, ofConst, ofCell, Array.toList, Option.toList, List.map_cons, List.map_nil, List.cons_append, List.nil_append, List.append_nil, Nat.reduceEqDiff, Nat.reducePow, Nat.reduceLT, Nat.reduceLeDiff, reduceIte, if_true, if_false, IntKind.min, IntKind.max, IntKind.bits, IntKind.signed, Int.reduceLE, Int.reduceNeg, Int.reducePow, Int.reduceSub, and_self, Bool.false_eq_true, Nat.reduceSub]; rfl)
              · first | exact effSl hi1 | (simp (disch := omega) only [go_sem, i64_of, u32_of, u64_of, Nat.reduceLT, Nat.reduceLeDiff, Nat.reduceEqDiff, Nat.reduceAdd, Nat.reduceSub, Nat.reduceMul, Nat.reducePow, Nat.reduceBEq, Int.reduceLE, Int.reduceLT, Int.reduceToNat, Int.reduceEq, Int.reduceNeg, reduceIte, reduceCtorEq, lit_add]; rfl)
              · (simp (disch := omega) only [go_sem, i64_of, u32_of, u64_of, Nat.reduceLT, Nat.reduceLeDiff, Nat.reduceEqDiff, Nat.reduceAdd, Nat.reduceSub, Nat.reduceMul, Nat.reducePow, Nat.reduceBEq, Int.reduceLE, Int.reduceLT, Int.reduceToNat, Int.reduceEq, Int.reduceNeg, reduceIte, reduceCtorEq, lit_add]; rfl)
              · (simp only [pb, Nat.reduceLT, Nat.reduceAdd, reduceIte]; rfl))
           | (apply RunO.call rfl; · rfl
              · (simp only [opsOf, valsOf, valOf, lkp, ofConst, ofCell, Array.toList, Option.toList, List.map_cons, List.map_nil, List.cons_append, List.nil_append, List.append_nil, Nat.reduceEqDiff, Nat.reducePow, Nat.reduceLT, Nat.reduceLeDiff, reduceIte, if_true, if_false, IntKind.min, IntKind.max, IntKind.bits, IntKind.signed, Int.reduceLE, Int.reduceNeg, Int.reducePow, Int.reduceSub, and_self, Bool.false_eq_true, Nat.reduceSub]; rfl)
              · (simp (disch := omega) only [go_sem, i64_of, u32_of, u64_of, Nat.reduceLT, Nat.reduceLeDiff, Nat.reduceEqDiff, Nat.reduceAdd, Nat.reduceSub, Nat.reduceMul, Nat.reducePow, Nat.reduceBEq, Int.reduceLE, Int.reduceLT, Int.reduceToNat, Int.reduceEq, Int.reduceNeg, reduceIte, reduceCtorEq, lit_add]; rfl)
              · rfl
              · (first | exact c2)
              · (simp (disch := omega) only [go_sem, i64_of, u32_of, u64_of, Nat.reduceLT, Nat.reduceLeDiff, Nat.reduceEqDiff, Nat.reduceAdd, Nat.reduceSub, Nat.reduceMul, Nat.reducePow, Nat.reduceBEq, Int.reduceLE, Int.reduceLT, Int.reduceToNat, Int.reduceEq, Int.reduceNeg, reduceIte, reduceCtorEq, lit_add]; rfl)
              · (simp only [pb, Nat.reduceLT, Nat.reduceAdd, reduceIte]; rfl))
           | (apply RunO.skip; · rfl
              · (simp only [pb, Nat.reduceLT, Nat.reduceAdd, reduceIte]; rfl)))
            exact RunO.nil
          · repeat (first | exact Keep.nil | (apply Keep.take; · rfl) | (apply Keep.drop; · rfl))
          refine AX.seq ?_
          refine AX.sregAV [2, 4, 6, 7, 8, 56] (hq := ?_)
          refine AX.condF (h := ?_)
          refine AX.keepA [2, 4, 6, 8] (h := ?_)
          refine AX.skip ?_
          try simp only [thenS_normal, thenS_ret, thenS_exit, blockS_normal, blockS_ret, blockS_exit, backS_ret, backS_exit, if_true]
          by_cases h4 : q ≤ 1
          · have hz := z1.2 h4
            have hR := key2 (fun h => by have := (h.1 (decide_eq_true h2)).1; omega)
            subst hR
            refine AX.sregWV [2, 4, 6, 8, 70] (And.intro @hz True.intro) (And.intro c0 (And.intro c3 True.intro)) (hq := ?_)
            refine AX.condT (h := ?_)
            refine AX.sregAV [2, 3] (hq := ?_)
            refine AX.ret (And.intro (Or.inl rfl) ?_)
            exact Done.cellZ rfl rfl rfl
          · have hz : ¬ Z1 ≤ 0 := fun e => h4 (z1.1 e)
            by_cases h5 : Nat.gcd p q = 1
            · have hz2 : Z2 = 0 := by omega
              subst hz2
              refine AX.sregWV [2, 4, 6, 8, 70] (And.intro @hz True.intro) (And.intro c0 (And.intro c3 (And.intro c4 (And.intro c5 True.intro)))) (hq := ?_)
              refine AX.condF (h := ?_)
              refine AX.keepA [2, 4, 6, 8] (h := ?_)
              refine AX.skip ⟨q, lq, (by first | rfl | trivial), (by first | rfl | trivial), fun _ => ⟨by omega, h5⟩,
                leA
                ⟩
            · have hz2 : Z2 ≠ 0 := z2.2 h5
              have hR := key2 (fun h => h5 (h.1 (decide_eq_true h2)).2)
              subst hR
              refine AX.sregWV [2, 4, 6, 8, 70] (And.intro @hz (And.intro @hz2 True.intro)) (And.intro c0 (And.intro c3 (And.intro c4 (And.intro c5 True.intro)))) (hq := ?_)
              refine AX.condT (h := ?_)
              refine AX.sregAV [2, 3] (hq := ?_)
              refine AX.ret (And.intro (Or.inl rfl) ?_)
              exact Done.cellZ rfl rfl rfl
        · have hR := key4 h3
          subst hR
          clear key1 key2 key4
          generalize parN (r.extract (i + 1) r.size) = q at *
          generalize parE (r.extract (i + 1) r.size) = E at *
          refine AX.sregAV [0, 2, 4, 5, 6, 8, 46] (hq := ?_)
          refine AX.condT (h := ?_)
          apply AX.sreg [2, 4, 6, 7, 8] (by simp only [pq]; rfl)
          · repeat (first
           | (apply RunO.op rfl; · rfl
              · (simp only [opsOf, valsOf, valOf, lkp, ofConst, ofCell, Array.toList, Option.toList, List.map_cons, List.map_nil, List.cons_append, List.nil_append, List.append_nil, Nat.reduceEqDiff, Nat.reducePow, Nat.reduceLT, Nat.reduceLeDiff, reduceIte, if_true, if_false, IntKind.min, IntKind.max, IntKind.bits, IntKind.signed, Int.reduceLE, Int.reduceNeg, Int.reducePow, Int.reduceSub, and_self, Bool.false_eq_true, Nat.reduceSub]; rfl)
              · first | exact effSl hi1 | (simp (disch := omega) only [go_sem, i64_of, u32_of, u64_of, Nat.reduceLT, Nat.reduceLeDiff, Nat.reduceEqDiff, Nat.reduceAdd, Nat.reduceSub, Nat.reduceMul, Nat.reducePow, Nat.reduceBEq, Int.reduceLE, Int.reduceLT, Int.reduceToNat, Int.reduceEq, Int.reduceNeg, reduceIte, reduceCtorEq, lit_add]; rfl)
              · (simp (disch := omega) only [go_sem, i64_of, u32_of, u64_of, Nat.reduceLT, Nat.reduceLeDiff, Nat.reduceEqDiff, Nat.reduceAdd, Nat.reduceSub, Nat.reduceMul, Nat.reducePow, Nat.reduceBEq, Int.reduceLE, Int.reduceLT, Int.reduceToNat, Int.reduceEq, Int.reduceNeg, reduceIte, reduceCtorEq, lit_add]; rfl)
              · (simp only [pb, Nat.reduceLT, Nat.reduceAdd, reduceIte]; rfl))
           | (apply RunO.call rfl; · rfl
              · (simp only [opsOf, valsOf, valOf, lkp, ofConst, ofCell, Array.toList, Option.toList, List.map_cons, List.map_nil, List.cons_append, List.nil_append, List.append_nil, Nat.reduceEqDiff, Nat.reducePow, Nat.reduceLT, Nat.reduceLeDiff, reduceIte, if_true, if_false, IntKind.min, IntKind.max, IntKind.bits, IntKind.signed, Int.reduceLE, Int.reduceNeg, Int.reducePow, Int.reduceSub, and_self, Bool.false_eq_true, Nat.reduceSub]; rfl)
              · (simp (disch := omega) only [go_sem, i64_of, u32_of, u64_of, Nat.reduceLT, Nat.reduceLeDiff, Nat.reduceEqDiff, Nat.reduceAdd, Nat.reduceSub, Nat.reduceMul, Nat.reducePow, Nat.reduceBEq, Int.reduceLE, Int.reduceLT, Int.reduceToNat, Int.reduceEq, Int.reduceNeg, reduceIte, reduceCtorEq, lit_add]; rfl)
              · rfl
              · (first | exact c2)
              · (simp (disch := omega) only [go_sem, i64_of, u32_of, u64_of, Nat.reduceLT, Nat.reduceLeDiff, Nat.reduceEqDiff, Nat.reduceAdd, Nat.reduceSub, Nat.reduceMul, Nat.reducePow, Nat.reduceBEq, Int.reduceLE, Int.reduceLT, Int.reduceToNat, Int.reduceEq, Int.reduceNeg, reduceIte, reduceCtorEq, lit_add]; rfl)
              · (simp only [pb, Nat.reduceLT, Nat.reduceAdd, reduceIte]; rfl))
           | (apply RunO.skip; · rfl
              · (simp only [pb, Nat.reduceLT, Nat.reduceAdd, reduceIte]; rfl)))
            exact RunO.nil
          · repeat (first | exact Keep.nil | (apply Keep.take; · rfl) | (apply Keep.drop; · rfl))
          refine AX.seq ?_
          refine AX.sregAV [2, 4, 6, 7, 8, 56] (hq := ?_)
          refine AX.condT (h := ?_)
          refine AX.sregAV [2, 3] (hq := ?_)
          refine AX.ret (And.intro (Or.inl rfl) ?_)
          exact Done.cellZ rfl rfl rfl
      · obtain ⟨f1, f2⟩ := eden' h2
        refine AX.sregAV [0, 2, 4, 5, 6, 8, 46] (hq := ?_)
        refine AX.condF (h := ?_)
        refine AX.keepA [2, 4, 6, 8] (h := ?_)
        refine AX.skip ⟨1, by have := lenS (n := 1) (by omega); omega, f1, f2, fun h => absurd (of_decide_eq_true h) h2,
          leA
          ⟩
    rintro st ⟨q, lq, f1, f2, hq, hle⟩
    refine AX.weaken id hle ?_
    clear hle key4 eden eden'
    rw [f2] at key1 key2
    have key1 := key1 f1
    have key2 := key2 f1
    refine AX.seq ?_
    cases n
    · have hR := key1 ⟨hq, fun h => Bool.false_ne_true h.1⟩
      subst hR
      refine AX.sregAV [2, 4, 6, 8, 77] (hq := ?_)
      refine AX.condF (h := ?_)
      refine AX.keepA [2, 4, 6, 8] (h := ?_)
      refine AX.skip ?_
      try simp only [thenS_normal, thenS_ret, thenS_exit, blockS_normal, blockS_ret, blockS_exit, backS_ret, backS_exit, if_true]
      refine AX.sregAV [2, 3] (hq := ?_)
      refine AX.ret (And.intro (Or.inl rfl) ?_)
      exact Done.cellE rfl rfl rfl
    · by_cases hp : p = 0
      · have hR := key2 (fun h => h.2 ⟨rfl, hp⟩)
        subst hR
        have hl : (digits p).length = 0 := by rw [hp, digits_zero]; rfl
        refine AX.sregAV [2, 4, 6, 8, 77] (hq := ?_)
        refine AX.condT (h := ?_)
        refine AX.sregAV [2, 3] (hq := ?_)
        refine AX.ret (And.intro (Or.inl rfl) ?_)
        exact Done.cellZ rfl rfl rfl
      · have hR := key1 ⟨hq, fun h => hp h.2⟩
        subst hR
        have hl : (digits p).length ≠ 0 := fun e => hp (digits_len_zero.1 e)
        refine AX.sregAV [2, 4, 6, 8, 77] (hq := ?_)
        refine AX.condF (h := ?_)
        refine AX.keepA [2, 4, 6, 8] (h := ?_)
        refine AX.skip ?_
        try simp only [thenS_normal, thenS_ret, thenS_exit, blockS_normal, blockS_ret, blockS_exit, backS_ret, backS_exit, if_true]
        refine AX.sregAV [2, 3] (hq := ?_)
        refine AX.ret (And.intro (Or.inl rfl) ?_)
        exact Done.cellE rfl rfl rfl
  · have hR := key3 h1
    subst hR
    clear key1 key2 key4
    generalize parN (numS r) = p at *
    generalize parE (numS r) = E at *
    apply AX.sreg [0, 2, 4, 5, 6, 7] (by simp only [pq]; rfl)
    · repeat (first
     | (apply RunO.op rfl; · rfl
        · (simp only [opsOf, valsOf, valOf, lkp, ofConst, ofCell, Array.toList, Option.toList, List.map_cons, List.map_nil, List.cons_append, List.nil_append, List.append_nil, Nat.reduceEqDiff, Nat.reducePow, Nat.reduceLT, Nat.reduceLeDiff, reduceIte, if_true, if_false, IntKind.min, IntKind.max, IntKind.bits, IntKind.signed, Int.reduceLE, Int.reduceNeg, Int.reducePow, Int.reduceSub, and_self, Bool.false_eq_true, Nat.reduceSub]; rfl)
        · first | exact effSlTo hir | (simp (disch := omega) only [go_sem, i64_of, u32_of, u64_of, Nat.reduceLT, Nat.reduceLeDiff, Nat.reduceEqDiff, Nat.reduceAdd, Nat.reduceSub, Nat.reduceMul, Nat.reducePow, Nat.reduceBEq, Int.reduceLE, Int.reduceLT, Int.reduceToNat, Int.reduceEq, Int.reduceNeg, reduceIte, reduceCtorEq]; rfl)
        · (simp (disch := omega) only [go_sem, i64_of, u32_of, u64_of, Nat.reduceLT, Nat.reduceLeDiff, Nat.reduceEqDiff, Nat.reduceAdd, Nat.reduceSub, Nat.reduceMul, Nat.reducePow, Nat.reduceBEq, Int.reduceLE, Int.reduceLT, Int.reduceToNat, Int.reduceEq, Int.reduceNeg, reduceIte, reduceCtorEq]; rfl)
        · (simp only [pb, Nat.reduceLT, Nat.reduceAdd, reduceIte]; rfl))
     | (apply RunO.call rfl; · rfl
        · (simp only [opsOf, valsOf, valOf, lkp, ofConst, ofCell, Array.toList, Option.toList, List.map_cons, List.map_nil, List.cons_append, List.nil_append, List.append_nil, Nat.reduceEqDiff, Nat.reducePow, Nat.reduceLT, Nat.reduceLeDiff, reduceIte, if_true, if_false, IntKind.min, IntKind.max, IntKind.bits, IntKind.signed, Int.reduceLE, Int.reduceNeg, Int.reducePow, Int.reduceSub, and_self, Bool.false_eq_true, Nat.reduceSub]; rfl)
        · (simp (disch := omega) only [go_sem, i64_of, u32_of, u64_of, Nat.reduceLT, Nat.reduceLeDiff, Nat.reduceEqDiff, Nat.reduceAdd, Nat.reduceSub, Nat.reduceMul, Nat.reducePow, Nat.reduceBEq, Int.reduceLE, Int.reduceLT, Int.reduceToNat, Int.reduceEq, Int.reduceNeg, reduceIte, reduceCtorEq]; rfl)
        · rfl
        · (first | exact c1)
        · (simp (disch := omega) only [go_sem, i64_of, u32_of, u64_of, Nat.reduceLT, Nat.reduceLeDiff, Nat.reduceEqDiff, Nat.reduceAdd, Nat.reduceSub, Nat.reduceMul, Nat.reducePow, Nat.reduceBEq, Int.reduceLE, Int.reduceLT, Int.reduceToNat, Int.reduceEq, Int.reduceNeg, reduceIte, reduceCtorEq]; rfl)
        · (simp only [pb, Nat.reduceLT, Nat.reduceAdd, reduceIte]; rfl))
     | (apply RunO.skip; · rfl
        · (simp only [pb, Nat.reduceLT, Nat.reduceAdd, reduceIte]; rfl)))
      exact RunO.nil
    · repeat (first | exact Keep.nil | (apply Keep.take; · rfl) | (apply Keep.drop; · rfl))
    refine AX.seq ?_
    refine AX.sregAV [0, 2, 4, 5, 6, 7, 39] (hq := ?_)
    refine AX.condT (h := ?_)
    refine AX.sregAV [2, 3] (hq := ?_)
    refine AX.ret (And.intro (Or.inl rfl) ?_)
    exact Done.cellZ rfl rfl rfl

end Go.Proofs.Ytmhjcmochemndaa
