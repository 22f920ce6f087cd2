/- shifted: its result is the caller's own. -/
import Derived.Test.YtlhobedecoeohaaNatI
set_option linter.unusedVariables false
set_option linter.unusedSimpArgs false
namespace Go.Proofs.Ytlhobedecoeohaa
open Go Go.Proofs.Ytlhobedecoeohaa.Lift

/-- A result that the caller may write. -/
theorem Lift.Done.ownRow {P : Program} {st : St} {t : Tmp} {h len : Nat} {l : List Nat} {T : TypeId} (h1 : lkp st.fr t = some (.own h 0 len 1)) (h2 : lkp st.hp h = some ⟨T, l.map u⟩) : Done P #[.tmp t] (.own 0 0 len 1) [⟨T, l.map u⟩] st := by
  refine ⟨[.own h 0 len 1], by simp [resVs, resV, h1], [h], fun _ => h, .own h 0 len 1, st.hp, ?_, rfl, rfl, ?_, ?_⟩
  · simp [packV, frz]
  · intro k q hq
    cases k with
    | zero =>
      simp at hq
      subst hq
      refine ⟨?_, ltL_u _ _⟩
      rw [h2]
      simp only [Row.ren, renL_u]
    | succ k => simp at hq
  · intro k k' hk hk' _
    simp at hk hk'
    omega

theorem or32 {a b s : Nat} (ha : a < 2 ^ s) (hs : s ≤ 31) (hb : b * 2 ^ s < 4294967296) : orI .u32 (a : Int) ((b * 2 ^ s : Nat) : Int) = ((a + b * 2 ^ s : Nat) : Int) := by
  show (((BitVec.ofInt 32 (a : Int) ||| BitVec.ofInt 32 ((b * 2 ^ s : Nat) : Int)).toNat : Nat) : Int) = _
  have hp : 2 ^ s ≤ 2 ^ 31 := Nat.pow_le_pow_right (by omega) hs
  rw [BitVec.toNat_or, BitVec.toNat_ofInt, BitVec.toNat_ofInt]
  have e1 : ((a : Int) % ((2 ^ 32 : Nat) : Int)).toNat = a := by
    rw [← Int.natCast_emod, Int.toNat_natCast, Nat.mod_eq_of_lt (by omega)]
  have e2 : (((b * 2 ^ s : Nat) : Int) % ((2 ^ 32 : Nat) : Int)).toNat = b * 2 ^ s := by
    rw [← Int.natCast_emod, Int.toNat_natCast, Nat.mod_eq_of_lt (by omega)]
  rw [e1, e2, Nat.or_comm, ← Nat.shiftLeft_eq, ← Nat.shiftLeft_add_eq_or_of_lt ha, Nat.shiftLeft_eq, Nat.add_comm]
theorem shl_nat (x s : Nat) : (x : Int) * 2 ^ s = ((x * 2 ^ s : Nat) : Int) := by simp
theorem shl_mod {x s : Nat} (hs : s ≤ 31) : x * 2 ^ s % 4294967296 = x % 2 ^ (32 - s) * 2 ^ s := by
  have : (4294967296 : Nat) = 2 ^ (32 - s) * 2 ^ s := by
    rw [← Nat.pow_add, show 32 - s + s = 32 by omega]
  rw [this, Nat.mul_mod_mul_right]
theorem shl_high {x s : Nat} (hs : s ≤ 31) (hx : x < 4294967296) : x * 2 ^ s / 4294967296 < 2 ^ s := by
  rw [Nat.div_lt_iff_lt_mul (by omega), Nat.mul_comm (2 ^ s)]
  exact Nat.mul_lt_mul_of_pos_right hx (Nat.pow_pos (by omega))

/-- The digits of a number, filled up with zeros. -/
def pad (K n : Nat) : List Nat := digits n ++ List.replicate (K - (digits n).length) 0
theorem eq_of_val : ∀ (a b : List Nat), Dg a → Dg b → a.length = b.length → val a = val b → a = b := by
  intro a
  induction a with
  | nil => intro b _ _ hl _; exact (List.eq_nil_of_length_eq_zero hl.symm).symm
  | cons x a ih =>
    intro b ha hb hl hv
    cases b with
    | nil => simp at hl
    | cons y b =>
      rw [Dg_cons] at ha hb
      simp only [val] at hv
      have h1 := ha.1
      have h2 := hb.1
      have e1 : x = y := by omega
      subst e1
      rw [ih b ha.2 hb.2 (by simpa using hl) (by omega)]
theorem pad_val {K n : Nat} : val (pad K n) = n := by
  unfold pad
  rw [val_append, val_digits, val_replicate]
  simp
theorem pad_Dg {K n : Nat} : Dg (pad K n) := by
  unfold pad
  rw [Dg_append]
  exact ⟨Dg_digits n, Dg_replicate _⟩
theorem pad_length {K n : Nat} (h : n < 4294967296 ^ K) : (pad K n).length = K := by
  unfold pad
  have := digits_length_le h
  simp
  omega
theorem pad_eq {r : List Nat} (h : Dg r) : r = pad r.length (val r) :=
  eq_of_val _ _ h pad_Dg (pad_length (val_lt h)).symm pad_val.symm
theorem set_zero_val {r : List Nat} {j v : Nat} (h : j < r.length) (h0 : r.getD j 0 = 0) : val (r.set j v) = val r + 4294967296 ^ j * v := by
  have := val_set r j v h
  rw [h0] at this
  omega

theorem shifted_ok (l : List Nat) (s : Nat) (hd : Dg l) (hl : l.length < 2 ^ 28) (hs : s ≤ 31) : PCall Try.prog 53 [dg l, .i .u64 s] (.own 0 0 (l.length + 1) 1) [⟨50, (pad (l.length + 1) (val l * 2 ^ s)).map u⟩] := by
  refine PCall.of_ax Try.call53 Try.func53 rfl (by simp [Try.ntmps53]) fun O w => ?_
  simp only [Try.ntmps53, Try.results53, argFr]
  have hp1 : 2 ^ s ≤ 2 ^ 31 := Nat.pow_le_pow_right (by omega) hs
  have hp0 : 0 < 2 ^ s := Nat.pow_pos (by omega)
  have m1 : min s 32 = s := Nat.min_eq_left (by omega)
  have m2 : min s 64 = s := Nat.min_eq_left (by omega)
  apply AX.sreg [0, 1] (by simp only [pq]; rfl)
  · repeat (first
   | (apply RunO.op rfl; · rfl
      · rfl
      iterate 2 (· (simp (disch := omega) only [go_sem, i64_of, u32_of, u64_of, Nat.reduceLT, Nat.reduceLeDiff, Nat.reduceEqDiff, Nat.reduceAdd, Nat.reduceSub, Nat.reduceMul, Nat.reducePow, Nat.reduceBEq, Int.reduceLE, Int.reduceLT, Int.reduceToNat, Int.reduceEq, Int.reduceNeg, reduceIte, reduceCtorEq]; rfl))
      · (simp only [pb, Nat.reduceLT, Nat.reduceAdd, reduceIte]; rfl))
   | (apply RunO.skip; · rfl
      · (simp only [pb, Nat.reduceLT, Nat.reduceAdd, reduceIte]; rfl)))
    exact RunO.nil
  · repeat (first | exact Keep.nil | (apply Keep.take; · rfl) | (apply Keep.drop; · rfl))
  apply AX.sreg [0, 1, 5] (by simp only [pq]; rfl)
  · repeat (first
   | (apply RunO.op rfl; · rfl
      · rfl
      iterate 2 (· (simp (disch := omega) only [go_sem, i64_of, u32_of, u64_of, Nat.reduceLT, Nat.reduceLeDiff, Nat.reduceEqDiff, Nat.reduceAdd, Nat.reduceSub, Nat.reduceMul, Nat.reducePow, Nat.reduceBEq, Int.reduceLE, Int.reduceLT, Int.reduceToNat, Int.reduceEq, Int.reduceNeg, reduceIte, reduceCtorEq, lit_add]; rfl))
      · (simp only [pb, Nat.reduceLT, Nat.reduceAdd, reduceIte]; rfl))
   | (apply RunO.skip; · rfl
      · (simp only [pb, Nat.reduceLT, Nat.reduceAdd, reduceIte]; rfl)))
    exact RunO.nil
  · repeat (first | exact Keep.nil | (apply Keep.take; · rfl) | (apply Keep.drop; · rfl))
  refine AX.seq ?_
  apply AX.sreg [0, 1, 5, 12, 13, 14] (by simp only [pq]; rfl)
  · repeat (first
   | (apply RunO.op rfl; · rfl
      · rfl
      iterate 2 (· (simp (disch := omega) only [go_sem, i64_of, u32_of, u64_of, Nat.reduceLT, Nat.reduceLeDiff, Nat.reduceEqDiff, Nat.reduceAdd, Nat.reduceSub, Nat.reduceMul, Nat.reducePow, Nat.reduceBEq, Int.reduceLE, Int.reduceLT, Int.reduceToNat, Int.reduceEq, Int.reduceNeg, reduceIte, reduceCtorEq]; rfl))
      · (simp only [pb, Nat.reduceLT, Nat.reduceAdd, reduceIte]; rfl))
   | (apply RunO.skip; · rfl
      · (simp only [pb, Nat.reduceLT, Nat.reduceAdd, reduceIte]; rfl)))
    exact RunO.nil
  · repeat (first | exact Keep.nil | (apply Keep.take; · rfl) | (apply Keep.drop; · rfl))
  refine AX.block ?_
  refine AX.loop (fun N st => ∃ (i : Nat) (r : List Nat), N = l.length - i ∧ i ≤ l.length ∧ r.length = l.length + 1 ∧ Dg r ∧ r.getD i 0 < 2 ^ s ∧ (∀ j, i < j → r.getD j 0 = 0) ∧ val r = val (l.take i) * 2 ^ s ∧
    st = ⟨[(14, .i .i64 i), (13, .i .i64 l.length), (12, dg l), (5, .own 0 0 (l.length + 1) 1), (0, dg l), (1, .i .u64 s)], [(0, ⟨50, r.map u⟩)], 1⟩) l.length ⟨0, List.replicate (l.length + 1) 0, rfl, Nat.zero_le _, by simp, Dg_replicate _, by simpa using hp0, fun j _ => by simp [List.getD_eq_getElem?_getD, List.getElem?_replicate]; split <;> rfl, by simp [val, val_replicate], rfl⟩ ?_
  rintro N st ⟨i, r, rfl, hi, hr, hdr, hri, hz, hval, rfl⟩
  by_cases h : i < l.length
  · apply AX.sreg [0, 1, 5, 12, 13, 14, 15] (by simp only [pq]; rfl)
    · repeat (first
     | (apply RunO.op rfl; · rfl
        · rfl
        iterate 2 (· (simp (disch := omega) only [go_sem, i64_of, u32_of, u64_of, Nat.reduceLT, Nat.reduceLeDiff, Nat.reduceEqDiff, Nat.reduceAdd, Nat.reduceSub, Nat.reduceMul, Nat.reducePow, Nat.reduceBEq, Int.reduceLE, Int.reduceLT, Int.reduceToNat, Int.reduceEq, Int.reduceNeg, reduceIte, reduceCtorEq]; rfl))
        · (simp only [pb, Nat.reduceLT, Nat.reduceAdd, reduceIte]; rfl))
     | (apply RunO.skip; · rfl
        · (simp only [pb, Nat.reduceLT, Nat.reduceAdd, reduceIte]; rfl)))
      exact RunO.nil
    · repeat (first | exact Keep.nil | (apply Keep.take; · rfl) | (apply Keep.drop; · rfl))
    refine AX.seq ?_
    refine AX.cond_true (by simp only [valOf, lkp, if_true, if_false, Nat.reduceEqDiff, reduceIte]) ?_
    apply AX.keep (l := [0, 1, 5, 12, 13, 14])
    · repeat (first | exact Keep.nil | (apply Keep.take; · rfl) | (apply Keep.drop; · rfl))
    refine AX.skip ?_
    try simp only [thenS_normal, thenS_ret, thenS_exit, blockS_normal, blockS_ret, blockS_exit, backS_ret, backS_exit, if_true]
    refine AX.seq ?_
    refine AX.block ?_
    have hx := Dg_getD hd i
    have htk := val_take_step l i
    generalize hxx : l.getD i 0 = x at *
    generalize hrr : r.getD i 0 = ri at *
    have e1 := shl_mod (x := x) hs
    have hb2 : x % 2 ^ (32 - s) < 2 ^ (32 - s) := Nat.mod_lt _ (Nat.pow_pos (by omega))
    have hb3 : (x % 2 ^ (32 - s) + 1) * 2 ^ s ≤ 2 ^ (32 - s) * 2 ^ s := Nat.mul_le_mul_right _ hb2
    rw [← Nat.pow_add, show 32 - s + s = 32 by omega, Nat.add_mul, Nat.one_mul] at hb3
    have hor := or32 (a := ri) (b := x % 2 ^ (32 - s)) hri hs (by omega)
    have hhi := shl_high hs hx
    have hx64 : x * 2 ^ s ≤ 4294967295 * 2 ^ 31 := Nat.mul_le_mul (by omega) hp1
    have hvs := val_set r i (ri + x % 2 ^ (32 - s) * 2 ^ s) (by omega)
    have hz1 : (r.set i (ri + x % 2 ^ (32 - s) * 2 ^ s)).getD (i + 1) 0 = 0 := by
      rw [List.getD_eq_getElem?_getD, List.getElem?_set_ne (by omega), ← List.getD_eq_getElem?_getD]
      exact hz _ (by omega)
    have hv2 := set_zero_val (r := r.set i (ri + x % 2 ^ (32 - s) * 2 ^ s)) (j := i + 1) (v := x * 2 ^ s / 4294967296) (by simp; omega) hz1
    rw [hrr] at hvs
    apply AX.sreg [0, 1, 5, 6, 7, 12, 13, 14] (by simp only [pq]; rfl)
    · repeat (first
     | (apply RunO.op rfl; · rfl
        · rfl
        iterate 2 (· (simp (disch := omega) only [go_sem, i64_of, u32_of, u64_of, Nat.reduceLT, Nat.reduceLeDiff, Nat.reduceEqDiff, Nat.reduceAdd, Nat.reduceSub, Nat.reduceMul, Nat.reducePow, Nat.reduceBEq, Int.reduceLE, Int.reduceLT, Int.reduceToNat, Int.reduceEq, Int.reduceNeg, reduceIte, reduceCtorEq, hxx]; rfl))
        · (simp only [pb, Nat.reduceLT, Nat.reduceAdd, reduceIte]; rfl))
     | (apply RunO.skip; · rfl
        · (simp only [pb, Nat.reduceLT, Nat.reduceAdd, reduceIte]; rfl)))
      exact RunO.nil
    · repeat (first | exact Keep.nil | (apply Keep.take; · rfl) | (apply Keep.drop; · rfl))
    apply AX.sreg [0, 1, 5, 6, 7, 12, 13, 14] (by simp only [pq]; rfl)
    · repeat (first
     | (apply RunO.op rfl; · rfl
        · rfl
        iterate 2 (· (simp (disch := omega) only [go_sem, i64_of, u32_of, u64_of, Nat.reduceLT, Nat.reduceLeDiff, Nat.reduceEqDiff, Nat.reduceAdd, Nat.reduceSub, Nat.reduceMul, Nat.reducePow, Nat.reduceBEq, Int.reduceLE, Int.reduceLT, Int.reduceToNat, Int.reduceEq, Int.reduceNeg, reduceIte, reduceCtorEq, m1, shl_nat, u32n, e1, hxx, hrr, hor]; rfl))
        · (simp only [pb, Nat.reduceLT, Nat.reduceAdd, reduceIte]; rfl))
     | (apply RunO.skip; · rfl
        · (simp only [pb, Nat.reduceLT, Nat.reduceAdd, reduceIte]; rfl)))
      exact RunO.nil
    · repeat (first | exact Keep.nil | (apply Keep.take; · rfl) | (apply Keep.drop; · rfl))
    have hhm : x * 2 ^ s / 4294967296 % 4294967296 = x * 2 ^ s / 4294967296 := Nat.mod_eq_of_lt (by omega)
    have hdm := Nat.div_add_mod (x * 2 ^ s) 4294967296
    generalize hbb : x % 2 ^ (32 - s) * 2 ^ s = b at *
    generalize htt : x * 2 ^ s = t at *
    apply AX.reg [0, 1, 5, 12, 13, 14] (by simp only [pq]; rfl)
    · repeat (first
     | (apply RunO.op rfl; · rfl
        · rfl
        iterate 2 (· (simp (disch := omega) only [go_sem, i64_of, u32_of, u64_of, Nat.reduceLT, Nat.reduceLeDiff, Nat.reduceEqDiff, Nat.reduceAdd, Nat.reduceSub, Nat.reduceMul, Nat.reducePow, Nat.reduceBEq, Int.reduceLE, Int.reduceLT, Int.reduceToNat, Int.reduceEq, Int.reduceNeg, reduceIte, reduceCtorEq, m2, shl_nat, htt, shr32, u32n, hhm, lit_add]; rfl))
        · (simp only [pb, Nat.reduceLT, Nat.reduceAdd, reduceIte]; rfl))
     | (apply RunO.skip; · rfl
        · (simp only [pb, Nat.reduceLT, Nat.reduceAdd, reduceIte]; rfl)))
      exact RunO.nil
    · repeat (first | exact Keep.nil | (apply Keep.take; · rfl) | (apply Keep.drop; · rfl))
    try simp only [thenS_normal, thenS_ret, thenS_exit, blockS_normal, blockS_ret, blockS_exit, backS_ret, backS_exit, if_true]
    apply AX.reg [0, 1, 5, 12, 13, 14] (by simp only [pq]; rfl)
    · repeat (first
     | (apply RunO.op rfl; · rfl
        · rfl
        iterate 2 (· (simp (disch := omega) only [go_sem, i64_of, u32_of, u64_of, Nat.reduceLT, Nat.reduceLeDiff, Nat.reduceEqDiff, Nat.reduceAdd, Nat.reduceSub, Nat.reduceMul, Nat.reducePow, Nat.reduceBEq, Int.reduceLE, Int.reduceLT, Int.reduceToNat, Int.reduceEq, Int.reduceNeg, reduceIte, reduceCtorEq, lit_add]; rfl))
        · (simp only [pb, Nat.reduceLT, Nat.reduceAdd, reduceIte]; rfl))
     | (apply RunO.skip; · rfl
        · (simp only [pb, Nat.reduceLT, Nat.reduceAdd, reduceIte]; rfl)))
      exact RunO.nil
    · repeat (first | exact Keep.nil | (apply Keep.take; · rfl) | (apply Keep.drop; · rfl))
    try simp only [thenS_normal, thenS_ret, thenS_exit, blockS_normal, blockS_ret, blockS_exit, backS_ret, backS_exit, if_true]
    refine ⟨l.length - (i + 1), _, id, by omega,
      ⟨by simp only [LeFr, LeHp, lkp, V.ren, V.renL, Row.ren, V.lt, V.ltL, renL_u, ltL_u, List.length_append, List.length_cons, List.length_nil, List.length_set, id_eq, Option.some.injEq, V.i.injEq, V.b.injEq, V.own.injEq, Row.mk.injEq, decide_true, decide_eq_true_eq, true_and, and_true, Bool.and_true, Bool.true_and, if_true, if_false, and_self, Nat.reduceLT, Nat.reduceLeDiff, Nat.reduceEqDiff, Nat.reduceAdd, Nat.reduceSub, Nat.reduceMul, Nat.reducePow, Nat.reduceBEq, Int.reduceLE, Int.reduceLT, Int.reduceToNat, Int.reduceEq, Int.reduceNeg, reduceIte, reduceCtorEq] <;> (first | done | trivial | (and_intros <;> first | trivial | omega | assumption)), by simp only [LeFr, LeHp, lkp, V.ren, V.renL, Row.ren, V.lt, V.ltL, renL_u, ltL_u, List.length_append, List.length_cons, List.length_nil, List.length_set, id_eq, Option.some.injEq, V.i.injEq, V.b.injEq, V.own.injEq, Row.mk.injEq, decide_true, decide_eq_true_eq, true_and, and_true, Bool.and_true, Bool.true_and, if_true, if_false, and_self, Nat.reduceLT, Nat.reduceLeDiff, Nat.reduceEqDiff, Nat.reduceAdd, Nat.reduceSub, Nat.reduceMul, Nat.reducePow, Nat.reduceBEq, Int.reduceLE, Int.reduceLT, Int.reduceToNat, Int.reduceEq, Int.reduceNeg, reduceIte, reduceCtorEq] <;> (first | done | trivial | (and_intros <;> first | trivial | omega | assumption)), by simp [Apart], by first | exact Nat.zero_le _ | simp, by intro n hn; first | rfl | exact absurd hn (Nat.not_lt_zero _)⟩
      , ⟨i + 1, (r.set i (ri + b)).set (i + 1) (t / 4294967296), rfl, by omega, by simp [hr], Dg_set (Dg_set hdr (by omega)) (by omega), ?_, ?_, ?_, rfl⟩⟩
    · rw [List.getD_eq_getElem?_getD, List.getElem?_set_self (by simp; omega)]
      exact hhi
    · intro j hj
      rw [List.getD_eq_getElem?_getD, List.getElem?_set_ne (by omega), List.getElem?_set_ne (by omega), ← List.getD_eq_getElem?_getD]
      exact hz _ (by omega)
    · rw [hv2, htk, Nat.add_mul, ← hval, Nat.mul_assoc, htt, Nat.pow_succ]
      have h6 : 4294967296 ^ i * t = 4294967296 ^ i * 4294967296 * (t / 4294967296) + 4294967296 ^ i * b := by
        rw [Nat.mul_assoc, ← Nat.mul_add]
        congr 1
        omega
      rw [Nat.mul_add] at hvs
      omega
  · apply AX.sreg [0, 1, 5, 12, 13, 14, 15] (by simp only [pq]; rfl)
    · repeat (first
     | (apply RunO.op rfl; · rfl
        · rfl
        iterate 2 (· (simp (disch := omega) only [go_sem, i64_of, u32_of, u64_of, Nat.reduceLT, Nat.reduceLeDiff, Nat.reduceEqDiff, Nat.reduceAdd, Nat.reduceSub, Nat.reduceMul, Nat.reducePow, Nat.reduceBEq, Int.reduceLE, Int.reduceLT, Int.reduceToNat, Int.reduceEq, Int.reduceNeg, reduceIte, reduceCtorEq]; rfl))
        · (simp only [pb, Nat.reduceLT, Nat.reduceAdd, reduceIte]; rfl))
     | (apply RunO.skip; · rfl
        · (simp only [pb, Nat.reduceLT, Nat.reduceAdd, reduceIte]; rfl)))
      exact RunO.nil
    · repeat (first | exact Keep.nil | (apply Keep.take; · rfl) | (apply Keep.drop; · rfl))
    refine AX.seq ?_
    refine AX.cond_false (by simp only [valOf, lkp, if_true, if_false, Nat.reduceEqDiff, reduceIte]) ?_
    refine AX.exit ?_
    try simp only [thenS_normal, thenS_ret, thenS_exit, blockS_normal, blockS_ret, blockS_exit, backS_ret, backS_exit, if_true]
    have hi' : i = l.length := by omega
    rw [hi', List.take_length] at hval
    apply AX.sreg [4] (by simp only [pq]; rfl)
    · repeat (first
     | (apply RunO.op rfl; · rfl
        · rfl
        iterate 2 (· (simp (disch := omega) only [go_sem, i64_of, u32_of, u64_of, Nat.reduceLT, Nat.reduceLeDiff, Nat.reduceEqDiff, Nat.reduceAdd, Nat.reduceSub, Nat.reduceMul, Nat.reducePow, Nat.reduceBEq, Int.reduceLE, Int.reduceLT, Int.reduceToNat, Int.reduceEq, Int.reduceNeg, reduceIte, reduceCtorEq]; rfl))
        · (simp only [pb, Nat.reduceLT, Nat.reduceAdd, reduceIte]; rfl))
     | (apply RunO.skip; · rfl
        · (simp only [pb, Nat.reduceLT, Nat.reduceAdd, reduceIte]; rfl)))
      exact RunO.nil
    · repeat (first | exact Keep.nil | (apply Keep.take; · rfl) | (apply Keep.drop; · rfl))
    refine AX.ret (And.intro (Or.inl rfl) ?_)
    rw [← hval, ← hr, ← pad_eq hdr, hr]
    exact Done.ownRow rfl rfl

end Go.Proofs.Ytlhobedecoeohaa
