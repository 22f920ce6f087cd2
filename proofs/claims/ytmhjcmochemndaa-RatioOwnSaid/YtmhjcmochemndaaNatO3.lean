/- Clone, Of, short, Div, Gcd, whose results are the caller's own (printed by mkown.py). -/
import Derived.Test.YtmhjcmochemndaaNatO2
set_option linter.unusedVariables false
set_option linter.unusedSimpArgs false
namespace Go.Proofs.Ytmhjcmochemndaa
open Go Go.Proofs.Ytmhjcmochemndaa.Lift
attribute [local irreducible] Lift.PCall Lift.HCall
theorem Lift.Done.ownRowK {P : Program} {st : St} {t t' : Tmp} {h len : Nat} {l : List Nat} {T : TypeId} {k : IntKind} {e : Int} (h1 : lkp st.fr t = some (.own h 0 len 1)) (h3 : lkp st.fr t' = some (.i k e)) (h2 : lkp st.hp h = some ⟨T, l.map u⟩) : Done P #[.tmp t, .tmp t'] (.tup [.own 0 0 len 1, .i k e]) [⟨T, l.map u⟩] st := by
 refine ⟨[.own h 0 len 1, .i k e], by simp [resVs, resV, h1, h3], [h], fun _ => h, .tup [.own h 0 len 1, .i k e], st.hp, ?_, rfl, rfl, ?_, ?_⟩
 ·simp [packV, frz, frzL]
 ·intro k q hq
  cases k with
  | zero =>
   simp at hq
   subst hq
   refine ⟨?_, ltL_u _ _⟩
   rw [h2]
   simp only [Row.ren, renL_u]
  | succ k => simp at hq
 ·intro k k' hk hk' _
  simp at hk hk'
  omega
theorem Lift.Done.own2 {P : Program} {st : St} {t t' t'' : Tmp} {h h' n n' : Nat} {l l' : List Nat} {T T' : TypeId} {e : Int} (h1 : lkp st.fr t = some (.own h 0 n 1)) (h2 : lkp st.fr t' = some (.own h' 0 n' 1)) (h3 : lkp st.fr t'' = some (.i .i64 e)) (g1 : lkp st.hp h = some ⟨T, l.map u⟩) (g2 : lkp st.hp h' = some ⟨T', l'.map u⟩) (hne : h ≠ h') :
  Done P #[.tmp t, .tmp t', .tmp t''] (.tup [.own 0 0 n 1, .own 1 0 n' 1, .i .i64 e]) [⟨T, l.map u⟩, ⟨T', l'.map u⟩] st := by
 refine ⟨[.own h 0 n 1, .own h' 0 n' 1, .i .i64 e], by simp [resVs, resV, h1, h2, h3], [h, h'], fun k => if k = 0 then h else h', .tup [.own h 0 n 1, .own h' 0 n' 1, .i .i64 e], st.hp, ?_, rfl, rfl, ?_, ?_⟩
 ·simp [packV, frz, frzL]
 ·intro k q hq
  match k, hq with
  | 0, hq =>
   simp at hq
   subst hq
   refine ⟨?_, ltL_u _ _⟩
   show lkp st.hp h = _
   rw [g1]
   simp only [Row.ren, renL_u]
  | 1, hq =>
   simp at hq
   subst hq
   refine ⟨?_, ltL_u _ _⟩
   show lkp st.hp h' = _
   rw [g2]
   simp only [Row.ren, renL_u]
  | k + 2, hq => simp at hq
 ·intro k k' hk hk' e
  simp at hk hk'
  match k, k', hk, hk', e with
  | 0, 0, _, _, _ => rfl
  | 1, 1, _, _, _ => rfl
  | 0, 1, _, _, e => exact absurd e hne
  | 1, 0, _, _, e => exact absurd e.symm hne
theorem padD_n (n : Nat) : padD (digits n).length n = digits n := by
 have := padD_of (Dg_digits n)
 rw [val_digits] at this
 exact this.symm
def kqN (m n : Nat) : Nat := if n = 0 ∨ m < n then 0 else (digits m).length + 1 - (digits n).length
def krN (m n : Nat) : Nat := if n = 0 then 0 else if m < n then (digits m).length else if (digits n).length = 1 then (digits (m % n)).length else (digits n).length
theorem clone_o (l : List Nat) (hl : l.length < 2 ^ 40) : PCall Try.prog 81 [dg l] (.own 0 0 l.length 1) [⟨49, l.map u⟩] := by
 refine PCall.of_ax Try.call81 Try.func81 rfl (by simp [Try.ntmps81]) fun O w => ?_
 simp only [Try.ntmps81, Try.results81, argFr]
 refine AX.sR (rgAV [0, 2]) ?_
 refine AX.seq ?_
 cases l with
 | nil =>
  refine AX.seq (AX.isnil (t0 := 0) (t3 := 3) (t4 := 4) rfl rfl rfl rfl rfl rfl (fun _ => rfl) Try.underlying23 rfl ⟨(by decide : 3 < 8), (by decide : 4 < 8)⟩ fun b => ?_)
  refine nmZ ?_
  cases b with
  | true =>
   refine AX.condT ?_
   refine AX.sR (rgAV [2]) ?_
   refine AX.own0 2 49 1 rfl ?_
   refine AX.ret ⟨.inl rfl, ?_⟩
   exact Done.ownRow (l := []) rfl rfl
  | false =>
   refine AX.condF ?_
   refine AX.skip ?_
   refine nmZ ?_
   refine AX.sR (rgAV [2]) ?_
   refine AX.ret ⟨.inl rfl, ?_⟩
   exact Done.ownRow (l := []) rfl rfl
 | cons x l =>
  refine AX.sR (rgAV [0, 4]) ?_
  refine AX.condF ?_
  refine AX.skip ?_
  refine nmZ ?_
  generalize x :: l = L at *
  refine AX.sR (rgAV [2]) ?_
  refine AX.ret ⟨.inl rfl, ?_⟩
  exact Done.ownRow (l := L) rfl rfl
theorem of_o (n : Nat) (hn : n < 18446744073709551616) : PCall Try.prog 65 [.i .u64 n] (.own 0 0 (digits n).length 1) [⟨49, (digits n).map u⟩] := by
 have hv : val [n % 4294967296, n / 4294967296] = n := by simp only [val]; omega
 have hd : Dg [n % 4294967296, n / 4294967296] := by
  intro x hx
  simp at hx
  omega
 refine PCall.of_ax Try.call65 Try.func65 rfl (by simp [Try.ntmps65]) fun O w => ?_
 simp only [Try.ntmps65, Try.results65, argFr]
 have h1 := ntrim_ok _ hd (by simp)
 rw [hv] at h1
 have h2 := clone_o (digits n) (by have := digits_length_le (n := n) (k := 2) (by omega); omega)
 refine AX.sR (rgAV [0]) ?_
 have hm : n / 4294967296 % 4294967296 = n / 4294967296 := Nat.mod_eq_of_lt (by omega)
 refine AX.sR (rgWV [2] (aI @shr32 (aI @u32n (aI @hm oT))) (aI h1 (aI h2 oT))) ?_
 refine AX.ret ⟨.inl rfl, ?_⟩
 exact Done.ownRow rfl rfl
theorem short_o (l : List Nat) (d : Nat) (hd : Dg l) (hl : l.length < 2 ^ 40) (h0 : 0 < d) (hdB : d < 4294967296) : PCall Try.prog 82 [dg l, .i .u32 d] (.tup [.own 0 0 (digits (val l / d)).length 1, .i .u32 (val l % d : Nat)]) [⟨49, (padD l.length (val l / d)).map u⟩] := by
 refine PCall.of_ax Try.call82 Try.func82 rfl (by simp [Try.ntmps82]) fun O w => ?_
 simp only [Try.ntmps82, Try.results82, argFr]
 refine AX.sR (rgAV [0, 1]) ?_
 refine AX.sR (rgAV [0, 1, 6]) ?_
 refine AX.sR (rgAV [0, 1, 6, 7]) ?_
 refine AX.seq ?_
 refine AX.sR (rgAV [0, 1, 6, 7, 8]) ?_
 refine AX.block ?_
 refine AX.loop (fun N st => ∃ (k R : Nat) (r : List Nat), N = k ∧ k ≤ l.length ∧ r.length = l.length ∧ Dg r ∧ R < d ∧ val (l.drop k) = d * val (r.drop k) + R ∧
  st = ⟨[(8, .i .i64 ((k : Int) - 1)), (7, .i .u64 R), (6, .own 0 0 l.length 1), (0, dg l), (1, .i .u32 d)], [(0, ⟨49, r.map u⟩)], 1⟩) l.length ⟨l.length, 0, List.replicate l.length 0, rfl, Nat.le_refl _, by simp, Dg_replicate _, h0, by simp [val], rfl⟩ ?_
 rintro N st ⟨k, R, r, rfl, hk, hr, hdr, hR, hval, rfl⟩
 refine AX.seq ?_
 cases N with
 | zero =>
  refine AX.sR (rgAV [0, 1, 6, 7, 16]) ?_
  refine AX.condF ?_
  refine AX.exit ?_
  refine nmZ ?_
  rw [List.drop_zero, List.drop_zero] at hval
  obtain ⟨e1, e2⟩ := divmod_unique hval hR
  have ep := padD_of hdr
  have c3 := trim_g r (by omega)
  rw [trim_eq hdr, e1, hr] at c3
  rw [e1, hr] at ep
  apply AX.sreg [4, 5] (by simp only [pq]; rfl)
  ·repeat (first
  |(apply RunO.op rfl; · rfl
    ·(simp only [opsOf, valsOf, valOf, lkp, ofConst, ofCell, Array.toList, Option.toList, List.map_cons, List.map_nil, List.cons_append, List.nil_append, List.append_nil, Nat.reduceEqDiff, Nat.reducePow, Nat.reduceLT, Nat.reduceLeDiff, reduceIte, if_true, if_false, IntKind.min, IntKind.max, IntKind.bits, IntKind.signed, Int.reduceLE, Int.reduceNeg, Int.reducePow, Int.reduceSub, and_self, Bool.false_eq_true, Nat.reduceSub]; rfl)
    iterate 2 (· (simp (disch := omega) only [go_sem, i64_of, u32_of, u64_of, Nat.reduceLT, Nat.reduceLeDiff, Nat.reduceEqDiff, Nat.reduceAdd, Nat.reduceSub, Nat.reduceMul, Nat.reducePow, Nat.reduceBEq, Int.reduceLE, Int.reduceLT, Int.reduceToNat, Int.reduceEq, Int.reduceNeg, ↓reduceIte, reduceCtorEq]; rfl))
    ·(simp only [pb, Nat.reduceLT, Nat.reduceAdd, reduceIte]; rfl))
  |(apply RunO.gcall [0] rfl; · rfl
    ·(simp only [opsOf, valsOf, valOf, lkp, ofConst, ofCell, Array.toList, Option.toList, List.map_cons, List.map_nil, List.cons_append, List.nil_append, List.append_nil, Nat.reduceEqDiff, Nat.reducePow, Nat.reduceLT, Nat.reduceLeDiff, reduceIte, if_true, if_false, IntKind.min, IntKind.max, IntKind.bits, IntKind.signed, Int.reduceLE, Int.reduceNeg, Int.reducePow, Int.reduceSub, and_self, Bool.false_eq_true, Nat.reduceSub]; rfl)
    ·exact c3
    ·first | rfl | (simp only [Row.ren, V.ren, V.renL, renS, renL_u]; rfl)
    ·first | rfl | (simp only [V.lt, V.ltL, ltS, ltL_u]; rfl)
    ·decide
    ·repeat' (first | exact trivial | rfl | (simp only [Row.ren, V.ren, V.renL, renS, renL_u]; done) | (simp only [Row.ren, V.ren, V.renL, renS, renL_u]; rfl) | (simp only [V.lt, V.ltL, ltS, ltL_u]; done) | apply And.intro)
    ·first | rfl | (simp only [Row.ren, V.ren, V.renL, renS, renL_u]; rfl)
    ·(simp only [setRows, setL, Row.ren, V.ren, V.renL, renS, renL_u, pb, Nat.reduceLT, Nat.reduceAdd, Nat.reduceEqDiff, reduceIte]; rfl))
  |(apply RunO.skip; · rfl
    ·(simp only [pb, Nat.reduceLT, Nat.reduceAdd, reduceIte]; rfl)))
   exact RunO.nil
  ·repeat (first | exact Keep.nil | (apply Keep.take; · rfl) | (apply Keep.drop; · rfl))
  refine AX.ret ⟨.inl rfl, ?_⟩
  rw [← e2, ← ep]
  exact Done.ownRowK rfl rfl rfl
 | succ k =>
  have e1 : ((k + 1 : Nat) : Int) - 1 = (k : Int) := by omega
  rw [e1]
  refine AX.sR (rgAV [0, 1, 6, 7, 8, 16]) ?_
  refine AX.condT ?_
  refine AX.skip ?_
  refine nmZ ?_
  refine AX.seq ?_
  refine AX.block ?_
  have hx := Dg_getD hd k
  have hst := val_drop_step l k (by omega)
  generalize hxx : l.getD k 0 = x at *
  apply AX.sreg [0, 1, 6, 7, 8] (by simp only [pq]; rfl)
  ·repeat (first
  |(apply RunO.op rfl; · rfl
    ·(simp only [opsOf, valsOf, valOf, lkp, ofConst, ofCell, Array.toList, Option.toList, List.map_cons, List.map_nil, List.cons_append, List.nil_append, List.append_nil, Nat.reduceEqDiff, Nat.reducePow, Nat.reduceLT, Nat.reduceLeDiff, reduceIte, if_true, if_false, IntKind.min, IntKind.max, IntKind.bits, IntKind.signed, Int.reduceLE, Int.reduceNeg, Int.reducePow, Int.reduceSub, and_self, Bool.false_eq_true, Nat.reduceSub]; rfl)
    iterate 2 (· (simp (disch := omega) only [go_sem, i64_of, u32_of, u64_of, Nat.reduceLT, Nat.reduceLeDiff, Nat.reduceEqDiff, Nat.reduceAdd, Nat.reduceSub, Nat.reduceMul, Nat.reducePow, Nat.reduceBEq, Int.reduceLE, Int.reduceLT, Int.reduceToNat, Int.reduceEq, Int.reduceNeg, ↓reduceIte, reduceCtorEq, shl32, ori' hx (show R < 4294967296 by omega), hxx]; rfl))
    ·(simp only [pb, Nat.reduceLT, Nat.reduceAdd, reduceIte]; rfl))
  |(apply RunO.skip; · rfl
    ·(simp only [pb, Nat.reduceLT, Nat.reduceAdd, reduceIte]; rfl)))
   exact RunO.nil
  ·repeat (first | exact Keep.nil | (apply Keep.take; · rfl) | (apply Keep.drop; · rfl))
  have hq := short_lt hR hx
  generalize hs : R * 4294967296 + x = s at *
  have hm := Nat.mod_lt s h0
  have e2 : Int.tdiv (s : Int) (d : Int) = ((s / d : Nat) : Int) := rfl
  have e3 : Int.tmod (s : Int) (d : Int) = ((s % d : Nat) : Int) := rfl
  generalize hqq : s / d = q at *
  generalize hmm : s % d = R' at *
  refine AX.sR (rgWV [0, 1, 6, 7, 8] (aI @e2 oT) oT) ?_
  refine AX.rR (rgWV [0, 1, 6, 7, 8] (aI @e3 oT) oT) ?_
  refine nmZ ?_
  refine AX.rR (rgAV [0, 1, 6, 7, 8]) ?_
  refine nmZ ?_
  refine ⟨k, _, id, by omega,
   leQ0
   , ⟨k, R', r.set k q, rfl, by omega, by simp [hr], Dg_set hdr hq, hm, ?_, rfl⟩⟩
  rw [hst, drop_set_self r k _ (by omega), val]
  exact short_step hval hs hqq.symm hmm.symm
set_option maxHeartbeats 4000000 in
theorem div_o (a b : List Nat) (ha : Dg a) (hb : Dg b) (hla : a.length < 2 ^ 36) (hlb : b.length < 2 ^ 36) : PCall Try.prog 53 [dg a, dg b] (.tup [.own 0 0 (digits (val a / val b)).length 1, .own 1 0 (digits (remN (val a) (val b))).length 1, .i .i64 (divE (val b))]) [⟨49, (padD (kqN (val a) (val b)) (val a / val b)).map u⟩, ⟨49, (padD (krN (val a) (val b)) (remN (val a) (val b))).map u⟩] := by
 refine PCall.of_ax Try.call53 Try.func53 rfl (by simp [Try.ntmps53]) fun O w => ?_
 simp only [Try.ntmps53, Try.results53, argFr]
 have c1 := ntrim_ok a ha (by omega)
 have c2 := ntrim_ok b hb (by omega)
 have hma := digits_length_val ha
 have hmb := digits_length_val hb
 generalize val a = m at *
 generalize val b = n at *
 refine AX.sR (rgAV [0, 1]) ?_
 refine AX.sR (rgCV [0, 1] (aI c1 (aI c2 oT))) ?_
 refine AX.seq ?_
 refine AX.block ?_
 by_cases h0 : (digits n).length = 0
 ·refine AX.sR (rgAV [0, 1, 31]) ?_
  refine AX.condT ?_
  refine AX.sR (rgAV [4, 5, 6]) ?_
  refine AX.own0 4 49 1 rfl ?_
  refine AX.own0 5 49 1 rfl ?_
  refine AX.ret ⟨.inl rfl, ?_⟩
  have hn0 := digits_len_zero.1 h0
  subst hn0
  rw [Nat.div_zero, show remN m 0 = 0 from rfl, show divE 0 = 31 from rfl, digits_zero, show kqN m 0 = 0 from rfl, show krN m 0 = 0 from rfl]
  exact Done.own2 (l := []) (l' := []) rfl rfl rfl rfl rfl (by decide)
 have hn0 : 0 < n := Nat.pos_of_ne_zero fun e => h0 (digits_len_zero.2 e)
 have hr0 : remN m n = m % n := if_neg (by omega)
 have he0 : divE n = 0 := if_neg (by omega)
 rw [hr0, he0]
 clear hr0 he0
 refine AX.sR (rgAV [0, 1, 31]) ?_
 refine AX.condF ?_
 have kc := cmp_n m n (by omega) (by omega)
 by_cases h2 : m < n
 ·rw [cmp_lt h2] at kc
  have kl := clone_o (digits m) (by omega)
  have hkq : kqN m n = 0 := if_pos (.inr h2)
  have hkr : krN m n = (digits m).length := by unfold krN; rw [if_neg (by omega), if_pos h2]
  refine AX.sR (rgCV [0, 1, 35] (aI kc oT)) ?_
  refine AX.condT ?_
  refine AX.sR (rgCV [4, 5, 6] (aI kl oT)) ?_
  refine AX.own0 4 49 1 rfl ?_
  refine AX.ret ⟨.inl rfl, ?_⟩
  rw [Nat.div_eq_of_lt h2, Nat.mod_eq_of_lt h2, hkq, hkr, padD_n, digits_zero]
  exact Done.own2 (l := []) rfl rfl rfl rfl rfl Nat.one_ne_zero
 have hkq : kqN m n = (digits m).length + 1 - (digits n).length := if_neg (by omega)
 have hc : ¬ cmp m n < 0 := by
  unfold cmp
  rw [if_neg h2]
  split <;> omega
 generalize cmp m n = z at *
 refine AX.sR (rgCV [0, 1, 35] (aI kc oT)) ?_
 refine AX.condF ?_
 by_cases h1 : (digits n).length = 1
 ·have e1 := digits_val1 n h1
  have hd := Dg_getD (Dg_digits n) 0
  have k1 := short_o (digits m) n (Dg_digits _) (by omega) hn0 (by omega)
  rw [val_digits] at k1
  have hkr : krN m n = (digits (m % n)).length := by unfold krN; rw [if_neg (by omega), if_neg h2, if_pos h1]
  rw [h1, Nat.add_sub_cancel] at hkq
  rw [hkq, hkr, padD_n]
  clear hkq hkr
  have hml := Nat.mod_lt m hn0
  have k2 := of_o (m % n) (by omega)
  generalize hmm : m % n = mr at *
  refine AX.sR (rgAV [0, 1, 42]) ?_
  refine AX.condT ?_
  refine AX.sR (rgWV [7, 8] (aI e1.symm oT) (aI k1 oT)) ?_
  refine AX.sR (rgCV [4, 5, 6] (aI k2 oT)) ?_
  refine AX.ret ⟨.inl rfl, ?_⟩
  exact Done.own2 rfl rfl rfl rfl rfl (by decide)
 have hkr : krN m n = (digits n).length := by unfold krN; rw [if_neg (by omega), if_neg h2, if_neg h1]
 rw [hkq, hkr]
 clear hkq hkr
 refine AX.sR (rgAV [0, 1, 42]) ?_
 refine AX.condF ?_
 refine AX.skip ?_
 refine nmZ ?_
 -- the long division
 have hlen : (digits n).length ≤ (digits m).length := digits_len_mono (by omega)
 generalize hL : (digits n).length = L at *
 generalize hK : (digits m).length = K at *
 have eL : ((L : Nat) : Int) - 1 = ((L - 1 : Nat) : Int) := by omega
 have hlead := Dg_getD (Dg_digits n) (L - 1)
 have hlead0 := digits_canon n (by intro e; rw [e] at hL; simp at hL; omega)
 rw [hL] at hlead0
 generalize hld : (digits n).getD (L - 1) 0 = lead at *
 have kl := lead_ok lead hlead
 have hbl := blen_pos hlead0
 have hbl2 := blen_le (n := lead) (k := 32) (by omega)
 have hL2 : 2 ≤ L := by omega
 obtain ⟨hs31, hv1, hv2, hvL⟩ := norm_facts hL hL2 hld hlead hlead0 rfl
 generalize hs : 32 - blen lead = s at *
 have ks1 := shifted_ok (digits m) s (Dg_digits _) (by omega) hs31
 have ks2 := shifted_ok (digits n) s (Dg_digits _) (by omega) hs31
 rw [val_digits, hK] at ks1
 rw [val_digits, hL] at ks2
 have hp0 : 0 < 2 ^ s := Nat.pow_pos (by omega)
 have hp1 : 2 ^ s ≤ 2 ^ 31 := Nat.pow_le_pow_right (by omega) hs31
 have hmK := lt_pow_digits m
 rw [hK] at hmK
 have hu1 : m * 2 ^ s < 4294967296 ^ (K + 1) := by
  rw [Nat.pow_succ]
  exact Nat.mul_lt_mul_of_lt_of_le hmK (by omega) (by omega)
 have hvp : n * 2 ^ s < 4294967296 ^ (L + 1) := by rw [Nat.pow_succ]; omega
 have kt := ntrim_ok (pad (L + 1) (n * 2 ^ s)) pad_Dg (by rw [pad_length hvp]; omega)
 rw [pad_val] at kt
 have htp : List.take (L + 1) (pad (L + 1) (n * 2 ^ s)) = pad (L + 1) (n * 2 ^ s) := List.take_of_length_le (by rw [pad_length hvp]; exact Nat.le_refl _)
 have hpl := pad_length hvp
 have hplu := pad_length hu1
 refine AX.sR (rgWV [0, 1, 9] (aI @hL (aI @eL (aI @hld (aI @u64n oT)))) (aI kl oT)) ?_
 refine AX.sR (rgWV [9, 10, 11] (aI @htp (aI @hpl oT)) (aI ks1 (aI ks2 (aI kt oT)))) ?_
 have eKL : (((K + 1 : Nat) : Int)) - ((L : Nat) : Int) = ((K + 1 - L : Nat) : Int) := by omega
 have eKL1 : (((K + 1 - L : Nat) : Int)) - 1 = ((K - L : Nat) : Int) := by omega
 refine AX.sR (rgWV [9, 10, 11, 12] (aI @hvL oT) oT) ?_
 refine AX.sR (rgWV [9, 10, 11, 12, 13] (aI @eKL oT) oT) ?_
 refine AX.seq ?_
 refine AX.sR (rgWV [9, 10, 11, 12, 13, 14] (aI @eKL (aI @eKL1 oT)) oT) ?_
 refine AX.block ?_
 generalize hv : n * 2 ^ s = v at *
 have hpr := hplu
 generalize hr0 : pad (K + 1) (m * 2 ^ s) = r0 at *
 have hdr0 : Dg r0 := by rw [← hr0]; exact pad_Dg
 have hvr0 : val r0 = m * 2 ^ s := by rw [← hr0]; exact pad_val
 refine AX.loop (fun N st => ∃ (j : Int) (r q : List Nat), j = (N : Int) - 1 ∧ N ≤ K + 1 - L ∧ r.length = K + 1 ∧ Dg r ∧ q.length = K + 1 - L ∧ Dg q ∧ (∀ i, i < N → q.getD i 0 = 0) ∧ v * val q + val r = m * 2 ^ s ∧ val r < v * 4294967296 ^ N ∧
  st = ⟨[(14, .i .i64 j), (13, .own 2 0 (K + 1 - L) 1), (12, .i .i64 L), (11, nv v), (10, .own 0 0 (K + 1) 1), (9, .i .u64 s)], [(2, ⟨49, q.map u⟩), (0, ⟨49, r.map u⟩)], 3⟩) (K + 1 - L)
  ⟨((K - L : Nat) : Int), r0, List.replicate (K + 1 - L) 0, by omega, Nat.le_refl _, hpr, hdr0, by simp, Dg_replicate _, fun j _ => by simp [List.getD_eq_getElem?_getD, List.getElem?_replicate]; split <;> rfl, by simp [val_replicate, hvr0], ?_, rfl⟩ ?_
 ·rw [hvr0]
  have h3 : 4294967296 ^ L * 4294967296 ^ (K + 1 - L) ≤ 2 * v * 4294967296 ^ (K + 1 - L) := Nat.mul_le_mul_right _ hv2
  rw [← Nat.pow_add, show L + (K + 1 - L) = K + 1 by omega, Nat.pow_succ, Nat.mul_assoc 2] at h3
  have h4 : m * 2 ^ s < 4294967296 ^ K * 2 ^ 31 := Nat.mul_lt_mul_of_lt_of_le hmK hp1 (by omega)
  omega
 rintro N st ⟨j, r, q, rfl, hN, hr, hdr, hq, hdq, hz, hval, hrv, rfl⟩
 refine AX.seq ?_
 cases N with
 | zero =>
  refine AX.sR (rgAV [9, 10, 11, 12, 13, 86]) ?_
  refine AX.condF ?_
  refine AX.keepA [9, 10, 12, 13] ?_
  refine AX.exit ?_
  refine nmZ ?_
  refine AX.sR (rgAV [9, 10, 12, 13, 25]) ?_
  refine AX.seq ?_
  refine AX.sR (rgAV [9, 10, 13, 25, 281, 282]) ?_
  refine AX.block ?_
  rw [Nat.pow_zero, Nat.mul_one] at hrv
  have hpD : 2 ^ s * 2 ^ (32 - s) = 4294967296 := by
   rw [← Nat.pow_add, show s + (32 - s) = 32 by omega]
  have hrL : r.getD L 0 = 0 := by
   have h1 := val_take_drop r L (by omega)
   have h2 := val_drop_step r L (by omega)
   apply Nat.eq_zero_of_not_pos
   intro h3
   have h4 : 4294967296 ^ L * 1 ≤ 4294967296 ^ L * val (r.drop L) := Nat.mul_le_mul_left _ (by omega)
   omega
  have hqr : val r = (m - n * val q) * 2 ^ s := by
   rw [Nat.sub_mul, Nat.mul_right_comm, hv]
   omega
  have hr0m : r.getD 0 0 % 2 ^ s = 0 := by
   have h1 : val r % 2 ^ s = 0 := by rw [hqr]; exact Nat.mul_mod_left _ _
   have h2 := val_drop_step r 0 (by omega)
   rw [List.drop_zero] at h2
   rw [h2, ← hpD, Nat.mul_assoc, Nat.add_mul_mod_self_left] at h1
   exact h1
  refine AX.loop (fun N st => ∃ (i : Nat) (t : List Nat), N = L - i ∧ i ≤ L ∧ t.length = L ∧ Dg t ∧ val (t.take i) * 2 ^ s + 0 = val (r.take i) + 4294967296 ^ i * (r.getD i 0 % 2 ^ s) ∧
   st = ⟨[(282, .i .i64 i), (281, .i .i64 L), (25, .own 3 0 L 1), (13, .own 2 0 (K + 1 - L) 1), (10, .own 0 0 (K + 1) 1), (9, .i .u64 s)], [(3, ⟨49, t.map u⟩), (2, ⟨49, q.map u⟩), (0, ⟨49, r.map u⟩)], 4⟩) L ⟨0, List.replicate L 0, rfl, Nat.zero_le _, by simp, Dg_replicate _, by simp only [List.take_zero, val, hr0m]; simp, rfl⟩ ?_
  rintro N st ⟨i, t, rfl, hi, ht, hdt, hvt, rfl⟩
  by_cases h : i < L
  ·have hx := Dg_getD hdr i
   have hx' := Dg_getD hdr (i + 1)
   have htr := val_take_step r i
   have hal := shr_lt (s := s) (by omega) hx
   have hst := unshift_step (x' := r.getD (i + 1) 0) hvt hpD
   have hsb := shl_back (x := r.getD (i + 1) 0) (s := s) (by omega)
   have hxm : r.getD (i + 1) 0 % 2 ^ s < 2 ^ s := Nat.mod_lt _ hp0
   have hb3 : (r.getD (i + 1) 0 % 2 ^ s + 1) * 2 ^ (32 - s) ≤ 2 ^ s * 2 ^ (32 - s) := Nat.mul_le_mul_right _ hxm
   rw [hpD, Nat.add_mul, Nat.one_mul] at hb3
   have m1 : min s 32 = s := Nat.min_eq_left (by omega)
   have m3 : min (32 - s) 32 = 32 - s := Nat.min_eq_left (by omega)
   have e32 : (32 : Int) - (s : Int) = ((32 - s : Nat) : Int) := by omega
   have hadd : r.getD i 0 / 2 ^ s ≤ r.getD i 0 := Nat.div_le_self _ _
   have hor := fun h0 : 0 < s => or32 (a := r.getD i 0 / 2 ^ s) (b := r.getD (i + 1) 0 % 2 ^ s) (s := 32 - s) hal (by omega) (by omega)
   have hget : (t.set i (r.getD i 0 / 2 ^ s)).getD i 0 = r.getD i 0 / 2 ^ s := by
    simp [List.getD_eq_getElem?_getD, show i < t.length by omega]
   have h00 : s = 0 → r.getD (i + 1) 0 % 2 ^ s = 0 := by
    intro e
    rw [e, Nat.pow_zero, Nat.mod_one]
   refine AX.sR (rgAV [9, 10, 13, 25, 281, 282, 283]) ?_
   refine AX.seq ?_
   refine AX.condT ?_
   refine AX.keepA [9, 10, 13, 25, 281, 282] ?_
   refine AX.skip ?_
   refine nmZ ?_
   refine AX.seq ?_
   refine AX.block ?_
   refine AX.sR (rgAV [9, 10, 13, 25, 26, 281, 282]) ?_
   generalize hxx : r.getD i 0 = x at *
   generalize hxx' : r.getD (i + 1) 0 = x' at *
   generalize hq1 : x / 2 ^ s = a1 at *
   refine AX.sR (rgWV [9, 10, 13, 25, 26, 281, 282] (aI @m1 (aI @shr_nat (aI @hxx (aI @hq1 oT)))) oT) ?_
   generalize hq2 : x' % 2 ^ s * 2 ^ (32 - s) = b1 at *
   have hgu : (List.map u (t.set i a1)).getD i V.junk = V.i .u32 ((a1 : Nat) : Int) := by rw [getD_u _ _ (by simp; omega), hget]
   by_cases h0 : 0 < s
   ·refine AX.sR (rgAV [9, 10, 13, 25, 26, 281, 282, 295]) ?_
    refine AX.condT ?_
    apply AX.dreg [9, 10, 13, 25, 281, 282] (by kernel_rfl) (by simp only [pq]; rfl)
    ·repeat (first
    |(apply RunD.op rfl; · rfl
      ·(simp only [opsOf, valsOf, valOf, lkp, ofConst, ofCell, Array.toList, Option.toList, List.map_cons, List.map_nil, List.cons_append, List.nil_append, List.append_nil, Nat.reduceEqDiff, Nat.reducePow, Nat.reduceLT, Nat.reduceLeDiff, reduceIte, if_true, if_false, IntKind.min, IntKind.max, IntKind.bits, IntKind.signed, Int.reduceLE, Int.reduceNeg, Int.reducePow, Int.reduceSub, and_self, Bool.false_eq_true, Nat.reduceSub]; rfl)
      iterate 2 (· (simp (disch := omega) only [go_sem, i64_of, u32_of, u64_of, Nat.reduceLT, Nat.reduceLeDiff, Nat.reduceEqDiff, Nat.reduceAdd, Nat.reduceSub, Nat.reduceMul, Nat.reducePow, Nat.reduceBEq, Int.reduceLE, Int.reduceLT, Int.reduceToNat, Int.reduceEq, Int.reduceNeg, ↓reduceIte, reduceCtorEq, lit_add, e32, m3, shl_nat, u32n, hsb, hxx', hgu, hor h0, List.set_set]; rfl))
      ·(simp only [pb, Nat.reduceLT, Nat.reduceAdd, reduceIte]; rfl)
      ·rfl)
    |(apply RunD.skip; · rfl
      ·(simp only [pb, Nat.reduceLT, Nat.reduceAdd, reduceIte]; rfl)
      ·rfl))
     exact RunD.nil
    ·repeat (first | exact Keep.nil | (apply Keep.take; · rfl) | (apply Keep.drop; · rfl))
    ·kernel_rfl
    refine nmZ ?_
    refine AX.rR (rgWV [9, 10, 13, 25, 281, 282] (aI @lit_add oT) oT) ?_
    refine nmZ ?_
    refine ⟨L - (i + 1), _, id, by omega,
     leQ0
     , ⟨i + 1, t.set i (a1 + b1), rfl, by omega, by simp [ht], Dg_set hdt (by omega), ?_, rfl⟩⟩
    rw [take_set_succ t i _ (by omega), val_append, List.length_take, Nat.min_eq_left (by omega), htr, hxx']
    simp only [val, Nat.mul_zero, Nat.add_zero]
    rw [Nat.add_zero, Nat.add_zero] at *
    rw [hst, Nat.pow_succ]
   ·refine AX.sR (rgAV [9, 10, 13, 25, 26, 281, 282, 295]) ?_
    refine AX.condF ?_
    refine AX.keepA [9, 10, 13, 25, 281, 282] ?_
    refine AX.skip ?_
    refine nmZ ?_
    refine AX.rR (rgWV [9, 10, 13, 25, 281, 282] (aI @lit_add oT) oT) ?_
    refine nmZ ?_
    have hb0 : b1 = 0 := by rw [← hq2, h00 (by omega), Nat.zero_mul]
    rw [hb0, Nat.add_zero] at hst
    refine ⟨L - (i + 1), _, id, by omega,
     leQ0
     , ⟨i + 1, t.set i a1, rfl, by omega, by simp [ht], Dg_set hdt (by omega), ?_, rfl⟩⟩
    rw [take_set_succ t i _ (by omega), val_append, List.length_take, Nat.min_eq_left (by omega), htr, hxx']
    simp only [val, Nat.mul_zero, Nat.add_zero]
    rw [Nat.add_zero] at hst
    rw [hst, Nat.pow_succ]
  ·refine AX.sR (rgAV [9, 10, 13, 25, 281, 282, 283]) ?_
   refine AX.seq ?_
   refine AX.condF ?_
   refine AX.exit ?_
   refine nmZ ?_
   have hiL : i = L := by omega
   rw [hiL, hrL, Nat.zero_mod, Nat.mul_zero, Nat.add_zero, Nat.add_zero, ← ht, List.take_length, ht, val_take_all (by omega), hqr] at hvt
   have hvt2 : val t = m - n * val q := Nat.eq_of_mul_eq_mul_right hp0 hvt
   have hle : n * val q ≤ m := by
    apply Nat.le_of_mul_le_mul_right (c := 2 ^ s) _ hp0
    rw [Nat.mul_right_comm, hv]
    omega
   have hlt : val t < n := by
    apply Nat.lt_of_mul_lt_mul_right (a := 2 ^ s)
    rw [hvt2, ← hqr, hv]
    exact hrv
   obtain ⟨e1, e2⟩ := divmod_unique (n := m) (d := n) (q := val q) (r := val t) (by omega) hlt
   have c3 := trim_g q (by omega)
   have c4 := trim_g t (by omega)
   rw [trim_eq hdq, e1, hq] at c3
   rw [trim_eq hdt, e2, ht] at c4
   have ep := padD_of hdq
   have ep2 := padD_of hdt
   rw [e1, hq] at ep
   rw [e2, ht] at ep2
   apply AX.sreg [4, 5, 6] (by simp only [pq]; rfl)
   ·repeat (first
   |(apply RunO.op rfl; · rfl
     ·(simp only [opsOf, valsOf, valOf, lkp, ofConst, ofCell, Array.toList, Option.toList, List.map_cons, List.map_nil, List.cons_append, List.nil_append, List.append_nil, Nat.reduceEqDiff, Nat.reducePow, Nat.reduceLT, Nat.reduceLeDiff, reduceIte, if_true, if_false, IntKind.min, IntKind.max, IntKind.bits, IntKind.signed, Int.reduceLE, Int.reduceNeg, Int.reducePow, Int.reduceSub, and_self, Bool.false_eq_true, Nat.reduceSub]; rfl)
     iterate 2 (· (simp (disch := omega) only [go_sem, i64_of, u32_of, u64_of, Nat.reduceLT, Nat.reduceLeDiff, Nat.reduceEqDiff, Nat.reduceAdd, Nat.reduceSub, Nat.reduceMul, Nat.reducePow, Nat.reduceBEq, Int.reduceLE, Int.reduceLT, Int.reduceToNat, Int.reduceEq, Int.reduceNeg, ↓reduceIte, reduceCtorEq]; rfl))
     ·(simp only [pb, Nat.reduceLT, Nat.reduceAdd, reduceIte]; rfl))
   |(apply RunO.gcall [2] rfl; · rfl
     ·(simp only [opsOf, valsOf, valOf, lkp, ofConst, ofCell, Array.toList, Option.toList, List.map_cons, List.map_nil, List.cons_append, List.nil_append, List.append_nil, Nat.reduceEqDiff, Nat.reducePow, Nat.reduceLT, Nat.reduceLeDiff, reduceIte, if_true, if_false, IntKind.min, IntKind.max, IntKind.bits, IntKind.signed, Int.reduceLE, Int.reduceNeg, Int.reducePow, Int.reduceSub, and_self, Bool.false_eq_true, Nat.reduceSub]; rfl)
     ·exact c3
     ·first | rfl | (simp only [Row.ren, V.ren, V.renL, renS, renL_u]; rfl)
     ·first | rfl | (simp only [V.lt, V.ltL, ltS, ltL_u]; rfl)
     ·decide
     ·repeat' (first | exact trivial | rfl | (simp only [Row.ren, V.ren, V.renL, renS, renL_u]; done) | (simp only [Row.ren, V.ren, V.renL, renS, renL_u]; rfl) | (simp only [V.lt, V.ltL, ltS, ltL_u]; done) | apply And.intro)
     ·first | rfl | (simp only [Row.ren, V.ren, V.renL, renS, renL_u]; rfl)
     ·(simp only [setRows, setL, Row.ren, V.ren, V.renL, renS, renL_u, pb, Nat.reduceLT, Nat.reduceAdd, Nat.reduceEqDiff, reduceIte]; rfl))
   |(apply RunO.gcall [3] rfl; · rfl
     ·(simp only [opsOf, valsOf, valOf, lkp, ofConst, ofCell, Array.toList, Option.toList, List.map_cons, List.map_nil, List.cons_append, List.nil_append, List.append_nil, Nat.reduceEqDiff, Nat.reducePow, Nat.reduceLT, Nat.reduceLeDiff, reduceIte, if_true, if_false, IntKind.min, IntKind.max, IntKind.bits, IntKind.signed, Int.reduceLE, Int.reduceNeg, Int.reducePow, Int.reduceSub, and_self, Bool.false_eq_true, Nat.reduceSub]; rfl)
     ·exact c4
     ·first | rfl | (simp only [Row.ren, V.ren, V.renL, renS, renL_u]; rfl)
     ·first | rfl | (simp only [V.lt, V.ltL, ltS, ltL_u]; rfl)
     ·decide
     ·repeat' (first | exact trivial | rfl | (simp only [Row.ren, V.ren, V.renL, renS, renL_u]; done) | (simp only [Row.ren, V.ren, V.renL, renS, renL_u]; rfl) | (simp only [V.lt, V.ltL, ltS, ltL_u]; done) | apply And.intro)
     ·first | rfl | (simp only [Row.ren, V.ren, V.renL, renS, renL_u]; rfl)
     ·(simp only [setRows, setL, Row.ren, V.ren, V.renL, renS, renL_u, pb, Nat.reduceLT, Nat.reduceAdd, Nat.reduceEqDiff, reduceIte]; rfl))
   |(apply RunO.skip; · rfl
     ·(simp only [pb, Nat.reduceLT, Nat.reduceAdd, reduceIte]; rfl)))
    exact RunO.nil
   ·repeat (first | exact Keep.nil | (apply Keep.take; · rfl) | (apply Keep.drop; · rfl))
   refine AX.ret ⟨.inl rfl, ?_⟩
   rw [← ep, ← ep2]
   exact Done.own2 rfl rfl rfl rfl rfl (by decide)
 | succ k =>
  have e1 : ((k + 1 : Nat) : Int) - 1 = (k : Int) := by omega
  rw [e1]
  refine AX.sR (rgAV [9, 10, 11, 12, 13, 14, 86]) ?_
  refine AX.condT ?_
  refine AX.keepA [9, 10, 11, 12, 13, 14] ?_
  refine AX.skip ?_
  refine nmZ ?_
  refine AX.seq ?_
  refine AX.block ?_
  refine digit_step (by simp only [partB, Try.func53, Option.bind_some]; rfl) hL2 (by omega) (by omega) hv1 hv2 hvL hr hdr hq hdq hrv ?_
  intro r' h1 h2 h3 h4
  obtain ⟨Q0, hQ0⟩ : ∃ Q0, Q0 = val r / (v * 4294967296 ^ k) := ⟨_, rfl⟩
  rw [← hQ0] at h3 h4
  rw [← hQ0]
  refine nmZ ?_
  refine AX.rR (rgAV [9, 10, 11, 12, 13, 14]) ?_
  refine nmZ ?_
  have hv0 : 0 < v := by
   have : 0 < 4294967296 ^ L := Nat.pow_pos (by omega)
   omega
  have hvk : 0 < v * 4294967296 ^ k := Nat.mul_pos hv0 (Nat.pow_pos (by omega))
  have hs := set_zero_val (v := Q0) (show k < q.length by omega) (hz k (by omega))
  refine ⟨k, _, id, by omega,
   leQ0
   , ⟨(k : Int) - 1, r', q.set k Q0, rfl, by omega, h1, h2, by simp [hq], Dg_set hdq h4, ?_, ?_, ?_, rfl⟩⟩
  ·intro i hi
   rw [List.getD_eq_getElem?_getD, List.getElem?_set_ne (by omega), ← List.getD_eq_getElem?_getD]
   exact hz i (by omega)
  ·have e : v * (4294967296 ^ k * Q0) = 4294967296 ^ k * (Q0 * v) := by rw [Nat.mul_left_comm, Nat.mul_comm v]
   rw [hs, Nat.mul_add, e, ← hval]
   omega
  ·have h5 := Nat.div_add_mod (val r) (v * 4294967296 ^ k)
   have h6 := Nat.mod_lt (val r) hvk
   rw [← hQ0, Nat.mul_comm v, Nat.mul_assoc, Nat.mul_comm v Q0] at h5
   rw [Nat.mul_comm v] at h6 ⊢
   omega
end Go.Proofs.Ytmhjcmochemndaa
