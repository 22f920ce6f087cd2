/- Fractions whose digits are the caller's own: Zero, One, Of, made, Neg, Mul, Div (printed by mkrato.py). -/
import Derived.Test.YtmhjcmochemndaaNatO3
import Derived.Test.YtmhjcmochemndaaGD
set_option linter.unusedVariables false
set_option linter.unusedSimpArgs false
namespace Go.Proofs.Ytmhjcmochemndaa
open Go Go.Proofs.Ytmhjcmochemndaa.Lift
attribute [local irreducible] Lift.PCall Lift.HCall
theorem Lift.Done.cellQ {st : St} {t : Tmp} {h a b n n' : Nat} {T T1 T2 : TypeId} {s : Bool} {l l' : List Nat} (h1 : lkp st.fr t = some (.ptr h 0)) (h2 : lkp st.hp h = some ⟨T, [.b s, .own a 0 n 1, .own b 0 n' 1]⟩) (g1 : lkp st.hp a = some ⟨T1, l.map u⟩) (g2 : lkp st.hp b = some ⟨T2, l'.map u⟩) (hne : a ≠ b) :
  Done Try.prog #[.cell t 25] (.agg [.b s, .own 0 0 n 1, .own 1 0 n' 1]) [⟨T1, l.map u⟩, ⟨T2, l'.map u⟩] st := by
 refine ⟨[.agg [.b s, .own a 0 n 1, .own b 0 n' 1]], by simp only [resVs, resV, h1, h2, lay_ratio]; rfl, [a, b], fun k => if k = 0 then a else b, .agg [.b s, .own a 0 n 1, .own b 0 n' 1], st.hp, ?_, ?_, rfl, ?_, ?_⟩
 ·simp [packV, frz, frzL]
 ·simp only [V.ren, V.renL]; rfl
 ·intro k q hq
  match k, hq with
  | 0, hq =>
   simp at hq
   subst hq
   refine ⟨?_, ltL_u _ _⟩
   show lkp st.hp a = _
   rw [g1]
   simp only [Row.ren, renL_u]
  | 1, hq =>
   simp at hq
   subst hq
   refine ⟨?_, ltL_u _ _⟩
   show lkp st.hp b = _
   rw [g2]
   simp only [Row.ren, renL_u]
  | k + 2, hq => simp at hq
 ·intro k k' hk hk' e
  simp at hk hk'
  match k, k', hk, hk', e with
  | 0, 0, _, _, _ => rfl
  | 1, 1, _, _, _ => rfl
  | 0, 1, _, _, e => exact absurd e hne
  | 1, 0, _, _, e => exact absurd e.symm hne
theorem Lift.Done.cellQE {st : St} {t t' : Tmp} {h a b n n' : Nat} {T T1 T2 : TypeId} {s : Bool} {l l' : List Nat} {e : Int} (h1 : lkp st.fr t = some (.ptr h 0)) (h2 : lkp st.hp h = some ⟨T, [.b s, .own a 0 n 1, .own b 0 n' 1]⟩) (h3 : lkp st.fr t' = some (.i .i64 e)) (g1 : lkp st.hp a = some ⟨T1, l.map u⟩) (g2 : lkp st.hp b = some ⟨T2, l'.map u⟩) (hne : a ≠ b) :
  Done Try.prog #[.cell t 25, .tmp t'] (.tup [.agg [.b s, .own 0 0 n 1, .own 1 0 n' 1], .i .i64 e]) [⟨T1, l.map u⟩, ⟨T2, l'.map u⟩] st := by
 refine ⟨[.agg [.b s, .own a 0 n 1, .own b 0 n' 1], .i .i64 e], by simp only [resVs, resV, h1, h2, h3, lay_ratio]; rfl, [a, b], fun k => if k = 0 then a else b, .tup [.agg [.b s, .own a 0 n 1, .own b 0 n' 1], .i .i64 e], st.hp, ?_, ?_, rfl, ?_, ?_⟩
 ·simp [packV, frz, frzL]
 ·simp only [V.ren, V.renL]; rfl
 ·intro k q hq
  match k, hq with
  | 0, hq =>
   simp at hq
   subst hq
   refine ⟨?_, ltL_u _ _⟩
   show lkp st.hp a = _
   rw [g1]
   simp only [Row.ren, renL_u]
  | 1, hq =>
   simp at hq
   subst hq
   refine ⟨?_, ltL_u _ _⟩
   show lkp st.hp b = _
   rw [g2]
   simp only [Row.ren, renL_u]
  | k + 2, hq => simp at hq
 ·intro k k' hk hk' e
  simp at hk hk'
  match k, k', hk, hk', e with
  | 0, 0, _, _, _ => rfl
  | 1, 1, _, _, _ => rfl
  | 0, 1, _, _, e => exact absurd e hne
  | 1, 0, _, _, e => exact absurd e.symm hne
def ms (s : Bool) (m n : Nat) : Bool := if n = 0 then false else s && decide (0 < (digits (m / Nat.gcd m n)).length)
def k1 (m n : Nat) : Nat := if n = 0 then 0 else (digits (m / Nat.gcd m n)).length
def k2 (m n : Nat) : Nat := if n = 0 then (digits 1).length else (digits (n / Nat.gcd m n)).length
def m1 (m n : Nat) : List Nat := if n = 0 then [] else padD (kqN m (Nat.gcd m n)) (m / Nat.gcd m n)
def m2 (m n : Nat) : List Nat := if n = 0 then digits 1 else padD (kqN n (Nat.gcd m n)) (n / Nat.gcd m n)
def o2 (m n : Nat) : List Nat := if n = 0 then [] else m2 m n
def j2 (m n : Nat) : Nat := if n = 0 then 0 else k2 m n
theorem zero_o : PCall Try.prog 22 [] (.agg [.b false, .own 0 0 (0 : Nat) 1, .own 1 0 (digits 1).length 1]) [⟨49, ([] : List Nat).map u⟩, ⟨49, (digits 1).map u⟩] := by
 refine PCall.of_ax Try.call22 Try.func22 rfl (by simp [Try.ntmps22]) fun O w => ?_
 simp only [Try.ntmps22, Try.results22, argFr]
 have c1 := of_o 1 (by omega)
 refine AX.sR (rgAV [0]) ?_
 refine AX.sR (rgCV [0] (aI c1 oT)) ?_
 refine AX.own0c 0 1 49 1 rfl rfl (by show 1 < 3; decide) ?_
 refine AX.ret ⟨.inl rfl, ?_⟩
 exact Done.cellQ (l := []) rfl rfl rfl rfl (by decide)
theorem one_o : PCall Try.prog 24 [] (.agg [.b false, .own 0 0 (digits 1).length 1, .own 1 0 (digits 1).length 1]) [⟨49, (digits 1).map u⟩, ⟨49, (digits 1).map u⟩] := by
 refine PCall.of_ax Try.call24 Try.func24 rfl (by simp [Try.ntmps24]) fun O w => ?_
 simp only [Try.ntmps24, Try.results24, argFr]
 have c1 := of_o 1 (by omega)
 refine AX.sR (rgAV [0]) ?_
 refine AX.sR (rgCV [0] (aI c1 oT)) ?_
 refine AX.ret ⟨.inl rfl, ?_⟩
 exact Done.cellQ rfl rfl rfl rfl (by decide)
set_option maxRecDepth 20000 in
set_option maxHeartbeats 4000000 in
theorem qof_o (s : Bool) (a b : List Nat) (ha : Dg a) (hb : Dg b) (hla : a.length < 2 ^ 36) (hlb : b.length < 2 ^ 36) : PCall Try.prog 15 [.b s, dg a, dg b] (.tup [.agg [.b (ms s (val a) (val b)), .own 0 0 (k1 (val a) (val b)) 1, .own 1 0 (j2 (val a) (val b)) 1], .i .i64 (if val b = 0 then 31 else 0)]) [⟨49, (m1 (val a) (val b)).map u⟩, ⟨49, (o2 (val a) (val b)).map u⟩] := by
 refine PCall.of_ax Try.call15 Try.func15 rfl (by simp [Try.ntmps15]) fun O w => ?_
 simp only [Try.ntmps15, Try.results15, argFr]
 have hma := digits_length_val ha
 have hmb := digits_length_val hb
 have c1 := gcd_ok a b ha hb hla hlb
 have c2 := cmp_ok b [] hb Dg_nil (by omega) (by decide)
 have hgl : (digits (Nat.gcd (val a) (val b))).length < 2 ^ 37 := by
  have h1 := digits_len_mono (show Nat.gcd (val a) (val b) ≤ val a + val b by
   by_cases h : val a = 0
   ·rw [h]; simp
   ·have := Nat.gcd_le_left (val b) (Nat.pos_of_ne_zero h); omega)
  have h2 := digits_len_add (val a) (val b)
  omega
 rw [show val [] = 0 from rfl, cmp_zero] at c2
 refine AX.sR (rgAV [0, 1, 2, 6, 7]) ?_
 refine AX.sR (rgCV [0, 1, 2, 6, 7, 8] (aI c1 oT)) ?_
 refine AX.seq ?_
 unfold ms k1 j2 m1 o2 k2 m2
 by_cases hn : val b = 0
 ·rw [if_pos hn] at c2
  simp only [if_pos hn]
  refine AX.sR (rgCV [0, 1, 2, 6, 7, 20] (aI c2 oT)) ?_
  refine AX.condT ?_
  refine AX.sR (rgAV [6, 7]) ?_
  refine AX.own0c 0 1 49 1 rfl rfl (by show 1 < 3; decide) ?_
  refine AX.own0c 0 2 49 1 rfl rfl (by show 2 < 3; decide) ?_
  refine AX.ret ⟨.inl rfl, ?_⟩
  exact Done.cellQE (l := []) (l' := []) rfl rfl rfl rfl rfl (by decide)
 rw [if_neg hn] at c2
 simp only [if_neg hn]
 have hg0 : Nat.gcd (val a) (val b) ≠ 0 := fun e => hn (Nat.gcd_eq_zero_iff.1 e).2
 have hgl2 : (digits (Nat.gcd (val a) (val b))).length < 2 ^ 36 := by
  have h1 := digits_len_mono (Nat.gcd_le_right (val a) (Nat.pos_of_ne_zero hn))
  omega
 have c3 := div_o a (digits (Nat.gcd (val a) (val b))) ha (Dg_digits _) hla hgl2
 have c4 := div_o b (digits (Nat.gcd (val a) (val b))) hb (Dg_digits _) hlb hgl2
 rw [val_digits] at c3 c4
 have hq := digits_len_mono (Nat.div_le_self (val a) (Nat.gcd (val a) (val b)))
 generalize val a = m at *
 generalize val b = n at *
 generalize Nat.gcd m n = g at *
 generalize remN m g = r1 at *
 generalize remN n g = r2 at *
 generalize divE g = e at *
 generalize kqN m g = K1 at *
 generalize kqN n g = K2 at *
 generalize krN m g = K3 at *
 generalize krN n g = K4 at *
 generalize m / g = x at *
 generalize n / g = y at *
 refine AX.sR (rgCV [0, 1, 2, 6, 8, 20] (aI c2 oT)) ?_
 refine AX.condF ?_
 refine AX.keepA [0, 1, 2, 6, 8] ?_
 refine AX.skip ?_
 refine nmZ ?_
 refine AX.sR (rgCV [0, 2, 6, 8, 9] (aI c3 oT)) ?_
 refine AX.sR (rgCV [0, 6, 9, 12] (aI c4 oT)) ?_
 cases s
 ·refine AX.sR (rgAV [6, 7]) ?_
  refine AX.ret ⟨.inl rfl, ?_⟩
  exact Done.cellQE rfl rfl rfl rfl rfl (by decide)
 ·by_cases hx : 0 < (digits x).length
  ·rw [decide_eq_true hx]
   refine AX.sR (rgAV [6, 7]) ?_
   refine AX.ret ⟨.inl rfl, ?_⟩
   exact Done.cellQE rfl rfl rfl rfl rfl (by decide)
  ·rw [decide_eq_false hx]
   refine AX.sR (rgAV [6, 7]) ?_
   refine AX.ret ⟨.inl rfl, ?_⟩
   exact Done.cellQE rfl rfl rfl rfl rfl (by decide)
set_option maxRecDepth 20000 in
set_option maxHeartbeats 4000000 in
theorem made_o (s : Bool) (a b : List Nat) (ha : Dg a) (hb : Dg b) (hla : a.length < 2 ^ 36) (hlb : b.length < 2 ^ 36) : PCall Try.prog 68 [.b s, dg a, dg b] (.agg [.b (ms s (val a) (val b)), .own 0 0 (k1 (val a) (val b)) 1, .own 1 0 (k2 (val a) (val b)) 1]) [⟨49, (m1 (val a) (val b)).map u⟩, ⟨49, (m2 (val a) (val b)).map u⟩] := by
 refine PCall.of_ax Try.call68 Try.func68 rfl (by simp [Try.ntmps68]) fun O w => ?_
 simp only [Try.ntmps68, Try.results68, argFr]
 have c1 := qof_o s a b ha hb hla hlb
 refine AX.sR (rgAV [0, 1, 2, 6]) ?_
 by_cases hn : val b = 0
 ·rw [if_pos hn] at c1
  have c2 := zero_o
  rw [show ms s (val a) (val b) = false from if_pos hn, show k1 (val a) (val b) = 0 from if_pos hn, show k2 (val a) (val b) = (digits 1).length from if_pos hn, show m1 (val a) (val b) = [] from if_pos hn, show m2 (val a) (val b) = digits 1 from if_pos hn]
  generalize ms s (val a) (val b) = z1 at *
  generalize k1 (val a) (val b) = z2 at *
  generalize j2 (val a) (val b) = z3 at *
  generalize m1 (val a) (val b) = z4 at *
  generalize o2 (val a) (val b) = z5 at *
  refine AX.sR (rgCV [6, 7, 8] (aI c1 oT)) ?_
  refine AX.seq ?_
  refine AX.sR (rgAV [6, 7, 17]) ?_
  refine AX.condT ?_
  refine AX.sR (rgCV [6] (aI c2 oT)) ?_
  refine AX.ret ⟨.inl rfl, ?_⟩
  exact Done.cellQ (l := []) rfl rfl rfl rfl (by decide)
 ·rw [if_neg hn, show j2 (val a) (val b) = k2 (val a) (val b) from if_neg hn, show o2 (val a) (val b) = m2 (val a) (val b) from if_neg hn] at c1
  generalize ms s (val a) (val b) = z1 at *
  generalize k1 (val a) (val b) = z2 at *
  generalize k2 (val a) (val b) = z3 at *
  generalize m1 (val a) (val b) = z4 at *
  generalize m2 (val a) (val b) = z5 at *
  refine AX.sR (rgCV [6, 7, 8] (aI c1 oT)) ?_
  refine AX.seq ?_
  refine AX.sR (rgAV [6, 7, 17]) ?_
  refine AX.condF ?_
  refine AX.keepA [6, 7] ?_
  refine AX.skip ?_
  refine nmZ ?_
  refine AX.sR (rgAV [6]) ?_
  refine AX.ret ⟨.inl rfl, ?_⟩
  exact Done.cellQ rfl rfl rfl rfl (by decide)
end Go.Proofs.Ytmhjcmochemndaa
