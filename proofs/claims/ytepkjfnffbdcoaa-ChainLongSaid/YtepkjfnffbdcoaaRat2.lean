/- Fractions: Sign, Compare, Same, Neg, Mul, Div. -/
import Derived.Test.YtepkjfnffbdcoaaGQ
set_option linter.unusedVariables false
set_option maxRecDepth 20000
set_option linter.unusedSimpArgs false
namespace Go.Proofs.Ytepkjfnffbdcoaa
open Go Go.Proofs.Ytepkjfnffbdcoaa.Lift
attribute [local irreducible] Lift.PCall Lift.HCall

set_option maxRecDepth 20000 in
set_option maxHeartbeats 2000000 in
theorem sign_ok {x : V} {q : Rat} {L : Nat} (h : IsQ x q L) (hL : L < 2 ^ 36) : PCall Try.prog 39 [x] (.i .i64 (sgnR q)) [] := by
  obtain ⟨s, a, b, rfl, ha, hb, rfl, hla, hlb⟩ := h
  refine PCall.of_ax Try.call39 Try.func39 rfl (by simp [Try.ntmps39]) fun O w => ?_
  simp only [Try.ntmps39, Try.results39, argFr]
  have c1 := cmp_ok a [] ha Dg_nil (by omega) (by decide)
  have c2 := cmp_ok b [] hb Dg_nil (by omega) (by decide)
  rw [show val [] = 0 from rfl, cmp_zero] at c1 c2
  refine AX.sregAV [1] (hq := ?_)
  refine AX.seq ?_
  refine AX.block ?_
  by_cases hm : val a = 0
  · rw [if_pos hm] at c1
    rw [hm, rq_num0, sgnR_zero]
    refine AX.sregCV [1, 3] (And.intro c1 True.intro) (hq := ?_)
    refine AX.condT (h := ?_)
    refine AX.sregAV [2] (hq := ?_)
    refine AX.ret (And.intro (Or.inl rfl) ?_)
    exact Done.one rfl rfl rfl rfl
  rw [if_neg hm] at c1
  by_cases hn : val b = 0
  · rw [if_pos hn] at c2
    rw [hn, rq_den0, sgnR_zero]
    refine AX.sregCV [1, 3] (And.intro c1 (And.intro c2 True.intro)) (hq := ?_)
    refine AX.condT (h := ?_)
    refine AX.sregAV [2] (hq := ?_)
    refine AX.ret (And.intro (Or.inl rfl) ?_)
    exact Done.one rfl rfl rfl rfl
  rw [if_neg hn] at c2
  rw [sgnR_rq hm hn]
  refine AX.sregCV [1, 3] (And.intro c1 (And.intro c2 True.intro)) (hq := ?_)
  refine AX.condF (h := ?_)
  cases s
  · refine AX.sregAV [1, 14] (hq := ?_)
    refine AX.condF (h := ?_)
    refine AX.keepA [1] (h := ?_)
    refine AX.skip ?_
    try simp only [thenS_normal, thenS_ret, thenS_exit, blockS_normal, blockS_ret, blockS_exit, backS_ret, backS_exit, if_true]
    refine AX.sregAV [2] (hq := ?_)
    refine AX.ret (And.intro (Or.inl rfl) ?_)
    exact Done.one rfl rfl rfl rfl
  · refine AX.sregAV [1, 14] (hq := ?_)
    refine AX.condT (h := ?_)
    refine AX.sregAV [2] (hq := ?_)
    refine AX.ret (And.intro (Or.inl rfl) ?_)
    exact Done.one rfl rfl rfl rfl

theorem sgnR_bound (q : Rat) : -1 ≤ sgnR q ∧ sgnR q ≤ 1 := by
  unfold sgnR
  split
  · omega
  · split <;> omega
theorem cmp_bound (m n : Nat) : -1 ≤ cmp m n ∧ cmp m n ≤ 1 := by
  unfold cmp
  split
  · omega
  · split <;> omega
theorem mul_bound1 {x y : Int} (hx : -1 ≤ x ∧ x ≤ 1) (hy : -1 ≤ y ∧ y ≤ 1) : -1 ≤ x * y ∧ x * y ≤ 1 := by
  have : x = -1 ∨ x = 0 ∨ x = 1 := by omega
  rcases this with rfl | rfl | rfl <;> omega

set_option maxRecDepth 20000 in
set_option maxHeartbeats 4000000 in
theorem qcmp_ok {x y : V} {p q : Rat} {L : Nat} (hx : IsQ x p L) (hy : IsQ y q L) (hL : L < 2 ^ 36) : PCall Try.prog 59 [x, y] (.i .i64 (cmpR p q)) [] := by
  have c1 := sign_ok hx hL
  have c2 := sign_ok hy hL
  obtain ⟨s, a, b, rfl, ha, hb, rfl, hla, hlb⟩ := hx
  obtain ⟨t, c, d, rfl, hc, hd, rfl, hlc, hld⟩ := hy
  refine PCall.of_ax Try.call59 Try.func59 rfl (by simp [Try.ntmps59]) fun O w => ?_
  simp only [Try.ntmps59, Try.results59, argFr]
  have c3 := mul_ok a d ha hd (by omega) (by omega)
  have c4 := mul_ok c b hc hb (by omega) (by omega)
  have l1 := digits_len_mul (val a) (val d)
  have l2 := digits_len_mul (val c) (val b)
  have e1 := digits_length_val ha
  have e2 := digits_length_val hb
  have e3 := digits_length_val hc
  have e4 := digits_length_val hd
  have c5 := cmp_n (val a * val d) (val c * val b) (by omega) (by omega)
  have hz := mul_bound1 (sgnR_bound (rq s (val a) (val b))) (cmp_bound (val a * val d) (val c * val b))
  have hsa := sgnR_bound (rq s (val a) (val b))
  have hsb := sgnR_bound (rq t (val c) (val d))
  rw [cmpR_rq]
  clear l1 l2 e1 e2 e3 e4
  generalize sgnR (rq s (val a) (val b)) = X at *
  generalize sgnR (rq t (val c) (val d)) = Y at *
  generalize val a * val d = M at *
  generalize val c * val b = N at *
  generalize hzz : X * cmp M N = Z at *
  generalize hcc : cmp M N = W at *
  refine AX.sregAV [2, 3] (hq := ?_)
  refine AX.sdregCV [2, 3, 5, 6] (And.intro c1 (And.intro c2 True.intro)) (hq := ?_)
  refine AX.seq ?_
  refine AX.block ?_
  by_cases h1 : X < Y
  · rw [if_pos h1]
    refine AX.sregAV [2, 3, 5, 6, 11] (hq := ?_)
    refine AX.condT (h := ?_)
    refine AX.sregAV [4] (hq := ?_)
    refine AX.ret (And.intro (Or.inl rfl) ?_)
    exact Done.one rfl rfl rfl rfl
  rw [if_neg h1]
  refine AX.sregAV [2, 3, 5, 6, 11] (hq := ?_)
  refine AX.condF (h := ?_)
  by_cases h2 : Y < X
  · rw [if_pos h2]
    refine AX.sregAV [2, 3, 5, 6, 15] (hq := ?_)
    refine AX.condT (h := ?_)
    refine AX.sregAV [4] (hq := ?_)
    refine AX.ret (And.intro (Or.inl rfl) ?_)
    exact Done.one rfl rfl rfl rfl
  rw [if_neg h2]
  refine AX.sregAV [2, 3, 5, 6, 15] (hq := ?_)
  refine AX.condF (h := ?_)
  refine AX.keepA [2, 3, 5] (h := ?_)
  refine AX.skip ?_
  try simp only [thenS_normal, thenS_ret, thenS_exit, blockS_normal, blockS_ret, blockS_exit, backS_ret, backS_exit, if_true]
  refine AX.sdregWV [4] (And.intro @hzz True.intro) (And.intro c3 (And.intro c4 (And.intro c5 True.intro))) (hq := ?_)
  refine AX.ret (And.intro (Or.inl rfl) ?_)
  exact Done.one rfl rfl rfl rfl

set_option maxHeartbeats 2000000 in
theorem qsame_ok {x y : V} {p q : Rat} {L : Nat} (hx : IsQ x p L) (hy : IsQ y q L) (hL : L < 2 ^ 36) : PCall Try.prog 34 [x, y] (.b (decide (p = q))) [] := by
  have c1 := qcmp_ok hx hy hL
  obtain ⟨s, a, b, rfl, ha, hb, hpq, hla, hlb⟩ := hx
  obtain ⟨t, c, d, rfl, hc, hd, hqq, hlc, hld⟩ := hy
  refine PCall.of_ax Try.call34 Try.func34 rfl (by simp [Try.ntmps34]) fun O w => ?_
  simp only [Try.ntmps34, Try.results34, argFr]
  have hz := cmpR_eq_zero (p := p) (q := q)
  generalize cmpR p q = Z at *
  refine AX.sregAV [2, 3] (hq := ?_)
  by_cases h : p = q
  · rw [decide_eq_true h]
    have hz0 := hz.2 h
    refine AX.sregCV [4] (And.intro c1 True.intro) (hq := ?_)
    refine AX.ret (And.intro (Or.inl rfl) ?_)
    exact Done.one rfl rfl rfl rfl
  · rw [decide_eq_false h]
    have hz0 : Z ≠ 0 := fun e => h (hz.1 e)
    refine AX.sregCV [4] (And.intro c1 True.intro) (hq := ?_)
    refine AX.ret (And.intro (Or.inl rfl) ?_)
    exact Done.one rfl rfl rfl rfl

set_option maxHeartbeats 2000000 in
theorem qneg_ok {x : V} {q : Rat} {L : Nat} (h : IsQ x q L) (hL : L < 2 ^ 36) : PCall Try.prog 77 [x] (rV (-q)) [] := by
  obtain ⟨s, a, b, rfl, ha, hb, rfl, hla, hlb⟩ := h
  refine PCall.of_ax Try.call77 Try.func77 rfl (by simp [Try.ntmps77]) fun O w => ?_
  simp only [Try.ntmps77, Try.results77, argFr]
  have c1 := made_ok (!s) a b ha hb (by omega) (by omega)
  rw [neg_rq]
  refine AX.sregAV [1, 2] (hq := ?_)
  refine AX.sregCV [2] (And.intro c1 True.intro) (hq := ?_)
  refine AX.ret (And.intro (Or.inl rfl) ?_)
  exact Done.cell rfl rfl

set_option maxHeartbeats 2000000 in
theorem qmul_ok {x y : V} {p q : Rat} {L : Nat} (hx : IsQ x p L) (hy : IsQ y q L) (hL : L < 2 ^ 34) : PCall Try.prog 45 [x, y] (rV (p * q)) [] := by
  obtain ⟨s, a, b, rfl, ha, hb, rfl, hla, hlb⟩ := hx
  obtain ⟨t, c, d, rfl, hc, hd, rfl, hlc, hld⟩ := hy
  refine PCall.of_ax Try.call45 Try.func45 rfl (by simp [Try.ntmps45]) fun O w => ?_
  simp only [Try.ntmps45, Try.results45, argFr]
  have c3 := mul_ok a c ha hc (by omega) (by omega)
  have c4 := mul_ok b d hb hd (by omega) (by omega)
  have l1 := digits_len_mul (val a) (val c)
  have l2 := digits_len_mul (val b) (val d)
  have e1 := digits_length_val ha
  have e2 := digits_length_val hb
  have e3 := digits_length_val hc
  have e4 := digits_length_val hd
  have c5 := made_ok (s != t) (digits (val a * val c)) (digits (val b * val d)) (Dg_digits _) (Dg_digits _) (by omega) (by omega)
  rw [val_digits, val_digits] at c5
  rw [mul_rq]
  refine AX.sregAV [2, 3, 4] (hq := ?_)
  refine AX.sdregCV [4] (And.intro c3 (And.intro c4 (And.intro c5 True.intro))) (hq := ?_)
  refine AX.ret (And.intro (Or.inl rfl) ?_)
  exact Done.cell rfl rfl

theorem qdiv_zero {p q : Rat} (h : q = 0) : p / q = 0 := by rw [h, Rat.div_def, Rat.inv_zero, Rat.mul_zero]
/-- What Div gives. -/
def qdivV (p q : Rat) : V := if q = 0 then .tup [zR, .i .i64 31] else .tup [rV (p / q), .i .i64 0]
theorem sgnR_eq_zero {q : Rat} : sgnR q = 0 ↔ q = 0 := by
  unfold sgnR
  by_cases h : q < 0
  · rw [if_pos h]
    constructor
    · intro h2; omega
    · intro h2; subst h2; exact absurd h Rat.lt_irrefl
  · rw [if_neg h]
    by_cases h2 : q = 0
    · simp [h2]
    · simp [h2]

set_option maxRecDepth 20000 in
set_option maxHeartbeats 2000000 in
theorem qdiv_ok {x y : V} {p q : Rat} {L : Nat} (hx : IsQ x p L) (hy : IsQ y q L) (hL : L < 2 ^ 34) : PCall Try.prog 94 [x, y] (qdivV p q) [] := by
  have c1 := sign_ok hy (by omega)
  obtain ⟨s, a, b, rfl, ha, hb, rfl, hla, hlb⟩ := hx
  obtain ⟨t, c, d, rfl, hc, hd, hq, hlc, hld⟩ := hy
  refine PCall.of_ax Try.call94 Try.func94 rfl (by simp [Try.ntmps94]) fun O w => ?_
  simp only [Try.ntmps94, Try.results94, argFr]
  have c3 := mul_ok a d ha hd (by omega) (by omega)
  have c4 := mul_ok b c hb hc (by omega) (by omega)
  have l1 := digits_len_mul (val a) (val d)
  have l2 := digits_len_mul (val b) (val c)
  have e1 := digits_length_val ha
  have e2 := digits_length_val hb
  have e3 := digits_length_val hc
  have e4 := digits_length_val hd
  have c5 := made_ok (s != t) (digits (val a * val d)) (digits (val b * val c)) (Dg_digits _) (Dg_digits _) (by omega) (by omega)
  rw [val_digits, val_digits, ← div_rq, hq] at c5
  have hz := sgnR_eq_zero (q := q)
  generalize sgnR q = Z at *
  unfold qdivV
  refine AX.sregAV [2, 3, 4, 5] (hq := ?_)
  refine AX.seq ?_
  by_cases h0 : q = 0
  · rw [if_pos h0]
    have hz0 := hz.2 h0
    refine AX.sregCV [2, 3, 4, 8] (And.intro c1 True.intro) (hq := ?_)
    refine AX.condT (h := ?_)
    refine AX.sregAV [4, 5] (hq := ?_)
    refine AX.ret (And.intro (Or.inl rfl) ?_)
    exact Done.cellZ rfl rfl rfl
  · rw [if_neg h0]
    have hz0 : Z ≠ 0 := fun e => h0 (hz.1 e)
    refine AX.sregCV [2, 3, 4, 8] (And.intro c1 True.intro) (hq := ?_)
    refine AX.condF (h := ?_)
    refine AX.keepA [2, 3, 4] (h := ?_)
    refine AX.skip ?_
    try simp only [thenS_normal, thenS_ret, thenS_exit, blockS_normal, blockS_ret, blockS_exit, backS_ret, backS_exit, if_true]
    refine AX.sdregCV [4, 5] (And.intro c3 (And.intro c4 (And.intro c5 True.intro))) (hq := ?_)
    refine AX.ret (And.intro (Or.inl rfl) ?_)
    exact Done.cellE rfl rfl rfl

end Go.Proofs.Ytepkjfnffbdcoaa
