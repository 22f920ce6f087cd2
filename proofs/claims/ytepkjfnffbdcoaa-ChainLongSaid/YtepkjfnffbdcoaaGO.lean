/- Strings as values: bytes, equality, slices; what Parse computes. -/
import Derived.Test.YtepkjfnffbdcoaaGI
import Derived.ChangeKeysEq
set_option linter.unusedVariables false
set_option maxRecDepth 20000
set_option linter.unusedSimpArgs false
namespace Go.Proofs.Ytepkjfnffbdcoaa
open Go Go.Proofs.Ytepkjfnffbdcoaa.Lift
attribute [local irreducible] Lift.PCall Lift.HCall

theorem under_str : Try.prog.underlying 9 = some .string := by kernel_rfl
/-- A byte of a string. -/
def bt (s : ByteArray) (j : Nat) : Nat := (s.data.getD j 0).toNat
theorem bt_lt (s : ByteArray) (j : Nat) : bt s j < 256 := (s.data.getD j 0).toNat_lt
theorem effStr {P : Program} {t y' : TypeId} {x y : Operand} {a b : ByteArray} {c : Bool} (h : decide (a = b) = c) : eff P (.binOp .eql t x y y') [.s a, .s b] = some (.val (.b c)) := by
  have : (a.toList == b.toList) = decide (a = b) := by
    rw [ByteArray.toList_eq, ByteArray.toList_eq]
    by_cases e : a = b
    · subst e
      simp
    · rw [decide_eq_false e]
      apply beq_false_of_ne
      intro h2
      apply e
      apply ByteArray.ext
      exact Array.toList_inj.1 h2
  subst h
  show some (Eff.val (.b (a.toList == b.toList))) = _
  rw [this]
theorem effIx {s : ByteArray} {x y : Operand} {j : Nat} (hj : j < s.size) : eff Try.prog (.index 9 x y) [.s s, .i .i64 (j : Int)] = some (.val (.i .u8 ((bt s j : Nat) : Int))) := by
  simp only [eff, effIndex, under_str]
  rw [if_pos ⟨Int.natCast_nonneg j, by omega⟩]
  rfl
theorem effIx0 {s : ByteArray} {x y : Operand} (hj : 0 < s.size) : eff Try.prog (.index 9 x y) [.s s, .i .i64 0] = some (.val (.i .u8 ((bt s 0 : Nat) : Int))) := effIx (j := 0) hj
theorem bt_extract {s : ByteArray} {p q j : Nat} (h : p + j < q) (hq : q ≤ s.size) : bt (s.extract p q) j = bt s (p + j) := by
  unfold bt
  rw [ByteArray.data_extract, Array.getD_eq_getD_getElem?, Array.getD_eq_getD_getElem?, Array.getElem?_extract, if_pos]
  have : q ≤ s.data.size := hq
  omega
theorem extract_all (s : ByteArray) : s.extract 0 s.size = s := by
  apply ByteArray.ext
  rw [ByteArray.data_extract]
  have : s.size = s.data.size := rfl
  rw [this, Array.extract_size]
theorem extract_extract {s : ByteArray} {p n : Nat} (h : p + n ≤ s.size) : (s.extract p s.size).extract n (s.size - p) = s.extract (p + n) s.size := by
  apply ByteArray.ext
  simp only [ByteArray.data_extract, Array.extract_extract]
  congr 1
  omega
theorem size_ext {s : ByteArray} {p : Nat} : (s.extract p s.size).size = s.size - p := by simp [ByteArray.size_extract]
theorem size_zero {s : ByteArray} : s = ⟨#[]⟩ ↔ s.size = 0 := by
  constructor
  · rintro rfl; rfl
  · intro h
    apply ByteArray.ext
    exact Array.eq_empty_of_size_eq_zero h

/-- The value of the first p decimal digits. -/
def dv (s : ByteArray) : Nat → Nat
  | 0 => 0
  | p + 1 => dv s p * 10 + (bt s p - 48)
/-- All bytes are decimal digits. -/
def Dgt (s : ByteArray) : Prop := ∀ j, j < s.size → 48 ≤ bt s j ∧ bt s j ≤ 57
open Classical in
noncomputable def parE (s : ByteArray) : Int := if s.size = 0 ∨ (bt s 0 = 48 ∧ 1 < s.size) then 33 else if ¬ Dgt s then 33 else if 20000 < s.size then 2 else 0
open Classical in
noncomputable def parN (s : ByteArray) : Nat := if parE s = 0 then dv s s.size else 0
theorem par_head {s : ByteArray} (h : s.size = 0 ∨ (bt s 0 = 48 ∧ 1 < s.size)) : parE s = 33 ∧ parN s = 0 := by
  have : parE s = 33 := if_pos h
  exact ⟨this, by unfold parN; rw [this]; rfl⟩
theorem par_bad {s : ByteArray} (h : ¬ Dgt s) : parE s = 33 ∧ parN s = 0 := by
  have : parE s = 33 := by
    unfold parE
    split
    · rfl
    · rfl
  exact ⟨this, by unfold parN; rw [this]; rfl⟩
theorem par_long {s : ByteArray} (h0 : ¬ (s.size = 0 ∨ (bt s 0 = 48 ∧ 1 < s.size))) (h : Dgt s) (hl : 20000 < s.size) : parE s = 2 ∧ parN s = 0 := by
  have : parE s = 2 := by
    unfold parE
    rw [if_neg h0, if_neg (not_not_intro h), if_pos hl]
  exact ⟨this, by unfold parN; rw [this]; rfl⟩
theorem par_good {s : ByteArray} (h0 : ¬ (s.size = 0 ∨ (bt s 0 = 48 ∧ 1 < s.size))) (h : Dgt s) (hl : ¬ 20000 < s.size) : parE s = 0 ∧ parN s = dv s s.size := by
  have : parE s = 0 := by
    unfold parE
    rw [if_neg h0, if_neg (not_not_intro h), if_neg hl]
  exact ⟨this, by unfold parN; rw [this]; rfl⟩
theorem dv_lt {s : ByteArray} (h : Dgt s) : ∀ p, p ≤ s.size → dv s p < 10 ^ p := by
  intro p
  induction p with
  | zero => intro _; exact Nat.one_pos
  | succ p ih =>
    intro hp
    have h1 := ih (by omega)
    have h2 := h p (by omega)
    show dv s p * 10 + (bt s p - 48) < _
    rw [Nat.pow_succ]
    omega
theorem dv_pos {s : ByteArray} (h : Dgt s) (h0 : bt s 0 ≠ 48) : ∀ p, 0 < p → p ≤ s.size → 0 < dv s p := by
  intro p
  induction p with
  | zero => intro h; omega
  | succ p ih =>
    intro _ hp
    show 0 < dv s p * 10 + (bt s p - 48)
    by_cases hp0 : p = 0
    · subst hp0
      have := h 0 (by omega)
      omega
    · have := ih (by omega) (by omega)
      omega
theorem dv_lenK {s : ByteArray} (h : Dgt s) {K : Nat} (hs : s.size ≤ K) {p : Nat} (hp : p ≤ s.size) : (digits (dv s p)).length ≤ K := by
  apply digits_length_le
  have h1 := dv_lt h p hp
  have h2 : 10 ^ p ≤ 10 ^ K := Nat.pow_le_pow_right (by omega) (by omega)
  have h3 : (10 : Nat) ^ K ≤ 4294967296 ^ K := Nat.pow_le_pow_left (by omega) _
  omega
theorem dv_len {s : ByteArray} (h : Dgt s) (hs : s.size ≤ 20000) {p : Nat} (hp : p ≤ s.size) : (digits (dv s p)).length ≤ 20000 := dv_lenK h hs hp

/-- A row that is no longer than its number wants is the number's own. -/
theorem digits_of {l : List Nat} (h : Dg l) (h0 : l = [] ∨ 4294967296 ^ (l.length - 1) ≤ val l) : l = digits (val l) := by
  refine canon_unique _ _ h (Dg_digits _) (fun hne => ?_) (digits_canon _) (by rw [val_digits])
  have hl := List.length_pos_iff.2 hne
  have h1 := h0.resolve_left hne
  intro hz
  have e1 := val_take_drop l (l.length - 1) (by omega)
  have e2 := val_drop_step l (l.length - 1) (by omega)
  rw [show l.length - 1 + 1 = l.length by omega, List.drop_length, hz] at e2
  have e3 := val_lt (Dg_take h (l.length - 1))
  rw [List.length_take, Nat.min_eq_left (by omega)] at e3
  rw [e2] at e1
  simp [val] at e1
  omega
end Go.Proofs.Ytepkjfnffbdcoaa

/- Parse. -/
set_option linter.unusedVariables false
set_option linter.unusedSimpArgs false
namespace Go.Proofs.Ytepkjfnffbdcoaa
open Go Go.Proofs.Ytepkjfnffbdcoaa.Lift
attribute [local irreducible] Lift.PCall Lift.HCall

theorem min9 (c : Nat) : (if (9 : Int) < (c : Int) then (9 : Int) else (c : Int)) = ((min c 9 : Nat) : Int) := by
  split <;> omega
theorem mul10 (n : Nat) : (n : Int) * 10 = ((n * 10 : Nat) : Int) := by omega
theorem Lift.Done.ownE {P : Program} {st : St} {t t' : Tmp} {h len : Nat} {l r : List Nat} {T : TypeId} {e : Int} (h1 : lkp st.fr t = some (.own h 0 len 1)) (h1' : lkp st.fr t' = some (.i .i64 e)) (h2 : lkp st.hp h = some ⟨T, l.map u⟩) (h3 : len = l.length) (h4 : l = r) : Done P #[.tmp t, .tmp t'] (.tup [dg r, .i .i64 e]) [] st := by
  subst h4
  refine Done.of (vs := [.own h 0 len 1, .i .i64 e]) (by simp only [resVs, resV, h1, h1']) (by have hf := frz_u (keep := []) (by simp) h2 h3; simp only [packV]; rw [frz, frzL, hf]; simp only [frzL, frz]; rfl) rfl (by simp only [V.lt, V.ltL, ltL_u]; rfl) (by simp only [V.ren, V.renL, renL_u])
/-- One digit of the multiplication by a small number. -/
theorem carry_step {X X' P c S x T by' add : Nat} (h : X + P * c = T * by' + add) (hX : X' = X + P * (S % 4294967296)) (hS : S = c + x * by') : X' + P * 4294967296 * (S / 4294967296) = (T + P * x) * by' + add := by
  have e1 : P * S = P * (4294967296 * (S / 4294967296)) + P * (S % 4294967296) := by rw [← Nat.mul_add, Nat.div_add_mod]
  have e2 : P * S = P * c + P * (x * by') := by rw [hS, Nat.mul_add]
  have e3 : P * 4294967296 * (S / 4294967296) = P * (4294967296 * (S / 4294967296)) := Nat.mul_assoc _ _ _
  have e4 : (T + P * x) * by' = T * by' + P * (x * by') := by rw [Nat.add_mul, Nat.mul_assoc]
  omega
theorem carry_lt {x by' c : Nat} (hx : x < 4294967296) (hc : c < by') : (c + x * by') / 4294967296 < by' := by
  rw [Nat.div_lt_iff_lt_mul (by omega)]
  have : (x + 1) * by' ≤ 4294967296 * by' := Nat.mul_le_mul_right _ hx
  rw [Nat.add_mul, Nat.one_mul] at this
  rw [Nat.mul_comm by']
  omega

theorem u8sub {b : Nat} (h1 : 48 ≤ b) (h2 : b ≤ 57) : IntKind.u8.wrap ((b : Int) - 48) = ((b - 48 : Nat) : Int) := by
  have e : (b : Int) - 48 = ((b - 48 : Nat) : Int) := by omega
  rw [e, u8n _ (by omega)]
theorem effSl {s : ByteArray} {n : Nat} {x y : Operand} (h : n ≤ s.size) : eff Try.prog (.slice 9 x (some y) none none) [.s s, .i .i64 (n : Int)] = some (.val (.s (s.extract n s.size))) := by
  simp only [eff, effSlice, lowHigh, sliceV, under_str, bound, Option.isSome]
  rw [if_pos ⟨by omega, by omega, by omega⟩]
  rfl

end Go.Proofs.Ytepkjfnffbdcoaa
