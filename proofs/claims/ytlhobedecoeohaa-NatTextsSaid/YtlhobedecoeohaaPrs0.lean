/- Strings as values: bytes, equality, slices; what Parse computes. -/
import Derived.Test.YtlhobedecoeohaaNat8
import Derived.ChangeKeysEq
set_option linter.unusedVariables false
set_option linter.unusedSimpArgs false
namespace Go.Proofs.Ytlhobedecoeohaa
open Go Go.Proofs.Ytlhobedecoeohaa.Lift

theorem under_str : Try.prog.underlying 9 = some .string := by kernel_rfl
/-- A byte of a string. -/
def bt (s : ByteArray) (j : Nat) : Nat := (s.data.getD j 0).toNat
theorem bt_lt (s : ByteArray) (j : Nat) : bt s j < 256 := (s.data.getD j 0).toNat_lt
theorem effStr {P : Program} {t y' : TypeId} {x y : Operand} {a b : ByteArray} {c : Bool} (h : decide (a = b) = c) : eff P (.binOp .eql t x y y') [.s a, .s b] = some (.val (.b c)) := by
  have : (a.toList == b.toList) = decide (a = b) := by
    rw [ByteArray.toList_eq, ByteArray.toList_eq]
    by_cases e : a = b
    · subst e
      simp
    · rw [decide_eq_false e]
      apply beq_false_of_ne
      intro h2
      apply e
      apply ByteArray.ext
      exact Array.toList_inj.1 h2
  subst h
  show some (Eff.val (.b (a.toList == b.toList))) = _
  rw [this]
theorem effIx {s : ByteArray} {x y : Operand} {j : Nat} (hj : j < s.size) : eff Try.prog (.index 9 x y) [.s s, .i .i64 (j : Int)] = some (.val (.i .u8 ((bt s j : Nat) : Int))) := by
  simp only [eff, effIndex, under_str]
  rw [if_pos ⟨Int.natCast_nonneg j, by omega⟩]
  rfl
theorem effIx0 {s : ByteArray} {x y : Operand} (hj : 0 < s.size) : eff Try.prog (.index 9 x y) [.s s, .i .i64 0] = some (.val (.i .u8 ((bt s 0 : Nat) : Int))) := effIx (j := 0) hj
theorem bt_extract {s : ByteArray} {p q j : Nat} (h : p + j < q) (hq : q ≤ s.size) : bt (s.extract p q) j = bt s (p + j) := by
  unfold bt
  rw [ByteArray.data_extract, Array.getD_eq_getD_getElem?, Array.getD_eq_getD_getElem?, Array.getElem?_extract, if_pos]
  have : q ≤ s.data.size := hq
  omega
theorem extract_all (s : ByteArray) : s.extract 0 s.size = s := by
  apply ByteArray.ext
  rw [ByteArray.data_extract]
  have : s.size = s.data.size := rfl
  rw [this, Array.extract_size]
theorem extract_extract {s : ByteArray} {p n : Nat} (h : p + n ≤ s.size) : (s.extract p s.size).extract n (s.size - p) = s.extract (p + n) s.size := by
  apply ByteArray.ext
  simp only [ByteArray.data_extract, Array.extract_extract]
  congr 1
  omega
theorem size_ext {s : ByteArray} {p : Nat} : (s.extract p s.size).size = s.size - p := by simp [ByteArray.size_extract]
theorem size_zero {s : ByteArray} : s = ⟨#[]⟩ ↔ s.size = 0 := by
  constructor
  · rintro rfl; rfl
  · intro h
    apply ByteArray.ext
    exact Array.eq_empty_of_size_eq_zero h

/-- The value of the first p decimal digits. -/
def dv (s : ByteArray) : Nat → Nat
  | 0 => 0
  | p + 1 => dv s p * 10 + (bt s p - 48)
/-- All bytes are decimal digits. -/
def Dgt (s : ByteArray) : Prop := ∀ j, j < s.size → 48 ≤ bt s j ∧ bt s j ≤ 57
open Classical in
noncomputable def parE (s : ByteArray) : Int := if s.size = 0 ∨ (bt s 0 = 48 ∧ 1 < s.size) then 33 else if ¬ Dgt s then 33 else if 20000 < s.size then 2 else 0
open Classical in
noncomputable def parN (s : ByteArray) : Nat := if parE s = 0 then dv s s.size else 0
theorem par_head {s : ByteArray} (h : s.size = 0 ∨ (bt s 0 = 48 ∧ 1 < s.size)) : parE s = 33 ∧ parN s = 0 := by
  have : parE s = 33 := if_pos h
  exact ⟨this, by unfold parN; rw [this]; rfl⟩
theorem par_bad {s : ByteArray} (h : ¬ Dgt s) : parE s = 33 ∧ parN s = 0 := by
  have : parE s = 33 := by
    unfold parE
    split
    · rfl
    · rfl
  exact ⟨this, by unfold parN; rw [this]; rfl⟩
theorem par_long {s : ByteArray} (h0 : ¬ (s.size = 0 ∨ (bt s 0 = 48 ∧ 1 < s.size))) (h : Dgt s) (hl : 20000 < s.size) : parE s = 2 ∧ parN s = 0 := by
  have : parE s = 2 := by
    unfold parE
    rw [if_neg h0, if_neg (not_not_intro h), if_pos hl]
  exact ⟨this, by unfold parN; rw [this]; rfl⟩
theorem par_good {s : ByteArray} (h0 : ¬ (s.size = 0 ∨ (bt s 0 = 48 ∧ 1 < s.size))) (h : Dgt s) (hl : ¬ 20000 < s.size) : parE s = 0 ∧ parN s = dv s s.size := by
  have : parE s = 0 := by
    unfold parE
    rw [if_neg h0, if_neg (not_not_intro h), if_neg hl]
  exact ⟨this, by unfold parN; rw [this]; rfl⟩
theorem dv_lt {s : ByteArray} (h : Dgt s) : ∀ p, p ≤ s.size → dv s p < 10 ^ p := by
  intro p
  induction p with
  | zero => intro _; exact Nat.one_pos
  | succ p ih =>
    intro hp
    have h1 := ih (by omega)
    have h2 := h p (by omega)
    show dv s p * 10 + (bt s p - 48) < _
    rw [Nat.pow_succ]
    omega
theorem dv_pos {s : ByteArray} (h : Dgt s) (h0 : bt s 0 ≠ 48) : ∀ p, 0 < p → p ≤ s.size → 0 < dv s p := by
  intro p
  induction p with
  | zero => intro h; omega
  | succ p ih =>
    intro _ hp
    show 0 < dv s p * 10 + (bt s p - 48)
    by_cases hp0 : p = 0
    · subst hp0
      have := h 0 (by omega)
      omega
    · have := ih (by omega) (by omega)
      omega
theorem dv_lenK {s : ByteArray} (h : Dgt s) {K : Nat} (hs : s.size ≤ K) {p : Nat} (hp : p ≤ s.size) : (digits (dv s p)).length ≤ K := by
  apply digits_length_le
  have h1 := dv_lt h p hp
  have h2 : 10 ^ p ≤ 10 ^ K := Nat.pow_le_pow_right (by omega) (by omega)
  have h3 : (10 : Nat) ^ K ≤ 4294967296 ^ K := Nat.pow_le_pow_left (by omega) _
  omega
theorem dv_len {s : ByteArray} (h : Dgt s) (hs : s.size ≤ 20000) {p : Nat} (hp : p ≤ s.size) : (digits (dv s p)).length ≤ 20000 := dv_lenK h hs hp

/-- A row that is no longer than its number wants is the number's own. -/
theorem digits_of {l : List Nat} (h : Dg l) (h0 : l = [] ∨ 4294967296 ^ (l.length - 1) ≤ val l) : l = digits (val l) := by
  refine canon_unique _ _ h (Dg_digits _) (fun hne => ?_) (digits_canon _) (by rw [val_digits])
  have hl := List.length_pos_iff.2 hne
  have h1 := h0.resolve_left hne
  intro hz
  have e1 := val_take_drop l (l.length - 1) (by omega)
  have e2 := val_drop_step l (l.length - 1) (by omega)
  rw [show l.length - 1 + 1 = l.length by omega, List.drop_length, hz] at e2
  have e3 := val_lt (Dg_take h (l.length - 1))
  rw [List.length_take, Nat.min_eq_left (by omega)] at e3
  rw [e2] at e1
  simp [val] at e1
  omega
end Go.Proofs.Ytlhobedecoeohaa
