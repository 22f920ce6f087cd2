/- Plain facts: bits, comparisons, words. -/
import Derived.Test.YtlhobedecoeohaaNatM
set_option linter.unusedVariables false
set_option linter.unusedSimpArgs false
namespace Go.Proofs.Ytlhobedecoeohaa
open Go Go.Proofs.Ytlhobedecoeohaa.Lift

/-- How many binary digits. -/
def blen (n : Nat) : Nat := if n = 0 then 0 else n.log2 + 1
theorem blen_zero : blen 0 = 0 := rfl
theorem blen_iff {n m : Nat} (hm : 0 < m) : blen n = m ↔ 2 ^ (m - 1) ≤ n ∧ n < 2 ^ m := by
  obtain ⟨k, rfl⟩ : ∃ k, m = k + 1 := ⟨m - 1, by omega⟩
  unfold blen
  by_cases h : n = 0
  · subst h
    simp
  · rw [if_neg h, Nat.add_sub_cancel, ← Nat.log2_eq_iff h]
    omega
theorem blen_pos {n : Nat} (h : n ≠ 0) : 0 < blen n := by
  unfold blen; rw [if_neg h]; omega
theorem blen_spec {n : Nat} (h : n ≠ 0) : 2 ^ (blen n - 1) ≤ n ∧ n < 2 ^ blen n := (blen_iff (blen_pos h)).1 rfl
theorem lt_blen (n : Nat) : n < 2 ^ blen n := by
  by_cases h : n = 0
  · subst h; simp [blen]
  · exact (blen_spec h).2
theorem blen_le {n k : Nat} (h : n < 2 ^ k) : blen n ≤ k := by
  by_cases h0 : n = 0
  · subst h0; simp [blen]
  · have := (blen_spec h0).1
    have h1 : 2 ^ (blen n - 1) < 2 ^ k := Nat.lt_of_le_of_lt this h
    have := (Nat.pow_lt_pow_iff_right (by omega : 1 < 2)).1 h1
    omega
theorem blen_half {n : Nat} (h : n ≠ 0) : blen n = blen (n / 2) + 1 := by
  obtain ⟨h1, h2⟩ := blen_spec h
  have hp := blen_pos h
  obtain ⟨k, hk⟩ : ∃ k, blen n = k + 1 := ⟨blen n - 1, by omega⟩
  rw [hk] at h1 h2 ⊢
  rw [Nat.add_sub_cancel] at h1
  by_cases hk0 : k = 0
  · subst hk0
    have : n / 2 = 0 := by simp at h2; omega
    rw [this, blen_zero]
  · have : blen (n / 2) = k := by
      rw [blen_iff (by omega)]
      obtain ⟨j, rfl⟩ : ∃ j, k = j + 1 := ⟨k - 1, by omega⟩
      rw [Nat.add_sub_cancel]
      rw [Nat.pow_succ] at h1 h2
      omega
    rw [this]
theorem blen_shift {n : Nat} (s : Nat) (h : n / 2 ^ s ≠ 0) : blen n = blen (n / 2 ^ s) + s := by
  induction s generalizing n with
  | zero => simp
  | succ s ih =>
    have e : n / 2 ^ (s + 1) = n / 2 / 2 ^ s := by rw [Nat.pow_succ, Nat.mul_comm, Nat.div_div_eq_div_mul]
    rw [e] at h ⊢
    have hn : n ≠ 0 := by rintro rfl; simp at h
    rw [blen_half hn, ih h]
    omega
theorem blen_digits {n : Nat} (h : n ≠ 0) : blen n = 32 * ((digits n).length - 1) + blen ((digits n).getD ((digits n).length - 1) 0) := by
  induction n using Nat.strongRecOn with
  | _ n ih =>
    rw [digits_pos h]
    by_cases h1 : n / 4294967296 = 0
    · rw [h1, digits_zero]
      simp
      congr 1
      omega
    · have h2 := ih _ (by omega) h1
      have h3 : blen n = blen (n / 2 ^ 32) + 32 := blen_shift 32 (by simpa using h1)
      have h4 : (digits (n / 4294967296)).length ≠ 0 := by rw [digits_pos h1]; simp
      rw [h3]
      rw [show (2 : Nat) ^ 32 = 4294967296 from rfl, h2]
      obtain ⟨k, hk⟩ := Nat.exists_eq_succ_of_ne_zero h4
      rw [List.length_cons, hk]
      simp
      omega
theorem blen_digits_le (n : Nat) : blen n ≤ 32 * (digits n).length := by
  apply blen_le
  have := lt_pow_digits n
  rwa [show (4294967296 : Nat) = 2 ^ 32 from rfl, ← Nat.pow_mul] at this

/-! ### Comparisons -/
def cmp (m n : Nat) : Int := if m < n then -1 else if m = n then 0 else 1
theorem cmp_lt {m n : Nat} (h : m < n) : cmp m n = -1 := if_pos h
theorem cmp_gt {m n : Nat} (h : n < m) : cmp m n = 1 := by unfold cmp; rw [if_neg (by omega), if_neg (by omega)]
theorem cmp_eq (m : Nat) : cmp m m = 0 := by simp [cmp]
theorem digits_len_lt {m n : Nat} (h : (digits m).length < (digits n).length) : m < n := by
  apply Nat.lt_of_not_le
  intro h1
  have := digits_len_mono h1
  omega
theorem val_lt_at {a b : List Nat} (ha : Dg a) (hb : Dg b) (hl : a.length = b.length) {i : Nat} (hi : i < a.length) (he : ∀ j, i < j → j < a.length → a.getD j 0 = b.getD j 0) (h : a.getD i 0 < b.getD i 0) : val a < val b := by
  have e : a.drop (i + 1) = b.drop (i + 1) := by
    apply List.ext_getElem (by simp [hl])
    intro j h1 h2
    simp only [List.length_drop] at h1
    have := he (i + 1 + j) (by omega) (by omega)
    rw [List.getElem_drop, List.getElem_drop]
    rw [List.getD_eq_getElem?_getD, List.getD_eq_getElem?_getD, List.getElem?_eq_getElem (by omega), List.getElem?_eq_getElem (by omega)] at this
    exact this
  rw [val_take_drop a i (by omega), val_take_drop b i (by omega), val_drop_step a i hi, val_drop_step b i (by omega), e]
  have h1 := val_lt (Dg_take ha i)
  rw [List.length_take, Nat.min_eq_left (by omega)] at h1
  have h2 : 4294967296 ^ i * (a.getD i 0 + 4294967296 * val (b.drop (i + 1)) + 1) ≤ 4294967296 ^ i * (b.getD i 0 + 4294967296 * val (b.drop (i + 1))) := Nat.mul_le_mul_left _ (by omega)
  rw [Nat.mul_add _ _ 1, Nat.mul_one] at h2
  omega
theorem eq_of_getD {a b : List Nat} (hl : a.length = b.length) (he : ∀ j, j < a.length → a.getD j 0 = b.getD j 0) : a = b := by
  apply List.ext_getElem hl
  intro j h1 h2
  have := he j h1
  simpa [List.getD_eq_getElem?_getD, h1, h2] using this

theorem getD_out {l : List Nat} {i : Nat} (h : l.length ≤ i) : l.getD i 0 = 0 := by
  rw [List.getD_eq_getElem?_getD, List.getElem?_eq_none h]; rfl
theorem take_out_val (l : List Nat) (i : Nat) (h : l.length ≤ i) : val (l.take (i + 1)) = val (l.take i) := by
  rw [List.take_of_length_le h, List.take_of_length_le (by omega)]
theorem val_take_step (l : List Nat) (i : Nat) : val (l.take (i + 1)) = val (l.take i) + 4294967296 ^ i * l.getD i 0 := by
  by_cases h : i < l.length
  · exact val_take_succ l i h
  · rw [take_out_val l i (by omega), getD_out (by omega)]; simp
/-- One digit more of a running sum. -/
theorem sum_step {o : List Nat} {i s : Nat} (ho : o.length = i) (hs : s < 18446744073709551616) : val (o ++ [s % 4294967296]) + 4294967296 ^ (i + 1) * (s / 4294967296) = val o + 4294967296 ^ i * s := by
  rw [val_append, ho]
  simp only [val, Nat.mul_zero, Nat.add_zero]
  have : s = s % 4294967296 + 4294967296 * (s / 4294967296) := by omega
  conv => rhs; rw [this]
  rw [Nat.mul_add, Nat.pow_succ, Nat.mul_assoc]
  omega

theorem take_set_succ (r : List Nat) (i v : Nat) (h : i < r.length) : (r.set i v).take (i + 1) = r.take i ++ [v] := by
  rw [take_succ_getD _ i (by simpa using h)]
  congr 1
  · rw [List.take_set_of_le (Nat.le_refl _)]
  · simp [List.getD_eq_getElem?_getD, h]
theorem val_take_le (l : List Nat) (i : Nat) : val (l.take i) ≤ val l := by
  by_cases h : i ≤ l.length
  · rw [val_take_drop l i h]; omega
  · rw [List.take_of_length_le (by omega)]; exact Nat.le_refl _
theorem val_take_all {l : List Nat} {i : Nat} (h : val l < 4294967296 ^ i) : val (l.take i) = val l := by
  by_cases h1 : i ≤ l.length
  · have h2 := val_take_drop l i h1
    have : val (l.drop i) = 0 := by
      apply Nat.eq_zero_of_not_pos
      intro hp
      have : 4294967296 ^ i * 1 ≤ 4294967296 ^ i * val (l.drop i) := Nat.mul_le_mul_left _ hp
      omega
    rw [this] at h2
    omega
  · rw [List.take_of_length_le (by omega)]
/-- One digit more of a running difference. -/
theorem diff_step {p q B x y w w' v r : Nat} (h : r + q = p + B * w) (hv : v + (y + w) = x + 4294967296 * w') : (r + B * v) + (q + B * y) = (p + B * x) + B * 4294967296 * w' := by
  have h1 : B * v + (B * y + B * w) = B * x + B * 4294967296 * w' := by
    rw [← Nat.mul_add, ← Nat.mul_add, hv, Nat.mul_add, Nat.mul_assoc]
  omega
theorem diff_end {r b a B w : Nat} (hr : r < B) (h : r + b = a + B * w) (hba : b ≤ a) : r = a - b := by
  cases w with
  | zero => omega
  | succ w =>
    rw [Nat.mul_succ] at h
    omega
theorem sub_cast {a b : Nat} (h : b ≤ a) : (a : Int) - (b : Int) = ((a - b : Nat) : Int) := by omega

theorem val_set (r : List Nat) (j v : Nat) (h : j < r.length) : val (r.set j v) + 4294967296 ^ j * r.getD j 0 = val r + 4294967296 ^ j * v := by
  induction r generalizing j with
  | nil => simp at h
  | cons x r ih =>
    cases j with
    | zero => simp [val]; omega
    | succ j =>
      simp only [List.length_cons] at h
      have := ih j (by omega)
      simp only [List.set_cons_succ, val, List.getD_cons_succ, Nat.pow_succ]
      rw [Nat.mul_comm (4294967296 ^ j) 4294967296, Nat.mul_assoc, Nat.mul_assoc]
      omega
/-- One digit more of a running product. -/
theorem mul_step {R R' P c s rj xy : Nat} (h1 : R' + P * rj = R + P * (s % 4294967296)) (hs : c + (rj + xy) = s) : R' + P * 4294967296 * (s / 4294967296) = R + P * c + P * xy := by
  have h2 : P * s = P * (s % 4294967296) + P * 4294967296 * (s / 4294967296) := by
    rw [Nat.mul_assoc, ← Nat.mul_add]
    congr 1
    omega
  have h3 : P * s = P * c + (P * rj + P * xy) := by rw [← Nat.mul_add, ← Nat.mul_add, hs]
  omega
theorem mul_inner {R R' V0 Bi Bk c c' x y Y : Nat} (h : R + Bi * Bk * c = V0 + Bi * (x * Y)) (h2 : R' + Bi * Bk * 4294967296 * c' = R + Bi * Bk * c + Bi * Bk * (x * y)) : R' + Bi * (Bk * 4294967296) * c' = V0 + Bi * (x * (Y + Bk * y)) := by
  grind
theorem mul_bound {x y : Nat} (hx : x < 4294967296) (hy : y < 4294967296) : x * y ≤ 18446744065119617025 := by
  have := Nat.mul_le_mul (show x ≤ 4294967295 by omega) (show y ≤ 4294967295 by omega)
  omega
theorem mul_outer {R R' V Y P Q c x : Nat} (h : R + P * Q * c = V * Y + P * (x * Y)) (h2 : R' = R + P * Q * c) : R' = (V + P * x) * Y := by
  grind

theorem drop_set_self (r : List Nat) (k v : Nat) (h : k < r.length) : (r.set k v).drop k = v :: r.drop (k + 1) := by
  rw [List.drop_eq_getElem_cons (by simpa using h)]
  simp [List.drop_set_of_lt]
theorem short_step {A Q R d x q R' s : Nat} (h : A = d * Q + R) (hs : R * 4294967296 + x = s) (hq : q = s / d) (hR : R' = s % d) : x + 4294967296 * A = d * (q + 4294967296 * Q) + R' := by
  subst h hq hR
  have := Nat.div_add_mod s d
  rw [Nat.mul_add, Nat.mul_add, Nat.mul_left_comm d 4294967296 Q]
  omega
theorem short_lt {R d x : Nat} (h : R < d) (hx : x < 4294967296) : (R * 4294967296 + x) / d < 4294967296 := by
  rw [Nat.div_lt_iff_lt_mul (by omega)]
  have : (R + 1) * 4294967296 ≤ d * 4294967296 := Nat.mul_le_mul_right _ h
  rw [Nat.mul_comm 4294967296 d]
  omega
theorem divmod_unique {n d q r : Nat} (h : n = d * q + r) (hr : r < d) : q = n / d ∧ r = n % d := by
  subst h
  rw [Nat.mul_add_div (by omega), Nat.div_eq_of_lt hr, Nat.mul_add_mod, Nat.mod_eq_of_lt hr]
  exact ⟨rfl, rfl⟩

/-! ### Words -/
theorem shr32 (n : Nat) : Int.fdiv (n : Int) (2 ^ (min 32 64)) = ((n / 4294967296 : Nat) : Int) := by
  have : ((2 : Int) ^ (min 32 64)) = ((4294967296 : Nat) : Int) := by decide
  rw [this]
  exact (Int.ofNat_fdiv n 4294967296).symm
theorem shr_nat (n k : Nat) : Int.fdiv (n : Int) (2 ^ k) = ((n / 2 ^ k : Nat) : Int) := by
  have : ((2 : Int) ^ k) = ((2 ^ k : Nat) : Int) := by simp
  rw [this]
  exact (Int.ofNat_fdiv n (2 ^ k)).symm
theorem tab_fact {s : ByteArray} (hs : ((List.range 256).all fun z => decide (byteAt s z = (blen z : Int))) = true) {z : Nat} (hz : z < 256) : byteAt s z = (blen z : Int) := by
  rw [List.all_eq_true] at hs
  simpa using hs z (by simp [hz])
theorem effIdx {P : Program} {t : TypeId} {x y : Operand} {s : ByteArray} {k : IntKind} {j m : Nat} (hu : P.underlying t = some .string) (hs : Nat.ble m s.size = true) (hj : j < m) : eff P (.index t x y) [.s s, .i k (j : Int)] = some (.val (.i .u8 (byteAt s j))) := by
  have h1 : m ≤ s.size := Nat.le_of_ble_eq_true hs
  show effIndex P t [.s s, .i k (j : Int)] = _
  simp only [effIndex, hu]
  rw [if_pos ⟨by omega, by omega⟩, Int.toNat_natCast]
theorem u8n (n : Nat) (h : n < 256) : IntKind.u8.wrap (n : Int) = n := by
  simp [IntKind.wrap, IntKind.bits, IntKind.signed]; omega
theorem valsStr {fr : List (Nat × V)} {s : ByteArray} {t : Nat} {v : V} (hs : Nat.blt s.size (2 ^ 62) = true) (h : lkp fr t = some v) : valsOf fr [.const (.string s), .tmp t] = some [.s s, v] := by
  have h1 : s.size < 2 ^ 62 := by
    simp [Nat.blt] at hs
    omega
  simp only [valsOf, valOf, h, ofConst, ofCell, if_pos h1]
theorem tdiv_nat (m n : Nat) : Int.tdiv (m : Int) (n : Int) = ((m / n : Nat) : Int) := rfl
theorem tdiv_two (m : Nat) : Int.tdiv (m : Int) 2 = ((m / 2 : Nat) : Int) := rfl
theorem tmod_nat (m n : Nat) : Int.tmod (m : Int) (n : Int) = ((m % n : Nat) : Int) := rfl
theorem shl32 (n : Nat) : (n : Int) * 2 ^ (min 32 64) = ((n * 4294967296 : Nat) : Int) := by
  have : ((2 : Int) ^ (min 32 64)) = ((4294967296 : Nat) : Int) := by decide
  rw [this, Int.natCast_mul]
theorem ofInt_toNat64 (a : Nat) (h : a < 18446744073709551616) : (BitVec.ofInt 64 (a : Int)).toNat = a := by
  rw [BitVec.toNat_ofInt]
  omega
theorem or_lo_hi {a b : Nat} (ha : a < 4294967296) : a ||| b * 4294967296 = a + b * 4294967296 := by
  rw [Nat.or_comm, show b * 4294967296 = b <<< 32 by rw [Nat.shiftLeft_eq], ← Nat.shiftLeft_add_eq_or_of_lt (by simpa using ha)]
  omega
theorem ori {a b : Nat} (ha : a < 4294967296) (hb : b < 4294967296) : orI .u64 (a : Int) ((b * 4294967296 : Nat) : Int) = ((a + b * 4294967296 : Nat) : Int) := by
  show (((BitVec.ofInt 64 (a : Int) ||| BitVec.ofInt 64 ((b * 4294967296 : Nat) : Int)).toNat : Nat) : Int) = _
  rw [BitVec.toNat_or, ofInt_toNat64 a (by omega), ofInt_toNat64 _ (by omega), or_lo_hi ha]
theorem ori' {a b : Nat} (ha : a < 4294967296) (hb : b < 4294967296) : orI .u64 ((b * 4294967296 : Nat) : Int) (a : Int) = ((b * 4294967296 + a : Nat) : Int) := by
  show (((BitVec.ofInt 64 ((b * 4294967296 : Nat) : Int) ||| BitVec.ofInt 64 (a : Int)).toNat : Nat) : Int) = _
  rw [BitVec.toNat_or, ofInt_toNat64 a (by omega), ofInt_toNat64 _ (by omega), Nat.or_comm, or_lo_hi ha, Nat.add_comm]

/-! ### Lists of numbers -/
theorem getD_dg (ls : List (List Nat)) (j : Nat) (h : j < ls.length) : (ls.map dg).getD j .junk = dg (ls.getD j []) := by
  simp [List.getD_eq_getElem?_getD, h]
theorem cells_dg_len (ls : List (List Nat)) (j : Nat) : (((ls.map dg).getD j .junk).cells).length = 1 := by
  rw [List.getD_eq_getElem?_getD, List.getElem?_map]
  cases ls[j]? <;> rfl
attribute [go_sem] getD_dg cells_dg_len

end Go.Proofs.Ytlhobedecoeohaa
