/- Bytes as values; slices.Reverse of bytes. -/
import Derived.Test.YtepkjfnffbdcoaaGF
import Derived.Test.YtepkjfnffbdcoaaGM
set_option linter.unusedVariables false
set_option maxRecDepth 20000
set_option linter.unusedSimpArgs false
namespace Go.Proofs.Ytepkjfnffbdcoaa
open Go Go.Proofs.Ytepkjfnffbdcoaa.Lift
attribute [local irreducible] Lift.PCall Lift.HCall

/-- A byte as a value. -/
def y8 (x : Nat) : V := .i .u8 x
/-- The string of these bytes. -/
def strN (l : List Nat) : ByteArray := strOf (l.map Int.ofNat)

@[go_sem] theorem getD_y (l : List Nat) (j : Nat) (h : j < l.length) : (l.map y8).getD j .junk = V.i .u8 ((l.getD j 0 : Nat) : Int) := by
  simp [List.getD_eq_getElem?_getD, h, y8]
@[go_sem] theorem cells_y_len (l : List Nat) (j : Nat) : (((l.map y8).getD j .junk).cells).length = 1 := by
  rw [List.getD_eq_getElem?_getD, List.getElem?_map]
  cases l[j]? <;> rfl
theorem flatCells_y (l : List Nat) : flatCells (l.map y8) = l.map y8 := by
  unfold flatCells
  induction l with
  | nil => rfl
  | cons x l ih => simp only [List.map_cons, List.flatMap_cons, ih]; rfl
theorem flat_y (l : List Nat) : (l.map y8).all V.flat = true := by
  rw [List.all_eq_true]
  intro v hv
  obtain ⟨x, _, rfl⟩ := List.mem_map.1 hv
  rfl
theorem hfL_y (l : List Nat) : V.hfL (l.map y8) = true := by
  induction l with
  | nil => rfl
  | cons x l ih => simp only [List.map_cons, V.hfL, ih]; rfl
theorem renL_y (f : Nat → Nat) (l : List Nat) : V.renL f (l.map y8) = l.map y8 := by
  induction l with
  | nil => rfl
  | cons x l ih => simp only [List.map_cons, V.renL, ih]; rfl
theorem ltL_y (n : Nat) (l : List Nat) : V.ltL n (l.map y8) = true := by
  induction l with
  | nil => rfl
  | cons x l ih => simp only [List.map_cons, V.ltL, ih]; rfl
theorem set_y (l : List Nat) (j : Nat) (x : Nat) : (l.map y8).set j (V.i .u8 ((x : Nat) : Int)) = (l.set j x).map y8 := by
  rw [List.map_set]; rfl
theorem replicate_y (n : Nat) : List.replicate n (V.i .u8 0) = (List.replicate n 0).map y8 := by
  rw [List.map_replicate]; rfl
theorem append_y (l : List Nat) (x : Nat) : l.map y8 ++ [V.i .u8 ((x : Nat) : Int)] = (l ++ [x]).map y8 := by simp [y8]
theorem take_y (l : List Nat) (n : Nat) : (l.map y8).take n = (l.take n).map y8 := by rw [List.map_take]
theorem drop_y (l : List Nat) (n : Nat) : (l.map y8).drop n = (l.drop n).map y8 := by rw [List.map_drop]
theorem append_yx (l : List Nat) (x : Nat) : l.map y8 ++ [y8 x] = (l ++ [x]).map y8 := by simp
theorem flat_yx (x : Nat) : V.flat (y8 x) = true := rfl
theorem hf_yx (x : Nat) : V.hf (y8 x) = true := rfl
theorem cells_yx (x : Nat) : V.cells (y8 x) = [y8 x] := rfl
theorem ren_yx (f : Nat → Nat) (x : Nat) : V.ren f (y8 x) = y8 x := rfl
theorem numsOf_y (l : List Nat) : numsOf .u8 (l.map y8) = some (l.map Int.ofNat) := by
  induction l with
  | nil => rfl
  | cons x l ih =>
    show numsOf .u8 (V.i .u8 (x : Int) :: l.map y8) = _
    unfold numsOf
    simp only [ih, if_true]
    rfl
attribute [go_sem] append_yx flat_yx hf_yx cells_yx ren_yx flatCells_y flat_y hfL_y renL_y ltL_y set_y replicate_y append_y take_y drop_y numsOf_y

theorem getD_reverse (l : List Nat) (j : Nat) (h : j < l.length) : l.reverse.getD j 0 = l.getD (l.length - 1 - j) 0 := by
  rw [List.getD_eq_getElem?_getD, List.getElem?_reverse h, ← List.getD_eq_getElem?_getD]
theorem getD_set_swap (l : List Nat) (i k x y j : Nat) (hi : i < l.length) (hk : k < l.length) : ((l.set i x).set k y).getD j 0 = if j = k then y else if j = i then x else l.getD j 0 := by
  simp only [List.getD_eq_getElem?_getD, List.getElem?_set]
  by_cases h1 : j = k
  · subst h1
    simp [hk]
  · rw [if_neg (Ne.symm h1), if_neg h1]
    by_cases h2 : j = i
    · subst h2
      simp [hi]
    · rw [if_neg (Ne.symm h2), if_neg h2]

end Go.Proofs.Ytepkjfnffbdcoaa

/- The decimal text of a number. -/
set_option linter.unusedVariables false
set_option linter.unusedSimpArgs false
namespace Go.Proofs.Ytepkjfnffbdcoaa
open Go Go.Proofs.Ytepkjfnffbdcoaa.Lift
attribute [local irreducible] Lift.PCall Lift.HCall

/-- The decimal digits as bytes, the last first. -/
def decr (n : Nat) : List Nat := if n = 0 then [] else (48 + n % 10) :: decr (n / 10)
termination_by n
decreasing_by omega
theorem decr_zero : decr 0 = [] := by unfold decr; rfl
theorem decr_pos {n : Nat} (h : n ≠ 0) : decr n = (48 + n % 10) :: decr (n / 10) := by rw [decr, if_neg h]
/-- The decimal text, as bytes. -/
def decB (n : Nat) : List Nat := if n = 0 then [48] else (decr n).reverse
abbrev txt (n : Nat) : ByteArray := strN (decB n)

theorem decr_len {k : Nat} : ∀ {n : Nat}, n < 10 ^ k → (decr n).length ≤ k := by
  induction k with
  | zero => intro n h; have : n = 0 := by simpa using h
            subst this; rw [decr_zero]; exact Nat.le_refl _
  | succ k ih =>
    intro n h
    by_cases h0 : n = 0
    · subst h0; rw [decr_zero]; exact Nat.zero_le _
    · rw [decr_pos h0, List.length_cons]
      exact Nat.succ_le_succ (ih (by rw [Nat.pow_succ] at h; omega))
theorem decr_digits (n : Nat) : (decr n).length ≤ 10 * (digits n).length := by
  apply decr_len
  refine Nat.lt_of_lt_of_le (lt_pow_digits n) ?_
  rw [Nat.pow_mul]
  exact Nat.pow_le_pow_left (by decide) _
theorem decr_step {q d P : Nat} (h : q * (P * 10) + d ≠ 0) : decr (q * (P * 10) + d) = (48 + d % 10) :: decr (q * P + d / 10) := by
  rw [decr_pos h, ← Nat.mul_assoc]
  congr 2
  · omega
  · omega
theorem tmod_ten (n : Nat) : Int.tmod (n : Int) 10 = ((n % 10 : Nat) : Int) := rfl
theorem tdiv_ten (n : Nat) : Int.tdiv (n : Int) 10 = ((n / 10 : Nat) : Int) := rfl
theorem add48 (n : Nat) : (48 : Int) + (n : Int) = ((48 + n : Nat) : Int) := by omega
theorem short_n (m d : Nat) (hm : (digits m).length < 2 ^ 40) (h0 : 0 < d) (hdB : d < 4294967296) : PCall Try.prog 79 [nv m, .i .u32 d] (.tup [nv (m / d), .i .u32 (m % d : Nat)]) [] := by
  have := short_ok (digits m) d (Dg_digits _) hm h0 hdB
  rwa [val_digits] at this

end Go.Proofs.Ytepkjfnffbdcoaa
