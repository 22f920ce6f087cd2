/- Contracts at numbers. -/
import Derived.Test.YtepkjfnffbdcoaaGN
import Derived.Test.YtepkjfnffbdcoaaGO
import Derived.Test.YtepkjfnffbdcoaaGE
import Derived.Lib.Bytealg
set_option linter.unusedVariables false
set_option maxRecDepth 20000
set_option linter.unusedSimpArgs false
namespace Go.Proofs.Ytepkjfnffbdcoaa
open Go Go.Proofs.Ytepkjfnffbdcoaa.Lift
attribute [local irreducible] Lift.PCall Lift.HCall

theorem lenS {n : Nat} (h : n < 18446744073709551616) : (digits n).length ≤ 2 := digits_length_le (by simpa using h)
theorem sub_n (m n : Nat) (hm : (digits m).length < 2 ^ 39) (hn : (digits n).length < 2 ^ 39) : PCall Try.prog 44 [nv m, nv n] (numE (m - n) (if m < n then 1 else 0)) [] := by
  have := sub_ok (digits m) (digits n) (Dg_digits _) (Dg_digits _) hm hn
  rwa [val_digits, val_digits] at this
theorem add_n (m n : Nat) (hm : (digits m).length < 2 ^ 39) (hn : (digits n).length < 2 ^ 39) : PCall Try.prog 42 [nv m, nv n] (nv (m + n)) [] := by
  have := add_ok (digits m) (digits n) (Dg_digits _) (Dg_digits _) hm hn
  rwa [val_digits, val_digits] at this
theorem gcd_n (m n : Nat) (hm : (digits m).length < 2 ^ 36) (hn : (digits n).length < 2 ^ 36) : PCall Try.prog 63 [nv m, nv n] (nv (Nat.gcd m n)) [] := by
  have := gcd_ok (digits m) (digits n) (Dg_digits _) (Dg_digits _) hm hn
  rwa [val_digits, val_digits] at this
theorem small_n (m : Nat) (hm : (digits m).length < 2 ^ 40) : PCall Try.prog 62 [nv m] (smallV m) [] := by
  have := small_ok (digits m) (Dg_digits _) hm
  rwa [val_digits] at this
theorem right_digits (n : Nat) : right (digits n) = true := by
  by_cases h : (digits n).length = 0
  · exact right_0 h
  · exact right_t (digits_canon n fun e => h (by rw [e]; rfl))
theorem right_n (m : Nat) (hm : (digits m).length < 2 ^ 40) : PCall Try.prog 61 [nv m] (.b true) [] := by
  have := right_ok (digits m) hm
  rwa [right_digits] at this



end Go.Proofs.Ytepkjfnffbdcoaa

/- Decimal texts and their values: plain facts. -/
set_option linter.unusedVariables false
set_option linter.unusedSimpArgs false
namespace Go.Proofs.Ytepkjfnffbdcoaa
open Go Go.Proofs.Ytepkjfnffbdcoaa.Lift
attribute [local irreducible] Lift.PCall Lift.HCall

theorem size_strN (l : List Nat) : (strN l).size = l.length := by
  unfold strN
  rw [strOf_size, List.length_map]
theorem bt_strN {l : List Nat} (h : ∀ x ∈ l, x < 256) (j : Nat) : bt (strN l) j = l.getD j 0 := by
  unfold bt strN strOf
  simp only [List.map_map]
  rw [Array.getD_eq_getD_getElem?, List.getElem?_toArray, List.getElem?_map, List.getD_eq_getElem?_getD]
  cases hj : l[j]? with
  | none => rfl
  | some x =>
    have := h x (List.mem_of_getElem? hj)
    simp [Nat.mod_eq_of_lt this]
/-- The bytes of a string. -/
def bytesOf (s : ByteArray) : List Nat := s.data.toList.map UInt8.toNat
theorem strN_bytesOf (s : ByteArray) : strN (bytesOf s) = s := by
  apply ByteArray.ext
  unfold strN strOf bytesOf
  simp only [List.map_map]
  apply Array.ext'
  simp only [List.toList_toArray]
  conv => rhs; rw [← List.map_id s.data.toList]
  apply List.map_congr_left
  intro x _
  show UInt8.ofNat (Int.toNat (Int.ofNat x.toNat)) = x
  exact UInt8.ofNat_toNat
theorem bytesOf_len (s : ByteArray) : (bytesOf s).length = s.size := by
  show (s.data.toList.map UInt8.toNat).length = s.data.size
  rw [List.length_map, Array.length_toList]
theorem bytesOf_lt (s : ByteArray) : ∀ x ∈ bytesOf s, x < 256 := by
  intro x hx
  obtain ⟨b, _, rfl⟩ := List.mem_map.1 hx
  exact b.toNat_lt

/-- The value of decimal digits. -/
def bv (l : List Nat) : Nat := l.foldl (fun v x => v * 10 + (x - 48)) 0
theorem bv_append (l : List Nat) (x : Nat) : bv (l ++ [x]) = bv l * 10 + (x - 48) := by
  unfold bv
  rw [List.foldl_append]
  rfl
theorem dv_strN {l : List Nat} (h : ∀ x ∈ l, x < 256) : ∀ p, p ≤ l.length → dv (strN l) p = bv (l.take p) := by
  intro p
  induction p with
  | zero => intro _; rfl
  | succ p ih =>
    intro hp
    rw [take_succ_getD l p (by omega), bv_append, ← ih (by omega), ← bt_strN h]
    rfl
theorem dv_all {l : List Nat} (h : ∀ x ∈ l, x < 256) : dv (strN l) (strN l).size = bv l := by
  rw [size_strN, dv_strN h _ (Nat.le_refl _), List.take_length]

def B10 (l : List Nat) : Prop := ∀ x ∈ l, 48 ≤ x ∧ x ≤ 57
theorem B10.lt {l : List Nat} (h : B10 l) : ∀ x ∈ l, x < 256 := fun x hx => by have := h x hx; omega
theorem decr_dig (n : Nat) : B10 (decr n) := by
  induction n using Nat.strongRecOn with
  | _ n ih =>
    by_cases h : n = 0
    · subst h; rw [decr_zero]; intro x hx; cases hx
    · rw [decr_pos h]
      intro x hx
      rcases List.mem_cons.1 hx with rfl | hx
      · omega
      · exact ih (n / 10) (by omega) x hx
theorem bv_decr (n : Nat) : bv (decr n).reverse = n := by
  induction n using Nat.strongRecOn with
  | _ n ih =>
    by_cases h : n = 0
    · subst h; rw [decr_zero]; rfl
    · rw [decr_pos h, List.reverse_cons, bv_append, ih (n / 10) (by omega)]
      omega
theorem decr_head {n : Nat} : n ≠ 0 → (decr n).reverse.getD 0 0 ≠ 48 := by
  induction n using Nat.strongRecOn with
  | _ n ih =>
    intro h
    rw [decr_pos h, List.reverse_cons]
    by_cases h1 : n / 10 = 0
    · rw [h1, decr_zero]
      simp
      omega
    · have h2 := ih (n / 10) (by omega) h1
      have h3 : 0 < (decr (n / 10)).reverse.length := by rw [decr_pos h1]; simp
      rw [List.getD_eq_getElem?_getD, List.getElem?_append_left h3, ← List.getD_eq_getElem?_getD]
      exact h2
theorem decB_dig (n : Nat) : B10 (decB n) := by
  unfold decB
  split
  · intro x hx
    simp at hx
    omega
  · intro x hx
    exact decr_dig n x (List.mem_reverse.1 hx)
theorem bv_decB (n : Nat) : bv (decB n) = n := by
  unfold decB
  split
  · rename_i h; subst h; rfl
  · exact bv_decr n
theorem decB_head (n : Nat) : ¬ ((decB n).length = 0 ∨ ((decB n).getD 0 0 = 48 ∧ 1 < (decB n).length)) := by
  unfold decB
  split
  · simp
  · rename_i h
    rintro (h1 | ⟨h1, _⟩)
    · rw [decr_pos h] at h1
      simp at h1
    · exact decr_head h h1
theorem decB_len (n : Nat) : (decB n).length ≤ 10 * (digits n).length + 1 := by
  unfold decB
  split
  · simp
  · rw [List.length_reverse]
    have := decr_digits n
    omega

/-- Parse inverts Text. -/
theorem par_txt {n : Nat} (h : (digits n).length ≤ 1000) : parE (txt n) = 0 ∧ parN (txt n) = n := by
  have hl := decB_len n
  have hlt := (decB_dig n).lt
  have hsz := size_strN (decB n)
  have h1 : ¬ ((txt n).size = 0 ∨ (bt (txt n) 0 = 48 ∧ 1 < (txt n).size)) := by
    show ¬ ((strN (decB n)).size = 0 ∨ (bt (strN (decB n)) 0 = 48 ∧ 1 < (strN (decB n)).size))
    rw [hsz, bt_strN hlt]
    exact decB_head n
  have h2 : Dgt (txt n) := by
    intro j hj
    have hj' : j < (decB n).length := by rw [← hsz]; exact hj
    show 48 ≤ bt (strN (decB n)) j ∧ bt (strN (decB n)) j ≤ 57
    rw [bt_strN hlt, List.getD_eq_getElem?_getD, List.getElem?_eq_getElem hj']
    exact decB_dig n _ (List.getElem_mem hj')
  have h3 : ¬ 20000 < (txt n).size := by
    show ¬ 20000 < (strN (decB n)).size
    omega
  obtain ⟨e1, e2⟩ := par_good h1 h2 h3
  refine ⟨e1, e2.trans ?_⟩
  show dv (strN (decB n)) (strN (decB n)).size = n
  rw [dv_all hlt, bv_decB]

theorem decr_bv : ∀ (k : Nat) (l : List Nat), l.length = k → B10 l → 0 < k → l.getD 0 0 ≠ 48 → bv l ≠ 0 ∧ decr (bv l) = l.reverse := by
  intro k
  induction k with
  | zero => intro l _ _ h; omega
  | succ k ih =>
    intro l hl hB _ h0
    obtain ⟨l', x, rfl⟩ : ∃ l' x, l = l' ++ [x] := ⟨l.dropLast, l.getLast (by intro e; rw [e] at hl; simp at hl), (List.dropLast_concat_getLast _).symm⟩
    simp at hl
    have hx := hB x (by simp)
    have hB' : B10 l' := fun y hy => hB y (by simp [hy])
    rw [bv_append, List.reverse_append]
    by_cases hk : k = 0
    · have : l' = [] := List.eq_nil_of_length_eq_zero (by omega)
      subst this
      simp at h0
      have hv : bv [] * 10 + (x - 48) = x - 48 := by simp [bv]
      rw [hv]
      refine ⟨by omega, ?_⟩
      rw [decr_pos (by omega), show (x - 48) / 10 = 0 by omega, decr_zero]
      simp
      omega
    · have h1 : l'.getD 0 0 ≠ 48 := by
        rwa [List.getD_eq_getElem?_getD, List.getElem?_append_left (by omega), ← List.getD_eq_getElem?_getD] at h0
      obtain ⟨i1, i2⟩ := ih l' hl hB' (by omega) h1
      refine ⟨by omega, ?_⟩
      rw [decr_pos (by omega), show (bv l' * 10 + (x - 48)) / 10 = bv l' by omega, i2]
      simp
      omega
theorem decB_bv {l : List Nat} (hB : B10 l) (h : ¬ (l.length = 0 ∨ (l.getD 0 0 = 48 ∧ 1 < l.length))) : decB (bv l) = l := by
  by_cases h0 : l.getD 0 0 = 48
  · have hl : l.length = 1 := by omega
    match l, hl with
    | [x], _ =>
      simp at h0
      subst h0
      rfl
  · obtain ⟨h1, h2⟩ := decr_bv _ l rfl hB (by omega) h0
    unfold decB
    rw [if_neg h1, h2, List.reverse_reverse]
/-- Text inverts Parse. -/
theorem txt_par {s : ByteArray} (h : parE s = 0) : txt (parN s) = s := by
  have h1 : ¬ (s.size = 0 ∨ (bt s 0 = 48 ∧ 1 < s.size)) := by
    intro h1
    rw [(par_head h1).1] at h
    exact absurd h (by decide)
  have h2 : Dgt s := by
    apply Classical.byContradiction
    intro h2
    rw [(par_bad h2).1] at h
    exact absurd h (by decide)
  have h3 : ¬ 20000 < s.size := by
    intro h3
    rw [(par_long h1 h2 h3).1] at h
    exact absurd h (by decide)
  rw [(par_good h1 h2 h3).2]
  have hlt := bytesOf_lt s
  have hs := strN_bytesOf s
  have hlen := bytesOf_len s
  have hbt : ∀ j, bt s j = (bytesOf s).getD j 0 := by
    intro j
    rw [← bt_strN hlt, hs]
  have hv : dv s s.size = bv (bytesOf s) := by
    have := dv_all hlt
    rwa [hs] at this
  have hB : B10 (bytesOf s) := by
    intro x hx
    obtain ⟨j, hj, rfl⟩ := List.getElem_of_mem hx
    have := h2 j (by omega)
    rw [hbt, List.getD_eq_getElem?_getD, List.getElem?_eq_getElem hj] at this
    exact this
  rw [hv]
  show strN (decB (bv (bytesOf s))) = s
  rw [decB_bv hB (by rw [hlen, ← hbt]; exact h1), hs]
theorem parE_val (s : ByteArray) : parE s = 0 ∨ (parE s ≠ 0 ∧ parN s = 0) := by
  by_cases h : parE s = 0
  · exact .inl h
  · refine .inr ⟨h, ?_⟩
    unfold parN
    rw [if_neg h]

end Go.Proofs.Ytepkjfnffbdcoaa

/- strings.CutPrefix by a byte and strings.Cut at a byte. -/
set_option linter.unusedVariables false
set_option linter.unusedSimpArgs false
namespace Go.Proofs.Ytepkjfnffbdcoaa
open Go Go.Proofs.Ytepkjfnffbdcoaa.Lift
attribute [local irreducible] Lift.PCall Lift.HCall

theorem sz45 : (((⟨#[45]⟩ : ByteArray).size : Nat) : Int) = 1 := rfl
theorem sz47 : (((⟨#[47]⟩ : ByteArray).size : Nat) : Int) = 1 := rfl
theorem Lift.Done.two {P : Program} {st : St} {t t' : Tmp} {a b : V} (h1 : lkp st.fr t = some a) (h2 : lkp st.fr t' = some b) (h3 : frz [] (.tup [a, b]) st.hp = some (.tup [a, b], st.hp)) (h4 : (V.tup [a, b]).lt 0 = true) (h5 : (V.tup [a, b]).ren id = .tup [a, b]) : Done P #[.tmp t, .tmp t'] (.tup [a, b]) [] st :=
  Done.of (vs := [a, b]) (by simp [resVs, resV, h1, h2]) h3 rfl h4 h5
theorem Lift.Done.three {P : Program} {st : St} {t t' t'' : Tmp} {a b c : V} (h1 : lkp st.fr t = some a) (h2 : lkp st.fr t' = some b) (h2' : lkp st.fr t'' = some c) (h3 : frz [] (.tup [a, b, c]) st.hp = some (.tup [a, b, c], st.hp)) (h4 : (V.tup [a, b, c]).lt 0 = true) (h5 : (V.tup [a, b, c]).ren id = .tup [a, b, c]) : Done P #[.tmp t, .tmp t', .tmp t''] (.tup [a, b, c]) [] st :=
  Done.of (vs := [a, b, c]) (by simp [resVs, resV, h1, h2, h2']) h3 rfl h4 h5

/-- The first place of a slash, or -1. -/
def ixS (s : ByteArray) : Int := Go.Lib.indexByte s.data.toList 47
theorem indexByte_lt (l : List UInt8) (c : UInt8) : Go.Lib.indexByte l c < l.length ∨ Go.Lib.indexByte l c = -1 := by
  induction l with
  | nil => exact .inr rfl
  | cons b l ih =>
    unfold Go.Lib.indexByte
    have hg := Go.Lib.indexByte_ge l c
    split
    · left; simp only [List.length_cons]; omega
    · split
      · exact .inr rfl
      · rename_i h
        left
        simp only [List.length_cons]
        have : Go.Lib.indexByte l c ≠ -1 := by simpa using h
        omega
theorem ixS_bound (s : ByteArray) : -1 ≤ ixS s ∧ (ixS s < s.size ∨ ixS s = -1) := by
  refine ⟨Go.Lib.indexByte_ge _ _, ?_⟩
  have := indexByte_lt s.data.toList 47
  have e : s.size = s.data.toList.length := by rw [Array.length_toList]; rfl
  rw [e]
  exact this

/-- The parts of a string at its first slash. -/
def cutV (s : ByteArray) : V := if ixS s = -1 then .tup [.s s, .s ⟨#[]⟩, .b false] else .tup [.s (s.extract 0 (ixS s).toNat), .s (s.extract ((ixS s).toNat + 1) s.size), .b true]
theorem effSlTo {s : ByteArray} {n : Nat} {x y : Operand} (h : n ≤ s.size) : eff Try.prog (.slice 9 x none (some y) none) [.s s, .i .i64 (n : Int)] = some (.val (.s (s.extract 0 n))) := by
  simp only [eff, effSlice, lowHigh, sliceV, under_str, bound, Option.isSome]
  rw [if_pos ⟨by omega, by omega, by omega⟩]
  rfl
theorem effLenS (s : ByteArray) {x : Operand} {ats : Array TypeId} (h : ats[0]? = some 9) : effLen Try.prog 9 [.s s] = some (.val (.i .i64 s.size)) := by
  simp only [effLen, under_str, lenV]

/-- Does the string begin with a minus sign? -/
def neg1 (s : ByteArray) : Bool := decide (0 < s.size ∧ bt s 0 = 45)
theorem pre_eq {s : ByteArray} (h : 1 ≤ s.size) : decide (s.extract 0 1 = ⟨#[45]⟩) = neg1 s := by
  unfold neg1
  apply decide_eq_decide.2
  constructor
  · intro e
    refine ⟨h, ?_⟩
    have := bt_extract (s := s) (p := 0) (q := 1) (j := 0) (by omega) h
    rw [e] at this
    exact this.symm
  · rintro ⟨_, e⟩
    apply ByteArray.ext
    obtain ⟨⟨l⟩⟩ := s
    cases l with
    | nil => exact absurd h (by decide)
    | cons b l =>
      have e2 : b.toNat = 45 := e
      have e3 : b = 45 := UInt8.toNat_inj.1 e2
      subst e3
      simp [ByteArray.data_extract]

/-- What is left behind a minus sign. -/
def restS (s : ByteArray) : ByteArray := if neg1 s = true then s.extract 1 s.size else s

end Go.Proofs.Ytepkjfnffbdcoaa
