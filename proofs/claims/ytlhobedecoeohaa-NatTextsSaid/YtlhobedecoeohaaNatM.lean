/- Digits in the base 2^32: plain facts. -/
import Derived.Test.YtlhobedecoeohaaLift12
set_option linter.unusedVariables false
set_option linter.unusedSimpArgs false
namespace Go.Proofs.Ytlhobedecoeohaa
open Go Go.Proofs.Ytlhobedecoeohaa.Lift

/-- The number of a list of digits. -/
def val : List Nat → Nat
  | [] => 0
  | x :: l => x + 4294967296 * val l
def Dg (l : List Nat) : Prop := ∀ x ∈ l, x < 4294967296

/-- The digits of a number. -/
def digits (n : Nat) : List Nat := if h : n = 0 then [] else n % 4294967296 :: digits (n / 4294967296)
termination_by n
decreasing_by omega

theorem digits_zero : digits 0 = [] := by rw [digits]; simp
theorem digits_pos {n : Nat} (h : n ≠ 0) : digits n = n % 4294967296 :: digits (n / 4294967296) := by rw [digits]; simp [h]
theorem Dg_nil : Dg [] := by intro x hx; cases hx
theorem Dg_cons {x : Nat} {l : List Nat} : Dg (x :: l) ↔ x < 4294967296 ∧ Dg l := by
  unfold Dg; simp
theorem Dg_append {a b : List Nat} : Dg (a ++ b) ↔ Dg a ∧ Dg b := by
  unfold Dg
  constructor
  · intro h; exact ⟨fun x hx => h x (by simp [hx]), fun x hx => h x (by simp [hx])⟩
  · rintro ⟨h1, h2⟩ x hx
    rcases List.mem_append.1 hx with h | h
    · exact h1 x h
    · exact h2 x h
theorem Dg_take {l : List Nat} (h : Dg l) (n : Nat) : Dg (l.take n) := fun x hx => h x (List.mem_of_mem_take hx)
theorem Dg_drop {l : List Nat} (h : Dg l) (n : Nat) : Dg (l.drop n) := fun x hx => h x (List.mem_of_mem_drop hx)
theorem Dg_getD {l : List Nat} (h : Dg l) (i : Nat) : l.getD i 0 < 4294967296 := by
  rw [List.getD_eq_getElem?_getD]
  cases e : l[i]? with
  | none => simp
  | some x => exact h x (List.mem_of_getElem? e)
theorem Dg_set {l : List Nat} (h : Dg l) {i x : Nat} (hx : x < 4294967296) : Dg (l.set i x) := by
  intro y hy
  rcases List.mem_or_eq_of_mem_set hy with h1 | rfl
  · exact h y h1
  · exact hx
theorem Dg_replicate (n : Nat) : Dg (List.replicate n 0) := by
  intro x hx; rw [List.mem_replicate] at hx; omega
theorem Dg_digits (n : Nat) : Dg (digits n) := by
  induction n using Nat.strongRecOn with
  | _ n ih =>
    by_cases h : n = 0
    · subst h; rw [digits_zero]; exact Dg_nil
    · rw [digits_pos h, Dg_cons]
      exact ⟨Nat.mod_lt _ (by omega), ih _ (by omega)⟩
theorem val_digits (n : Nat) : val (digits n) = n := by
  induction n using Nat.strongRecOn with
  | _ n ih =>
    by_cases h : n = 0
    · subst h; rw [digits_zero]; rfl
    · rw [digits_pos h, val, ih _ (by omega)]
      omega
theorem val_append (a b : List Nat) : val (a ++ b) = val a + 4294967296 ^ a.length * val b := by
  induction a with
  | nil => simp [val]
  | cons x a ih =>
    simp only [List.cons_append, val, ih, List.length_cons, Nat.pow_succ]
    rw [Nat.mul_add, Nat.mul_comm (4294967296 ^ a.length) 4294967296, Nat.mul_assoc]
    omega
theorem val_replicate (n : Nat) : val (List.replicate n 0) = 0 := by
  induction n with
  | zero => rfl
  | succ n ih => simp [List.replicate_succ, val, ih]
theorem val_lt {l : List Nat} (h : Dg l) : val l < 4294967296 ^ l.length := by
  induction l with
  | nil => simp [val]
  | cons x l ih =>
    rw [Dg_cons] at h
    have := ih h.2
    have hx := h.1
    simp only [val, List.length_cons, Nat.pow_succ]
    omega
theorem take_succ_getD (l : List Nat) (i : Nat) (h : i < l.length) : l.take (i + 1) = l.take i ++ [l.getD i 0] := by
  rw [List.take_add_one, List.getElem?_eq_getElem h]
  simp [List.getD_eq_getElem?_getD, h]
theorem val_take_succ (l : List Nat) (i : Nat) (h : i < l.length) : val (l.take (i + 1)) = val (l.take i) + 4294967296 ^ i * l.getD i 0 := by
  rw [take_succ_getD l i h, val_append]
  simp [val, List.length_take, Nat.min_eq_left (Nat.le_of_lt h)]
theorem val_take_drop (l : List Nat) (i : Nat) (h : i ≤ l.length) : val l = val (l.take i) + 4294967296 ^ i * val (l.drop i) := by
  conv => lhs; rw [← List.take_append_drop i l, val_append]
  simp [List.length_take, Nat.min_eq_left h]
theorem val_drop_step (l : List Nat) (i : Nat) (h : i < l.length) : val (l.drop i) = l.getD i 0 + 4294967296 * val (l.drop (i + 1)) := by
  rw [List.drop_eq_getElem_cons h, val]
  simp [List.getD_eq_getElem?_getD, h]

/-- What a list is without its zeros at the end. -/
def tr : List Nat → Nat → Nat
  | l, 0 => 0
  | l, n + 1 => if l.getD n 0 = 0 then tr l n else n + 1
def trim (l : List Nat) : List Nat := l.take (tr l l.length)

theorem tr_le (l : List Nat) : ∀ n, tr l n ≤ n := by
  intro n
  induction n with
  | zero => exact Nat.le_refl _
  | succ n ih =>
    rw [tr]
    split
    · omega
    · omega
theorem val_tr (l : List Nat) : ∀ n, n ≤ l.length → val (l.take (tr l n)) = val (l.take n) := by
  intro n
  induction n with
  | zero => intro _; rfl
  | succ n ih =>
    intro h
    rw [tr]
    split
    · rename_i h0
      rw [ih (by omega), val_take_succ l n (by omega), h0]
      simp
    · rfl
theorem val_trim (l : List Nat) : val (trim l) = val l := by
  rw [trim, val_tr l _ (Nat.le_refl _), List.take_length]
theorem Dg_trim {l : List Nat} (h : Dg l) : Dg (trim l) := Dg_take h _
theorem trim_length (l : List Nat) : (trim l).length ≤ l.length := by
  unfold trim
  rw [List.length_take]
  omega
theorem tr_last (l : List Nat) : ∀ n, n ≤ l.length → tr l n ≠ 0 → l.getD (tr l n - 1) 0 ≠ 0 := by
  intro n
  induction n with
  | zero => intro _ h; exact absurd rfl h
  | succ n ih =>
    intro h
    rw [tr]
    split
    · exact ih (by omega)
    · rename_i h0; intro _; exact h0

/-- Two lists of digits without zeros at the end, of the same number. -/
theorem canon_unique : ∀ (a b : List Nat), Dg a → Dg b → (a ≠ [] → a.getD (a.length - 1) 0 ≠ 0) → (b ≠ [] → b.getD (b.length - 1) 0 ≠ 0) → val a = val b → a = b := by
  intro a
  induction a with
  | nil =>
    intro b _ hb _ hb1 h
    cases b with
    | nil => rfl
    | cons y b =>
      exfalso
      -- the last digit is not zero
      have : ∀ (b : List Nat), b ≠ [] → b.getD (b.length - 1) 0 ≠ 0 → val b ≠ 0 := by
        intro b
        induction b with
        | nil => intro h; exact absurd rfl h
        | cons y b ih =>
          intro _ h1 h2
          simp only [val] at h2
          by_cases hb : b = []
          · subst hb; simp at h1; omega
          · refine ih hb ?_ (by omega)
            have : (y :: b).length - 1 = (b.length - 1) + 1 := by
              have := List.length_pos_iff.2 hb
              simp only [List.length_cons]
              omega
            rw [this] at h1
            simpa using h1
      exact this _ (by simp) (hb1 (by simp)) h.symm
  | cons x a ih =>
    intro b ha hb ha1 hb1 h
    have step : ∀ (y : Nat) (c : List Nat), (y :: c ≠ [] → (y :: c).getD ((y :: c).length - 1) 0 ≠ 0) → (c ≠ [] → c.getD (c.length - 1) 0 ≠ 0) := by
      intro y c h1 hc
      have h2 := h1 (by simp)
      have : (y :: c).length - 1 = (c.length - 1) + 1 := by
        have := List.length_pos_iff.2 hc
        simp only [List.length_cons]
        omega
      rw [this] at h2
      simpa using h2
    cases b with
    | nil =>
      exfalso
      have key : ∀ (b : List Nat), b ≠ [] → b.getD (b.length - 1) 0 ≠ 0 → val b ≠ 0 := by
        intro b
        induction b with
        | nil => intro h; exact absurd rfl h
        | cons y b ih =>
          intro _ h1 h2
          simp only [val] at h2
          by_cases hb : b = []
          · subst hb; simp at h1; omega
          · exact ih hb (step y b (fun _ => h1) hb) (by omega)
      exact key _ (by simp) (ha1 (by simp)) h
    | cons y b =>
      rw [Dg_cons] at ha hb
      simp only [val] at h
      have h1 := ha.1
      have h2 := hb.1
      have e1 : x = y := by omega
      subst e1
      rw [ih b ha.2 hb.2 (step x a ha1) (step x b hb1) (by omega)]

theorem trim_canon (l : List Nat) : trim l ≠ [] → (trim l).getD ((trim l).length - 1) 0 ≠ 0 := by
  intro h
  have hl : (trim l).length = tr l l.length := by
    unfold trim
    rw [List.length_take]
    have := tr_le l l.length
    omega
  have h0 : tr l l.length ≠ 0 := by
    intro e
    rw [e] at hl
    exact h (List.eq_nil_of_length_eq_zero hl)
  have := tr_last l _ (Nat.le_refl _) h0
  rw [hl]
  have h3 : (trim l).getD (tr l l.length - 1) 0 = l.getD (tr l l.length - 1) 0 := by
    unfold trim
    rw [List.getD_eq_getElem?_getD, List.getD_eq_getElem?_getD, List.getElem?_take]
    rw [if_pos (by omega)]
  rw [h3]
  exact this
theorem digits_canon (n : Nat) : digits n ≠ [] → (digits n).getD ((digits n).length - 1) 0 ≠ 0 := by
  induction n using Nat.strongRecOn with
  | _ n ih =>
    intro h
    by_cases h0 : n = 0
    · subst h0; rw [digits_zero] at h; exact absurd rfl h
    · rw [digits_pos h0]
      by_cases h1 : n / 4294967296 = 0
      · rw [h1, digits_zero]
        simp
        omega
      · have h2 : digits (n / 4294967296) ≠ [] := by rw [digits_pos h1]; simp
        have := ih _ (by omega) h2
        have e : (n % 4294967296 :: digits (n / 4294967296)).length - 1 = ((digits (n / 4294967296)).length - 1) + 1 := by
          have := List.length_pos_iff.2 h2
          simp only [List.length_cons]
          omega
        rw [e]
        simpa using this
theorem trim_eq {l : List Nat} (h : Dg l) : trim l = digits (val l) :=
  canon_unique _ _ (Dg_trim h) (Dg_digits _) (trim_canon l) (digits_canon _) (by rw [val_trim, val_digits])
theorem trim_digits (n : Nat) : trim (digits n) = digits n := by
  rw [trim_eq (Dg_digits n), val_digits]

theorem digits_length_le {n k : Nat} (h : n < 4294967296 ^ k) : (digits n).length ≤ k := by
  induction k generalizing n with
  | zero =>
    have : n = 0 := by simp at h; exact h
    subst this
    rw [digits_zero]
    simp
  | succ k ih =>
    by_cases h0 : n = 0
    · subst h0; rw [digits_zero]; simp
    · rw [digits_pos h0, List.length_cons]
      have : n / 4294967296 < 4294967296 ^ k := by
        rw [Nat.div_lt_iff_lt_mul (by omega)]
        rw [Nat.pow_succ] at h
        exact h
      have := ih this
      omega
theorem digits_length_val {l : List Nat} (h : Dg l) : (digits (val l)).length ≤ l.length := digits_length_le (val_lt h)
theorem lt_pow_digits (n : Nat) : n < 4294967296 ^ (digits n).length := by
  have := val_lt (Dg_digits n)
  rwa [val_digits] at this
theorem pow_le_digits {n : Nat} (h : n ≠ 0) : 4294967296 ^ ((digits n).length - 1) ≤ n := by
  induction n using Nat.strongRecOn with
  | _ n ih =>
    rw [digits_pos h, List.length_cons, Nat.add_sub_cancel]
    by_cases h1 : n / 4294967296 = 0
    · rw [h1, digits_zero]; simp; omega
    · have := ih _ (by omega) h1
      have h2 : (digits (n / 4294967296)).length ≠ 0 := by rw [digits_pos h1]; simp
      obtain ⟨k, hk⟩ := Nat.exists_eq_succ_of_ne_zero h2
      rw [hk, Nat.succ_sub_one] at this
      rw [hk, Nat.pow_succ]
      omega
theorem digits_len_mono {m n : Nat} (h : m ≤ n) : (digits m).length ≤ (digits n).length :=
  digits_length_le (Nat.lt_of_le_of_lt h (lt_pow_digits n))
theorem digits_inj {m n : Nat} (h : digits m = digits n) : m = n := by
  have := congrArg val h
  rwa [val_digits, val_digits] at this
theorem digits_len_zero {n : Nat} : (digits n).length = 0 ↔ n = 0 := by
  constructor
  · intro h
    by_cases h0 : n = 0
    · exact h0
    · rw [digits_pos h0] at h; simp at h
  · rintro rfl; rw [digits_zero]; rfl

/-! ### As values -/
/-- A digit as a value. -/
def u (x : Nat) : V := .i .u32 x
abbrev dg (l : List Nat) : V := .sl (l.map u)
/-- A number as a value. -/
abbrev nv (n : Nat) : V := dg (digits n)

@[go_sem] theorem getD_u (l : List Nat) (j : Nat) (h : j < l.length) : (l.map u).getD j .junk = V.i .u32 ((l.getD j 0 : Nat) : Int) := by
  simp [List.getD_eq_getElem?_getD, h, u]
@[go_sem] theorem cells_u_len (l : List Nat) (j : Nat) : (((l.map u).getD j .junk).cells).length = 1 := by
  rw [List.getD_eq_getElem?_getD, List.getElem?_map]
  cases l[j]? <;> rfl
theorem flatCells_u (l : List Nat) : flatCells (l.map u) = l.map u := by
  unfold flatCells
  induction l with
  | nil => rfl
  | cons x l ih => simp only [List.map_cons, List.flatMap_cons, ih]; rfl
theorem flat_u (l : List Nat) : (l.map u).all V.flat = true := by
  rw [List.all_eq_true]
  intro v hv
  obtain ⟨x, _, rfl⟩ := List.mem_map.1 hv
  rfl
theorem hfL_u (l : List Nat) : V.hfL (l.map u) = true := by
  induction l with
  | nil => rfl
  | cons x l ih => simp only [List.map_cons, V.hfL, ih]; rfl
theorem renL_u (f : Nat → Nat) (l : List Nat) : V.renL f (l.map u) = l.map u := by
  induction l with
  | nil => rfl
  | cons x l ih => simp only [List.map_cons, V.renL, ih]; rfl
theorem ltL_u (n : Nat) (l : List Nat) : V.ltL n (l.map u) = true := by
  induction l with
  | nil => rfl
  | cons x l ih => simp only [List.map_cons, V.ltL, ih]; rfl
theorem set_u (l : List Nat) (j : Nat) (x : Nat) : (l.map u).set j (V.i .u32 ((x : Nat) : Int)) = (l.set j x).map u := by
  rw [List.map_set]; rfl
theorem replicate_u (n : Nat) : List.replicate n (V.i .u32 0) = (List.replicate n 0).map u := by
  rw [List.map_replicate]; rfl
theorem append_u (l : List Nat) (x : Nat) : l.map u ++ [V.i .u32 ((x : Nat) : Int)] = (l ++ [x]).map u := by simp [u]
theorem take_u (l : List Nat) (n : Nat) : (l.map u).take n = (l.take n).map u := by rw [List.map_take]
theorem drop_u (l : List Nat) (n : Nat) : (l.map u).drop n = (l.drop n).map u := by rw [List.map_drop]
theorem one_set (x : Nat) : (List.replicate 1 0).set 0 x = [x] := rfl
theorem take_one {α : Type} (x : α) : List.take 1 [x] = [x] := rfl
theorem append_ux (l : List Nat) (x : Nat) : l.map u ++ [u x] = (l ++ [x]).map u := by simp
theorem flat_ux (x : Nat) : V.flat (u x) = true := rfl
theorem hf_ux (x : Nat) : V.hf (u x) = true := rfl
theorem cells_ux (x : Nat) : V.cells (u x) = [u x] := rfl
theorem ren_ux (f : Nat → Nat) (x : Nat) : V.ren f (u x) = u x := rfl
theorem take_app1 (o : List Nat) (c n : Nat) (h : o.length + 1 ≤ n) : List.take n (o ++ [c]) = o ++ [c] := List.take_of_length_le (by simpa using h)
theorem take_set (o : List Nat) (i c n : Nat) (h : o.length ≤ n) : List.take n (o.set i c) = o.set i c := List.take_of_length_le (by simpa using h)
theorem take_rep (m n : Nat) (h : m ≤ n) : List.take n (List.replicate m 0) = List.replicate m 0 := List.take_of_length_le (by simpa using h)
attribute [go_sem] take_app1 take_set take_rep List.take_length
attribute [go_sem] one_set take_one append_ux flat_ux hf_ux cells_ux ren_ux
attribute [go_sem] true_or or_true List.length_take List.length_drop List.length_append List.length_set List.length_replicate flatCells_u flat_u hfL_u renL_u ltL_u set_u replicate_u append_u take_u drop_u

theorem u64n (n : Nat) (h : n < 18446744073709551616) : IntKind.u64.wrap (n : Int) = n := u64_of _ (by omega) (by omega)
theorem u32n (n : Nat) : IntKind.u32.wrap (n : Int) = ((n % 4294967296 : Nat) : Int) := by rw [u32_wrap]; omega
theorem i64n (n : Nat) (h : n < 9223372036854775808) : IntKind.i64.wrap (n : Int) = n := i64_of _ (by omega) (by omega)
theorem toNat_nat (n : Nat) : ((n : Int)).toNat = n := Int.toNat_natCast n
theorem lit_add (n : Nat) : (n : Int) + 1 = ((n + 1 : Nat) : Int) := by omega

theorem frz_u {keep : List Nat} {h len : Nat} {l : List Nat} {T : TypeId} {hp : List (Nat × Row)} (hk : h ∉ keep) (h2 : lkp hp h = some ⟨T, l.map u⟩) (h3 : len = l.length) : frz keep (.own h 0 len 1) hp = some (dg l, dlt hp h) := by
  subst h3
  have e : (List.take (l.length * 1) (List.drop 0 (l.map u))) = l.map u := by rw [Nat.mul_one, List.drop_zero, ← List.map_take, List.take_length]
  simp only [frz, if_neg hk, h2]
  rw [e, if_pos ⟨by omega, by simp, flat_u l, hfL_u l⟩, chunks_one]

theorem Lift.Done.own {P : Program} {st : St} {t : Tmp} {h len : Nat} {l r : List Nat} {T : TypeId} (h1 : lkp st.fr t = some (.own h 0 len 1)) (h2 : lkp st.hp h = some ⟨T, l.map u⟩) (h3 : len = l.length) (h4 : l = r) : Done P #[.tmp t] (dg r) [] st := by
  subst h4
  exact Done.one h1 (frz_u (by simp) h2 h3) (by simp only [V.lt, ltL_u]) (by simp only [V.ren, renL_u])
theorem Lift.Done.sl {P : Program} {st : St} {t : Tmp} {l : List Nat} (h1 : lkp st.fr t = some (dg l)) : Done P #[.tmp t] (dg l) [] st :=
  Done.one h1 (by simp only [frz]; rfl) (by simp only [V.lt, ltL_u]) (by simp only [V.ren, renL_u])
/-- Any results. -/
theorem Lift.Done.of {P : Program} {rs : Array ResultVar} {vs : List V} {r v : V} {st : St} {hp : List (Nat × Row)} (h1 : resVs P st rs.toList = some vs) (h2 : frz [] (packV vs) st.hp = some (v, hp)) (h : v = r) (h3 : r.lt 0 = true) (h4 : r.ren id = r) : Done P rs r [] st :=
  ⟨vs, h1, [], id, v, hp, h2, by rw [h4]; exact h, h3, fun h q hq => by simp at hq, fun h h' hh => by simp at hh⟩

/-- A part whose end is one of a kind of states. -/
theorem Lift.AX.cut {P : Program} {C : Ctx} {st : St} {Q : Exit → St → Prop} {x y : Code} (I : St → Prop) (h : AX P C x st (fun e s => e = .normal ∧ I s)) (h2 : ∀ s, I s → AX P C y s Q) : AX P C (.seq x y) st Q := by
  refine AX.seq (h.mono ?_)
  rintro e s ⟨rfl, hi⟩
  exact h2 s hi

end Go.Proofs.Ytlhobedecoeohaa
