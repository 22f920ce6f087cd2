/- Factors (plain): what is right stands for a table and its cells. -/
import Derived.Test.YtogpimmcodaljaaGreatFaC
set_option linter.unusedVariables false
set_option maxRecDepth 20000
set_option linter.unusedSimpArgs false
namespace Go.Proofs.YtogpimmcodaljaaGreat
open Go Go.Proofs.YtogpimmcodaljaaGreat.Lift
attribute [local irreducible] Lift.PCall Lift.HCall
def rtQ (q : Rat) : RT := (decide (q.num < 0), digits q.num.natAbs, digits q.den)
theorem map_rtQ (xs : List Rat) : (xs.map rtQ).map fR = xs.map rV := by rw [List.map_map]; rfl
theorem isR3_rtQ (q : Rat) : isR3 (rtQ q) = true := by
 show isR (decide (q.num < 0)) (digits q.num.natAbs) (digits q.den) = true
 unfold isR
 have h1 : 0 < (digits q.den).length := Nat.pos_of_ne_zero fun e => q.den_nz (digits_len_zero.1 e)
 have h2 : gcd1 (Nat.gcd (val (digits q.num.natAbs)) (val (digits q.den))) = true := by
  rw [val_digits, val_digits]
  exact decide_eq_true q.reduced
 have h3 : (!decide (q.num < 0) || decide (0 < (digits q.num.natAbs).length)) = true := by
  by_cases h : q.num < 0
  ·have : 0 < (digits q.num.natAbs).length := Nat.pos_of_ne_zero fun e => by have := digits_len_zero.1 e; omega
   rw [decide_eq_true this, Bool.or_true]
  ·rw [decide_eq_false h]
   rfl
 rw [right_digits, right_digits, decide_eq_true h1, h2, h3]
 rfl
theorem fa_digits_val : ∀ {l : List Nat}, Dg l → right l = true → digits (val l) = l := by
 intro l
 induction l with
 | nil => intro _ _; exact digits_zero
 | cons d l ih =>
  intro hd hr
  obtain ⟨h1, h2⟩ := Dg_cons.1 hd
  have hr := of_decide_eq_true hr
  have e : val (d :: l) = d + 4294967296 * val l := rfl
  cases l with
  | nil =>
   have hd0 : d ≠ 0 := by
    rcases hr with h | h
    ·simp at h
    ·simpa using h
   rw [e, digits_pos (by omega)]
   have e0 : val ([] : List Nat) = 0 := rfl
   rw [e0, Nat.mul_zero, Nat.add_zero, Nat.mod_eq_of_lt h1, Nat.div_eq_of_lt h1, digits_zero]
  | cons d' l =>
   have hr' : right (d' :: l) = true := by
    refine decide_eq_true (.inr ?_)
    rcases hr with h | h
    ·simp at h
    ·simpa using h
   have hi := ih h2 hr'
   have hp : val (d' :: l) ≠ 0 := by
    intro h
    rw [h, digits_zero] at hi
    cases hi
   rw [e, digits_pos (by omega), show (d + 4294967296 * val (d' :: l)) % 4294967296 = d by omega, show (d + 4294967296 * val (d' :: l)) / 4294967296 = val (d' :: l) by omega, hi]
theorem fa_isR {s : Bool} {a b : List Nat} (ha : Dg a) (hb : Dg b) (h : isR s a b = true) : ∃ q : Rat, (s, a, b) = rtQ q := by
 unfold isR at h
 simp only [Bool.and_eq_true, decide_eq_true_eq] at h
 obtain ⟨⟨⟨⟨h1, h2⟩, h3⟩, h4⟩, h5⟩ := h
 have ea := fa_digits_val ha h1
 have eb := fa_digits_val hb h2
 have hb0 : val b ≠ 0 := by
  intro h
  rw [h, digits_zero] at eb
  rw [← eb] at h3
  simp at h3
 have hg : Nat.gcd (val a) (val b) = 1 := of_decide_eq_true h4
 refine ⟨rq s (val a) (val b), ?_⟩
 have hn : (rq s (val a) (val b)).num = sg s (val a) := by rw [rq_num hb0, hg, Nat.div_one]
 have hd : (rq s (val a) (val b)).den = val b := by rw [rq_den hb0, hg, Nat.div_one]
 unfold rtQ
 rw [hn, hd, sg_natAbs, sg_neg, ea, eb]
 have hs : (s && decide (val a ≠ 0)) = s := by
  cases s
  ·rfl
  ·have : 0 < a.length := by simpa using h5
   rw [Bool.true_and]
   exact decide_eq_true fun h => by
    rw [h, digits_zero] at ea
    rw [← ea] at this
    simp at this
 rw [hs]
theorem fa_all {xs : List RT} (hd : ∀ x ∈ xs, Dg x.2.1 ∧ Dg x.2.2) (h : xs.all isR3 = true) : ∃ qs : List Rat, xs = qs.map rtQ := by
 induction xs with
 | nil => exact ⟨[], rfl⟩
 | cons x xs ih =>
  rw [List.all_cons, Bool.and_eq_true] at h
  obtain ⟨qs, hqs⟩ := ih (fun y hy => hd y (List.mem_cons_of_mem _ hy)) h.2
  obtain ⟨h1, h2⟩ := hd x (List.mem_cons_self ..)
  obtain ⟨s, a, b⟩ := x
  obtain ⟨q, hq⟩ := fa_isR h1 h2 h.1
  exact ⟨q :: qs, by rw [List.map_cons, ← hq, hqs]⟩
theorem fa_rL {q : Rat} {L : Nat} (h1 : (rtQ q).2.1.length ≤ L) (h2 : (rtQ q).2.2.length ≤ L) : rL q ≤ L := Nat.max_le.2 ⟨h1, h2⟩
theorem fa_okY {xs : List Rat} (h : ∀ q ∈ xs, rL q ≤ 2 ^ 30) : okY (xs.map rtQ) := by
 intro x hx
 obtain ⟨q, hq, rfl⟩ := List.mem_map.1 hx
 have := h q hq
 exact ⟨Dg_digits _, Dg_digits _, Nat.le_trans (Nat.le_max_left _ _) this, Nat.le_trans (Nat.le_max_right _ _) this⟩
def ql (n : Nat) (q : Nat → Rat) : List Rat := (List.range n).map q
theorem ql_length (n : Nat) (q : Nat → Rat) : (ql n q).length = n := by simp [ql]
theorem ql_get {n k : Nat} (q : Nat → Rat) (h : k < n) : (ql n q).getD k 0 = q k := by simp [ql, List.getD_eq_getElem?_getD, h]
theorem ql_congr {n : Nat} {q p : Nat → Rat} (h : ∀ k, k < n → q k = p k) : ql n q = ql n p := List.map_congr_left fun k hk => h k (by simpa using hk)
theorem ql_succ (n : Nat) (q : Nat → Rat) : ql (n + 1) q = ql n q ++ [q n] := by simp [ql, List.range_succ]
theorem ql_mem {n : Nat} {q : Nat → Rat} {P : Rat → Prop} (h : ∀ k, k < n → P (q k)) : ∀ x ∈ ql n q, P x := fun x hx => by
 obtain ⟨k, hk, rfl⟩ := List.mem_map.1 hx
 exact h k (by simpa using hk)
theorem list_ql {n : Nat} {qs : List Rat} (h : qs.length = n) : ∃ q : Nat → Rat, qs = ql n q := ⟨fun k => qs.getD k 0, by
 apply List.ext_getElem?
 intro j
 unfold ql
 rw [List.getElem?_map]
 by_cases hj : j < n
 ·rw [List.getElem?_range hj, List.getElem?_eq_getElem (by omega), Option.map_some, List.getD_eq_getElem?_getD, List.getElem?_eq_getElem (by omega)]
  rfl
 ·rw [List.getElem?_eq_none (by omega), List.getElem?_eq_none (by simp; omega)]
  rfl⟩
abbrev ci (l : List Nat) : List Int := l.map fun n : Nat => (n : Int)
theorem ci_length (l : List Nat) : (ci l).length = l.length := List.length_map ..
def xsT (t : Nat → Nat) (q : Nat → Rat) : List RT := (ql (szT t) q).map rtQ
abbrev FV (t : Nat → Nat) (q : Nat → Rat) : V := fV (ci (vsT t)) (ci (asT t)) (xsT t q)
theorem xsT_length (t : Nat → Nat) (q : Nat → Rat) : (xsT t q).length = szT t := by rw [xsT, List.length_map, ql_length]
theorem xsT_map (t : Nat → Nat) (q : Nat → Rat) : (xsT t q).map fR = (ql (szT t) q).map rV := map_rtQ _
theorem xsT_okY {t : Nat → Nat} {q : Nat → Rat} (h : ∀ k, k < szT t → rL (q k) ≤ 2 ^ 30) : okY (xsT t q) := fa_okY (ql_mem h)
theorem FV_ext {t t' : Nat → Nat} {q q' : Nat → Rat} (h : ∀ v, v < 64 → t v = t' v) (hq : ∀ k, k < szT t → q k = q' k) : FV t q = FV t' q' := by
 unfold FV xsT
 rw [vsT_ext h, asT_ext h, ← szT_ext h, ql_congr hq]
theorem prZ_prI {t : Nat → Nat} : ∀ i, i ≤ (vsT t).length → prZ (ci (asT t)) i = prI (vsT t) t i
 | 0, _ => rfl
 | i + 1, h => by
  show prZ _ i * _ = prI _ _ i * _
  rw [prZ_prI i (by omega), cast_get, Int.toNat_natCast, asT_get (by omega)]
theorem prZ_sz (t : Nat → Nat) : prZ (ci (asT t)) (ci (asT t)).length = szT t := by
 rw [ci_length, asT_len]
 exact prZ_prI _ (Nat.le_refl _)
theorem okV_T {t : Nat → Nat} (h : ∀ v, t v ≤ 64) {i : Nat} (hi : i < (vsT t).length) : okV (ci (vsT t)) (ci (asT t)) i := by
 obtain ⟨h1, h2⟩ := vsT_get hi
 have h3 := h ((vsT t).getD i 0)
 have e : i = 0 ∨ (vsT t).getD (i - 1) 0 < (vsT t).getD i 0 := by
  by_cases hz : i = 0
  ·exact .inl hz
  ·exact .inr (asc_get (vsT_asc t) (by omega) hi)
 unfold okV
 rw [cast_get, cast_get, cast_get, asT_get hi]
 omega
theorem isF_T {t : Nat → Nat} (h : okT t) (q : Nat → Rat) : isF (ci (vsT t)) (ci (asT t)) (xsT t q) = true := by
 rw [isF_cells ⟨by rw [ci_length, ci_length, asT_len], fun i hi => okV_T h.1 (by rwa [ci_length] at hi), by rw [prZ_sz]; exact h.2, by rw [xsT_length, prZ_sz]⟩, List.all_eq_true]
 intro x hx
 obtain ⟨p, _, rfl⟩ := List.mem_map.1 hx
 exact isR3_rtQ p
theorem isF_inv {vs ws : List Int} {xs : List RT} (hd : ∀ x ∈ xs, Dg x.2.1 ∧ Dg x.2.2) (h : isF vs ws xs = true) : ∃ (t : Nat → Nat) (q : Nat → Rat), okT t ∧ vs = ci (vsT t) ∧ ws = ci (asT t) ∧ xs = xsT t q := by
 unfold isF at h
 rw [Bool.and_eq_true, decide_eq_true_eq] at h
 obtain ⟨⟨hl, hv, hp, hx⟩, hall⟩ := h
 obtain ⟨qs, hqs⟩ := fa_all hd hall
 have get : ∀ (l : List Int) (j : Nat), (l.map Int.toNat).getD j 0 = (l.getD j 0).toNat := fun l j => by
  rw [List.getD_eq_getElem?_getD, List.getD_eq_getElem?_getD, List.getElem?_map]
  cases l[j]? <;> rfl
 have cast : ∀ l : List Int, (∀ j, j < l.length → 0 ≤ l.getD j 0) → l = ci (l.map Int.toNat) := fun l h => list_eq (by rw [ci_length, List.length_map]) fun j hj => by
  rw [cast_get, get, Int.toNat_of_nonneg (h j hj)]
 have e1 := cast vs fun j hj => (hv j hj).1
 have e2 := cast ws fun j hj => by have := (hv j (by omega)).2.2.2.1; omega
 have hasc : (vs.map Int.toNat).Pairwise (· < ·) := asc_of fun i hi => by
  rw [List.length_map] at hi
  rw [get, get]
  obtain ⟨h0, _, h2, _⟩ := hv (i + 1) hi
  obtain ⟨h3, _⟩ := hv i (by omega)
  rcases h2 with h2 | h2
  ·omega
  ·rw [Nat.add_sub_cancel] at h2
   omega
 obtain ⟨t1, t2⟩ := tabL_vs (vs := vs.map Int.toNat) (ws := ws.map Int.toNat) hasc (by rw [List.length_map, List.length_map, hl]) (fun v hv' => by
  obtain ⟨i, hi, rfl⟩ := mem_getD0 hv'
  rw [List.length_map] at hi
  rw [get]
  have := (hv i hi).2.1
  omega) (fun i hi => by
  rw [List.length_map] at hi
  rw [get]
  have := (hv i (by omega)).2.2.2.1
  omega)
 obtain ⟨t, ht⟩ : ∃ t, tabL (vs.map Int.toNat) (ws.map Int.toNat) = t := ⟨_, rfl⟩
 rw [ht] at t1 t2
 have a1 : vs = ci (vsT t) := by rw [t1]; exact e1
 have a2 : ws = ci (asT t) := by rw [t2]; exact e2
 have hsz : prZ ws ws.length = szT t := by rw [a2]; exact prZ_sz t
 rw [hsz] at hp hx
 obtain ⟨q, hq⟩ := list_ql (n := szT t) (qs := qs) (by rw [← hx, hqs, List.length_map])
 refine ⟨t, q, ⟨fun v => ?_, hp⟩, a1, a2, by rw [hqs, hq]; rfl⟩
 by_cases hm : v ∈ vs.map Int.toNat
 ·obtain ⟨i, hi, rfl⟩ := mem_getD0 hm
  have hg := tabL_get (ws := ws.map Int.toNat) hasc (by rw [List.length_map, List.length_map, hl]) i hi
  rw [ht] at hg
  rw [hg, get]
  rw [List.length_map] at hi
  have := (hv i hi).2.2.2.2
  omega
 ·rw [← ht, tabL_out hm]
  exact Nat.zero_le _
end Go.Proofs.YtogpimmcodaljaaGreat
