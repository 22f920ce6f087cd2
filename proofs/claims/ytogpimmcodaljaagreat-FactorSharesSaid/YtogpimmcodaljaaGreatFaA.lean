/- Factors (plain): tables of arms, the places of cells. -/
import Derived.Test.YtogpimmcodaljaaGreatHK
set_option linter.unusedVariables false
set_option maxRecDepth 20000
set_option linter.unusedSimpArgs false
namespace Go.Proofs.YtogpimmcodaljaaGreat
open Go Go.Proofs.YtogpimmcodaljaaGreat.Lift
attribute [local irreducible] Lift.PCall Lift.HCall
theorem asc_ext : ∀ {l l' : List Nat}, l.Pairwise (· < ·) → l'.Pairwise (· < ·) → (∀ v, v ∈ l ↔ v ∈ l') → l = l' := by
 intro l
 induction l with
 | nil =>
  intro l' _ _ h
  cases l' with
  | nil => rfl
  | cons b l' => exact absurd ((h b).2 (List.mem_cons_self ..)) (List.not_mem_nil)
 | cons a l ih =>
  intro l' h1 h2 h
  cases l' with
  | nil => exact absurd ((h a).1 (List.mem_cons_self ..)) (List.not_mem_nil)
  | cons b l' =>
   obtain ⟨p1, q1⟩ := List.pairwise_cons.1 h1
   obtain ⟨p2, q2⟩ := List.pairwise_cons.1 h2
   have e : a = b := by
    rcases List.mem_cons.1 ((h a).1 (List.mem_cons_self ..)) with e | ha
    ·exact e
    ·rcases List.mem_cons.1 ((h b).2 (List.mem_cons_self ..)) with e | hb
     ·exact e.symm
     ·have := p1 b hb
      have := p2 a ha
      omega
   subst e
   congr 1
   refine ih q1 q2 fun v => ⟨fun hv => ?_, fun hv => ?_⟩
   ·rcases List.mem_cons.1 ((h v).1 (List.mem_cons_of_mem _ hv)) with e | hv'
    ·have := p1 v hv
     omega
    ·exact hv'
   ·rcases List.mem_cons.1 ((h v).2 (List.mem_cons_of_mem _ hv)) with e | hv'
    ·have := p2 v hv
     omega
    ·exact hv'
theorem asc_get {l : List Nat} (h : l.Pairwise (· < ·)) {i j : Nat} (hij : i < j) (hj : j < l.length) : l.getD i 0 < l.getD j 0 := by
 have := List.pairwise_iff_getElem.1 h i j (by omega) hj hij
 rwa [List.getD_eq_getElem?_getD, List.getD_eq_getElem?_getD, List.getElem?_eq_getElem (by omega), List.getElem?_eq_getElem hj]
theorem asc_of {l : List Nat} (h : ∀ i, i + 1 < l.length → l.getD i 0 < l.getD (i + 1) 0) : l.Pairwise (· < ·) := by
 have key : ∀ d i, i + d + 1 < l.length → l.getD i 0 < l.getD (i + d + 1) 0 := fun d => by
  induction d with
  | zero => intro i hi; exact h i hi
  | succ d ih =>
   intro i hi
   exact Nat.lt_trans (ih i (by omega)) (h (i + d + 1) (by omega))
 refine List.pairwise_iff_getElem.2 fun i j hi hj hij => ?_
 have := key (j - i - 1) i (by omega)
 rw [show i + (j - i - 1) + 1 = j by omega] at this
 rwa [List.getD_eq_getElem?_getD, List.getD_eq_getElem?_getD, List.getElem?_eq_getElem hi, List.getElem?_eq_getElem hj] at this
theorem getD_mem0 {l : List Nat} {i : Nat} (h : i < l.length) : l.getD i 0 ∈ l := by
 rw [List.getD_eq_getElem?_getD, List.getElem?_eq_getElem h]
 exact List.getElem_mem _
theorem mem_getD0 {l : List Nat} {v : Nat} (h : v ∈ l) : ∃ i, i < l.length ∧ l.getD i 0 = v := by
 obtain ⟨i, hi, e⟩ := List.getElem_of_mem h
 exact ⟨i, hi, by rw [List.getD_eq_getElem?_getD, List.getElem?_eq_getElem hi]; exact e⟩
def vsT (t : Nat → Nat) : List Nat := (List.range 64).filter fun v => decide (t v ≠ 0)
def asT (t : Nat → Nat) : List Nat := (vsT t).map t
def updT (t : Nat → Nat) (v x : Nat) : Nat → Nat := fun u => if u = v then x else t u
theorem updT_same (t : Nat → Nat) (v x : Nat) : updT t v x v = x := if_pos rfl
theorem updT_ne (t : Nat → Nat) {v u : Nat} (x : Nat) (h : u ≠ v) : updT t v x u = t u := if_neg h
theorem vsT_mem {t : Nat → Nat} {v : Nat} : v ∈ vsT t ↔ v < 64 ∧ t v ≠ 0 := by simp [vsT]
theorem vsT_asc (t : Nat → Nat) : (vsT t).Pairwise (· < ·) := List.Pairwise.filter _ List.pairwise_lt_range
theorem vsT_len (t : Nat → Nat) : (vsT t).length ≤ 64 := by
 have := List.length_filter_le (fun v => decide (t v ≠ 0)) (List.range 64)
 rwa [List.length_range] at this
theorem vsT_get {t : Nat → Nat} {i : Nat} (h : i < (vsT t).length) : (vsT t).getD i 0 < 64 ∧ t ((vsT t).getD i 0) ≠ 0 := vsT_mem.1 (getD_mem0 h)
theorem vsT_inj {t : Nat → Nat} {i j : Nat} (hi : i < (vsT t).length) (hj : j < (vsT t).length) (h : (vsT t).getD i 0 = (vsT t).getD j 0) : i = j := by
 rcases Nat.lt_trichotomy i j with h1 | h1 | h1
 ·have := asc_get (vsT_asc t) h1 hj; omega
 ·exact h1
 ·have := asc_get (vsT_asc t) h1 hi; omega
theorem asT_len (t : Nat → Nat) : (asT t).length = (vsT t).length := List.length_map ..
theorem asT_get {t : Nat → Nat} {i : Nat} (h : i < (vsT t).length) : (asT t).getD i 0 = t ((vsT t).getD i 0) := by
 unfold asT
 rw [List.getD_eq_getElem?_getD, List.getD_eq_getElem?_getD, List.getElem?_map, List.getElem?_eq_getElem h]
 rfl
theorem vsT_ext {t t' : Nat → Nat} (h : ∀ v, v < 64 → t v = t' v) : vsT t = vsT t' := asc_ext (vsT_asc t) (vsT_asc t') fun v => by
 rw [vsT_mem, vsT_mem]
 constructor
 ·rintro ⟨h1, h2⟩; exact ⟨h1, by rw [← h v h1]; exact h2⟩
 ·rintro ⟨h1, h2⟩; exact ⟨h1, by rw [h v h1]; exact h2⟩
theorem asT_ext {t t' : Nat → Nat} (h : ∀ v, v < 64 → t v = t' v) : asT t = asT t' := by
 unfold asT
 rw [vsT_ext h]
 exact List.map_congr_left fun v hv => h v (vsT_mem.1 hv).1
def tabL : List Nat → List Nat → Nat → Nat
 | v :: vs, a :: ws => fun u => if u = v then a else tabL vs ws u
 | _, _ => fun _ => 0
theorem tabL_out : ∀ {vs ws : List Nat} {u : Nat}, u ∉ vs → tabL vs ws u = 0
 | [], [], _, _ => rfl
 | [], _ :: _, _, _ => rfl
 | _ :: _, [], _, _ => rfl
 | v :: vs, a :: ws, u, h => by
  show (if u = v then a else tabL vs ws u) = 0
  rw [if_neg fun e => h (by rw [e]; exact List.mem_cons_self ..), tabL_out fun h' => h (List.mem_cons_of_mem _ h')]
theorem tabL_get : ∀ {vs ws : List Nat}, vs.Pairwise (· < ·) → ws.length = vs.length → ∀ i, i < vs.length → tabL vs ws (vs.getD i 0) = ws.getD i 0
 | [], [], _, _, i, hi => absurd hi (Nat.not_lt_zero _)
 | v :: vs, a :: ws, h, hl, 0, _ => if_pos rfl
 | v :: vs, a :: ws, h, hl, i + 1, hi => by
  obtain ⟨h1, h2⟩ := List.pairwise_cons.1 h
  have hi' : i < vs.length := by simpa using hi
  have hm := h1 _ (getD_mem0 hi')
  show (if vs.getD i 0 = v then a else tabL vs ws (vs.getD i 0)) = ws.getD i 0
  rw [if_neg (by omega)]
  exact tabL_get h2 (by simpa using hl) i hi'
theorem tabL_vs {vs ws : List Nat} (h : vs.Pairwise (· < ·)) (hl : ws.length = vs.length) (h64 : ∀ v ∈ vs, v < 64) (h0 : ∀ i, i < ws.length → ws.getD i 0 ≠ 0) : vsT (tabL vs ws) = vs ∧ asT (tabL vs ws) = ws := by
 have e : vsT (tabL vs ws) = vs := asc_ext (vsT_asc _) h fun v => by
  rw [vsT_mem]
  constructor
  ·rintro ⟨_, h2⟩
   exact Classical.byContradiction fun hn => h2 (tabL_out hn)
  ·intro hv
   obtain ⟨i, hi, rfl⟩ := mem_getD0 hv
   exact ⟨h64 _ hv, by rw [tabL_get h hl i hi]; exact h0 i (by omega)⟩
 refine ⟨e, ?_⟩
 unfold asT
 rw [e]
 apply List.ext_getElem?
 intro j
 rw [List.getElem?_map]
 by_cases hj : j < vs.length
 ·have := tabL_get h hl j hj
  rw [List.getD_eq_getElem?_getD, List.getD_eq_getElem?_getD, List.getElem?_eq_getElem hj, List.getElem?_eq_getElem (by omega)] at this
  rw [List.getElem?_eq_getElem hj, List.getElem?_eq_getElem (by omega)]
  exact congrArg some this
 ·rw [List.getElem?_eq_none (by omega), List.getElem?_eq_none (by omega)]
  rfl
def prI (l : List Nat) (t : Nat → Nat) : Nat → Nat
 | 0 => 1
 | i + 1 => prI l t i * t (l.getD i 0)
def enI (l : List Nat) (t a : Nat → Nat) : Nat → Nat
 | 0 => 0
 | i + 1 => enI l t a i * t (l.getD i 0) + a (l.getD i 0)
def deI (l : List Nat) (t : Nat → Nat) : Nat → Nat → Nat → Nat
 | 0, _ => fun _ => 0
 | i + 1, n => updT (deI l t i (n / t (l.getD i 0))) (l.getD i 0) (n % t (l.getD i 0))
theorem enI_congr {l : List Nat} {t a b : Nat → Nat} : ∀ i, (∀ j, j < i → a (l.getD j 0) = b (l.getD j 0)) → enI l t a i = enI l t b i
 | 0, _ => rfl
 | i + 1, h => by
  show enI l t a i * _ + _ = enI l t b i * _ + _
  rw [enI_congr i fun j hj => h j (by omega), h i (by omega)]
theorem enI_lt {l : List Nat} {t a : Nat → Nat} : ∀ i, (∀ j, j < i → a (l.getD j 0) < t (l.getD j 0)) → enI l t a i < prI l t i
 | 0, _ => Nat.one_pos
 | i + 1, h => by
  have h1 := enI_lt i fun j hj => h j (by omega)
  have h2 := h i (by omega)
  show enI l t a i * _ + _ < prI l t i * _
  calc enI l t a i * t (l.getD i 0) + a (l.getD i 0) < enI l t a i * t (l.getD i 0) + t (l.getD i 0) := Nat.add_lt_add_left h2 _
   _ = (enI l t a i + 1) * t (l.getD i 0) := (Nat.succ_mul ..).symm
   _ ≤ prI l t i * t (l.getD i 0) := Nat.mul_le_mul_right _ h1
theorem deI_out {l : List Nat} {t : Nat → Nat} {v : Nat} : ∀ i n, (∀ j, j < i → l.getD j 0 ≠ v) → deI l t i n v = 0
 | 0, _, _ => rfl
 | i + 1, n, h => by
  show updT _ _ _ v = 0
  rw [updT_ne _ _ (fun e => h i (by omega) e.symm)]
  exact deI_out i _ fun j hj => h j (by omega)
def Dis (l : List Nat) (m : Nat) : Prop := ∀ i j, i < m → j < m → l.getD i 0 = l.getD j 0 → i = j
theorem Dis.mono {l : List Nat} {m k : Nat} (h : Dis l m) (hk : k ≤ m) : Dis l k := fun i j hi hj e => h i j (by omega) (by omega) e
theorem vsT_dis (t : Nat → Nat) : Dis (vsT t) (vsT t).length := fun i j hi hj e => vsT_inj hi hj e
theorem deI_lt {l : List Nat} {t : Nat → Nat} : ∀ i n, (∀ j, j < i → t (l.getD j 0) ≠ 0) → ∀ j, j < i → deI l t i n (l.getD j 0) < t (l.getD j 0)
 | 0, _, _, j, hj => absurd hj (Nat.not_lt_zero _)
 | i + 1, n, h, j, hj => by
  show updT _ _ _ _ < _
  by_cases e : l.getD j 0 = l.getD i 0
  ·rw [e, updT_same]
   exact Nat.mod_lt _ (Nat.pos_of_ne_zero (h i (by omega)))
  ·rw [updT_ne _ _ e]
   have hji : j < i := by
    rcases Nat.lt_or_ge j i with h' | h'
    ·exact h'
    ·exact absurd (by rw [show j = i by omega]) e
   exact deI_lt i _ (fun j hj => h j (by omega)) j hji
theorem deI_at {l : List Nat} {t : Nat → Nat} {i n : Nat} (h : Dis l (i + 1)) {j : Nat} (hj : j < i) : deI l t (i + 1) n (l.getD j 0) = deI l t i (n / t (l.getD i 0)) (l.getD j 0) :=
 updT_ne _ _ fun e => by have := h j i (by omega) (by omega) e; omega
theorem en_de {l : List Nat} {t : Nat → Nat} : ∀ i n, Dis l i → (∀ j, j < i → t (l.getD j 0) ≠ 0) → n < prI l t i → enI l t (deI l t i n) i = n
 | 0, n, _, _, hn => by have : n < 1 := hn; show 0 = n; omega
 | i + 1, n, hd, h0, hn => by
  have hn : n < prI l t i * t (l.getD i 0) := hn
  have hp := Nat.pos_of_ne_zero (h0 i (by omega))
  show enI l t (deI l t (i + 1) n) i * t (l.getD i 0) + deI l t (i + 1) n (l.getD i 0) = n
  rw [enI_congr i fun j hj => deI_at hd hj, en_de i (n / t (l.getD i 0)) (hd.mono (by omega)) (fun j hj => h0 j (by omega)) ((Nat.div_lt_iff_lt_mul hp).2 hn)]
  show n / _ * _ + updT _ _ _ _ = n
  rw [updT_same]
  exact Nat.div_add_mod' n _
theorem de_up {l : List Nat} {t : Nat → Nat} {i m : Nat} (h : m % t (l.getD i 0) + 1 < t (l.getD i 0)) : updT (deI l t (i + 1) m) (l.getD i 0) (m % t (l.getD i 0) + 1) = deI l t (i + 1) (m + 1) := by
 have e1 : (m + 1) % t (l.getD i 0) = m % t (l.getD i 0) + 1 := by
  rw [Nat.add_mod, Nat.mod_eq_of_lt (show 1 < t (l.getD i 0) by omega)]
  exact Nat.mod_eq_of_lt h
 have e2 : (m + 1) / t (l.getD i 0) = m / t (l.getD i 0) := by
  have h1 := Nat.div_add_mod m (t (l.getD i 0))
  have h2 := Nat.div_add_mod (m + 1) (t (l.getD i 0))
  rw [e1] at h2
  have h3 : t (l.getD i 0) * ((m + 1) / t (l.getD i 0)) = t (l.getD i 0) * (m / t (l.getD i 0)) := by omega
  exact Nat.eq_of_mul_eq_mul_left (by omega) h3
 funext u
 show updT (updT (deI l t i (m / t (l.getD i 0))) (l.getD i 0) (m % t (l.getD i 0))) (l.getD i 0) _ u = updT (deI l t i ((m + 1) / t (l.getD i 0))) (l.getD i 0) ((m + 1) % t (l.getD i 0)) u
 rw [e1, e2]
 by_cases e : u = l.getD i 0
 ·rw [e, updT_same, updT_same]
 ·rw [updT_ne _ _ e, updT_ne _ _ e, updT_ne _ _ e]
theorem de_over {l : List Nat} {t : Nat → Nat} {i m : Nat} (hd : Dis l (i + 1)) (h0 : t (l.getD i 0) ≠ 0) (h : ¬ m % t (l.getD i 0) + 1 < t (l.getD i 0)) : updT (deI l t (i + 1) m) (l.getD i 0) 0 = deI l t i (m / t (l.getD i 0)) ∧ deI l t (i + 1) (m + 1) = deI l t i (m / t (l.getD i 0) + 1) := by
 have hp := Nat.pos_of_ne_zero h0
 have hm := Nat.mod_lt m hp
 have em : m % t (l.getD i 0) + 1 = t (l.getD i 0) := by omega
 have h1 := Nat.div_add_mod m (t (l.getD i 0))
 have e3 : m + 1 = t (l.getD i 0) * (m / t (l.getD i 0) + 1) := by rw [Nat.mul_add, Nat.mul_one]; omega
 have e1 : (m + 1) % t (l.getD i 0) = 0 := by rw [e3, Nat.mul_mod_right]
 have e2 : (m + 1) / t (l.getD i 0) = m / t (l.getD i 0) + 1 := by rw [e3, Nat.mul_div_cancel_left _ hp]
 have out : ∀ n, deI l t i n (l.getD i 0) = 0 := fun n => deI_out i n fun j hj e => by have := hd j i (by omega) (by omega) e; omega
 refine ⟨?_, ?_⟩
 ·funext u
  show updT (updT (deI l t i (m / t (l.getD i 0))) (l.getD i 0) _) (l.getD i 0) 0 u = _
  by_cases e : u = l.getD i 0
  ·rw [e, updT_same, out]
  ·rw [updT_ne _ _ e, updT_ne _ _ e]
 ·funext u
  show updT (deI l t i ((m + 1) / t (l.getD i 0))) (l.getD i 0) ((m + 1) % t (l.getD i 0)) u = _
  rw [e1, e2]
  by_cases e : u = l.getD i 0
  ·rw [e, updT_same, out]
  ·rw [updT_ne _ _ e]
theorem deI_zero {l : List Nat} {t : Nat → Nat} : ∀ i u, deI l t i 0 u = 0
 | 0, _ => rfl
 | i + 1, u => by
  show updT (deI l t i (0 / t (l.getD i 0))) (l.getD i 0) (0 % t (l.getD i 0)) u = 0
  rw [Nat.zero_div, Nat.zero_mod]
  by_cases e : u = l.getD i 0
  ·rw [e, updT_same]
  ·rw [updT_ne _ _ e]; exact deI_zero i u
def szT (t : Nat → Nat) : Nat := prI (vsT t) t (vsT t).length
def enT (t a : Nat → Nat) : Nat := enI (vsT t) t a (vsT t).length
def deT (t : Nat → Nat) (n : Nat) : Nat → Nat := deI (vsT t) t (vsT t).length n
def okT (t : Nat → Nat) : Prop := (∀ v, t v ≤ 64) ∧ szT t ≤ 4096
def inT (t a : Nat → Nat) : Prop := ∀ v, v < 64 → t v ≠ 0 → a v < t v
theorem inT_get {t a : Nat → Nat} (h : inT t a) : ∀ j, j < (vsT t).length → a ((vsT t).getD j 0) < t ((vsT t).getD j 0) := fun j hj => h _ (vsT_get hj).1 (vsT_get hj).2
theorem enT_lt {t a : Nat → Nat} (h : inT t a) : enT t a < szT t := enI_lt _ (inT_get h)
theorem deT_in (t : Nat → Nat) (n : Nat) : inT t (deT t n) := fun v hv h0 => by
 obtain ⟨i, hi, rfl⟩ := mem_getD0 (vsT_mem.2 ⟨hv, h0⟩)
 exact deI_lt _ n (fun j hj => (vsT_get hj).2) i hi
theorem deT_out {t : Nat → Nat} {n v : Nat} (h : t v = 0) : deT t n v = 0 := deI_out _ n fun j hj e => (vsT_get hj).2 (by rw [e]; exact h)
theorem en_deT {t : Nat → Nat} {n : Nat} (h : n < szT t) : enT t (deT t n) = n := en_de _ n (vsT_dis t) (fun j hj => (vsT_get hj).2) h
theorem prI_pos {l : List Nat} {t : Nat → Nat} : ∀ i, (∀ j, j < i → t (l.getD j 0) ≠ 0) → 0 < prI l t i
 | 0, _ => Nat.one_pos
 | i + 1, h => Nat.mul_pos (prI_pos i fun j hj => h j (by omega)) (Nat.pos_of_ne_zero (h i (by omega)))
theorem prI_mono {l : List Nat} {t : Nat → Nat} {m : Nat} (h : ∀ j, j < m → t (l.getD j 0) ≠ 0) : ∀ i, i ≤ m → prI l t i ≤ prI l t m := fun i hi => by
 induction m with
 | zero => obtain rfl : i = 0 := (by omega); exact Nat.le_refl _
 | succ m ih =>
  by_cases e : i = m + 1
  ·rw [e]; exact Nat.le_refl _
  ·exact Nat.le_trans (ih (fun j hj => h j (by omega)) (by omega)) (Nat.le_mul_of_pos_right _ (Nat.pos_of_ne_zero (h m (by omega))))
theorem szT_pos (t : Nat → Nat) : 0 < szT t := prI_pos _ fun j hj => (vsT_get hj).2
theorem szT_ext {t t' : Nat → Nat} (h : ∀ v, v < 64 → t v = t' v) : szT t = szT t' := by
 unfold szT
 rw [vsT_ext h]
 have key : ∀ i, i ≤ (vsT t').length → prI (vsT t') t i = prI (vsT t') t' i := fun i => by
  induction i with
  | zero => intro _; rfl
  | succ i ih =>
   intro hi
   show prI _ _ i * _ = prI _ _ i * _
   rw [ih (by omega), h _ (vsT_get (show i < (vsT t').length by omega)).1]
 exact key _ (Nat.le_refl _)
end Go.Proofs.YtogpimmcodaljaaGreat
