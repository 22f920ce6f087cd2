/- Factors: few, in plain words: the last variable is restricted until 64 cells are left. -/
import Derived.Test.YtogpimmcodaljaaFaH
set_option linter.unusedVariables false
set_option maxRecDepth 20000
set_option linter.unusedSimpArgs false
namespace Go.Proofs.Ytogpimmcodaljaa
open Go Go.Proofs.Ytogpimmcodaljaa.Lift
attribute [local irreducible] Lift.PCall Lift.HCall
def lastT (t : Nat → Nat) : Nat := (vsT t).getD ((vsT t).length - 1) 0
theorem vsT_pos {t : Nat → Nat} (h : 1 < szT t) : 0 < (vsT t).length := by
 refine Nat.pos_of_ne_zero fun e => ?_
 unfold szT at h
 rw [e] at h
 exact Nat.lt_irrefl 1 h
theorem lastT_ok {t : Nat → Nat} (h : 1 < szT t) : lastT t < 64 ∧ t (lastT t) ≠ 0 := vsT_get (by have := vsT_pos h; omega)
theorem vsT_del_len {t : Nat → Nat} {v : Nat} (hv : v < 64) (h0 : t v ≠ 0) : (vsT (updT t v 0)).length < (vsT t).length := by
 have e : vsT (updT t v 0) = (vsT t).filter fun u => decide (u ≠ v) := by
  unfold vsT
  rw [List.filter_filter]
  refine List.filter_congr fun u hu => ?_
  by_cases h : u = v
  ·rw [h, updT_same]; simp
  ·rw [updT_ne _ _ h]; simp [h]
 rw [e]
 exact List.length_filter_lt_length_iff_exists.2 ⟨v, vsT_mem.2 ⟨hv, h0⟩, by simp⟩
inductive Fw : (Nat → Nat) → (Nat → Rat) → (Nat → Nat) → (Nat → Rat) → Prop
 | stop {t : Nat → Nat} {q : Nat → Rat} : ¬ 64 < szT t → Fw t q t q
 | step {t : Nat → Nat} {q : Nat → Rat} {t' : Nat → Nat} {q' : Nat → Rat} : 64 < szT t → Fw (updT t (lastT t) 0) (woQ t q (lastT t) 2 ((0 : Nat) : Int)) t' q' → Fw t q t' q'
theorem Fw.inv {t : Nat → Nat} {q : Nat → Rat} {t' : Nat → Nat} {q' : Nat → Rat} (h : Fw t q t' q') : (¬ 64 < szT t ∧ t' = t ∧ q' = q) ∨ (64 < szT t ∧ Fw (updT t (lastT t) 0) (woQ t q (lastT t) 2 ((0 : Nat) : Int)) t' q') := by
 cases h with
 | stop h => exact .inl ⟨h, rfl, rfl⟩
 | step h g => exact .inr ⟨h, g⟩
theorem fw_q {t : Nat → Nat} {q : Nat → Rat} {L : Nat} (ht : okT t) (hq : ∀ k, k < szT t → rL (q k) ≤ L) {v : Nat} (h0 : t v ≠ 0) : ∀ k, rL (woQ t q v 2 ((0 : Nat) : Int) k) ≤ L := fun k => by
 rw [woQ_two (by omega)]
 exact hq _ (enT_lt (inT_upd (by omega)))
theorem Fw.ex {L : Nat} : ∀ (n : Nat) (t : Nat → Nat) (q : Nat → Rat), (vsT t).length ≤ n → okT t → (∀ k, k < szT t → rL (q k) ≤ L) → ∃ t' q', Fw t q t' q' ∧ okT t' ∧ szT t' ≤ 64 ∧ ∀ k, k < szT t' → rL (q' k) ≤ L
 | n, t, q, hn, ht, hq => by
  by_cases h : 64 < szT t
  ·obtain ⟨h1, h2⟩ := lastT_ok (t := t) (by omega)
   have h3 := vsT_del_len h1 h2
   match n, hn with
   | 0, hn => omega
   | n + 1, hn =>
    obtain ⟨t', q', a, b⟩ := Fw.ex n (updT t (lastT t) 0) _ (by omega) (okT_del ht _) fun k _ => fw_q ht hq h2 k
    exact ⟨t', q', .step h a, b⟩
  ·exact ⟨t, q, .stop h, ht, by omega, hq⟩
end Go.Proofs.Ytogpimmcodaljaa
