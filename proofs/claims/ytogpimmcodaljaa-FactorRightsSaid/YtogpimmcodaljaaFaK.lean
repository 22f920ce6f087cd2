/- Factors: what few leaves. -/
import Derived.Test.YtogpimmcodaljaaFaJ
set_option linter.unusedVariables false
set_option maxRecDepth 20000
set_option linter.unusedSimpArgs false
namespace Go.Proofs.Ytogpimmcodaljaa
open Go Go.Proofs.Ytogpimmcodaljaa.Lift
attribute [local irreducible] Lift.PCall Lift.HCall
structure Sm (vs ws : List Int) (xs : List RT) : Prop where
 v : vs.length ≤ 70
 w : ws.length ≤ 70
 l : xs.length ≤ 5000
 y : ∀ x ∈ xs, Dg x.2.1 ∧ Dg x.2.2 ∧ x.2.1.length ≤ 3 ∧ x.2.2.length ≤ 3
 f : isF vs ws xs = false ∨ ∃ t q, okT t ∧ szT t ≤ 64 ∧ (∀ k, k < szT t → rL (q k) ≤ 3) ∧ vs = ci (vsT t) ∧ ws = ci (asT t) ∧ xs = xsT t q
theorem Sm.okY {vs ws : List Int} {xs : List RT} (h : Sm vs ws xs) : okY xs := fun x hx => by
 obtain ⟨a, b, c, d⟩ := h.y x hx
 exact ⟨a, b, by omega, by omega⟩
theorem xsT_len3 {t : Nat → Nat} {q : Nat → Rat} (hq : ∀ k, k < szT t → rL (q k) ≤ 3) : ∀ x ∈ xsT t q, Dg x.2.1 ∧ Dg x.2.2 ∧ x.2.1.length ≤ 3 ∧ x.2.2.length ≤ 3 := fun x hx => by
 obtain ⟨y, hy, rfl⟩ := List.mem_map.1 hx
 have h := ql_mem (P := fun q => rL q ≤ 3) hq y hy
 have h := Nat.max_le.1 h
 have h9 := xsT_okY (t := t) (q := q) (fun k hk => by have := hq k hk; omega) _ hx
 exact ⟨h9.1, h9.2.1, h.1, h.2⟩
theorem Fv.ex {vs ws : List Int} {xs : List RT} (hv : vs.length ≤ 70) (hw : ws.length ≤ 70) (hl : xs.length ≤ 5000) (hx : ∀ x ∈ xs, Dg x.2.1 ∧ Dg x.2.2 ∧ x.2.1.length ≤ 3 ∧ x.2.2.length ≤ 3) : ∃ vf wf xf, Fv vs ws xs vf wf xf ∧ Sm vf wf xf := by
 cases h : isF vs ws xs with
 | false => exact ⟨vs, ws, xs, .bad h, hv, hw, hl, hx, .inl h⟩
 | true =>
  obtain ⟨t, q, ht, rfl, rfl, rfl⟩ := isF_inv (fun x h => ⟨(hx x h).1, (hx x h).2.1⟩) h
  have hq : ∀ k, k < szT t → rL (q k) ≤ 3 := fun k hk => by
   have := hx (rtQ (q k)) (List.mem_map.2 ⟨q k, List.mem_map.2 ⟨k, List.mem_range.2 hk, rfl⟩, rfl⟩)
   exact fa_rL this.2.2.1 this.2.2.2
  obtain ⟨t', q', a, b, c, d⟩ := Fw.ex _ t q (Nat.le_refl _) ht hq
  refine ⟨_, _, _, .good ht hq b d c a, ?_, ?_, ?_, xsT_len3 d, .inr ⟨t', q', b, c, d, rfl, rfl, rfl⟩⟩
  ·rw [ci_length]; have := vsT_len t'; omega
  ·rw [ci_length, asT_len]; have := vsT_len t'; omega
  ·rw [xsT_length]; omega
theorem ffew_ok (vs ws : List Int) (xs : List RT) (hv : vs.length < 2 ^ 62) (ha : ws.length < 2 ^ 62) (hl : xs.length < 2 ^ 62) (hx : ∀ x ∈ xs, Dg x.2.1 ∧ Dg x.2.2 ∧ x.2.1.length < 2 ^ 62 ∧ x.2.2.length < 2 ^ 62) : ∃ vf wf xf, Sm vf wf xf ∧ PCall Try.prog 8 [fV vs ws xs] (fV vf wf xf) [] := by
 obtain ⟨vf, wf, xf, h1, h2⟩ := Fv.ex (vs := vs.take 70) (ws := ws.take 70) (xs := (xs.take 5000).map fcut) (by rw [List.length_take]; omega) (by rw [List.length_take]; omega) (by rw [List.length_map, List.length_take]; omega) (fun x h => by
  obtain ⟨y, hy, rfl⟩ := List.mem_map.1 h
  obtain ⟨d1, d2, _⟩ := hx y (List.mem_of_mem_take hy)
  refine ⟨fun z hz => d1 z (List.mem_of_mem_take hz), fun z hz => d2 z (List.mem_of_mem_take hz), ?_, ?_⟩
  ·show (y.2.1.take 3).length ≤ _
   rw [List.length_take]; omega
  ·show (y.2.2.take 3).length ≤ _
   rw [List.length_take]; omega)
 exact ⟨vf, wf, xf, h2, ffew_walk vs ws xs hv ha hl hx vf wf xf h1⟩
end Go.Proofs.Ytogpimmcodaljaa
