/- Factors: what few leaves. -/
import Derived.Test.YtogpimmcodaljaaGreatFaJ
set_option linter.unusedVariables false
set_option maxRecDepth 20000
set_option linter.unusedSimpArgs false
namespace Go.Proofs.YtogpimmcodaljaaGreat
open Go Go.Proofs.YtogpimmcodaljaaGreat.Lift
attribute [local irreducible] Lift.PCall Lift.HCall
structure Sm (vs ws : List Int) (xs : List RT) : Prop where
 v : vs.length ≤ 70
 w : ws.length ≤ 70
 l : xs.length ≤ 5000
 y : ∀ x ∈ xs, Dg x.2.1 ∧ Dg x.2.2 ∧ x.2.1.length ≤ 3 ∧ x.2.2.length ≤ 3
 f : isF vs ws xs = false ∨ ∃ t q, okT t ∧ szT t ≤ 64 ∧ (∀ k, k < szT t → rL (q k) ≤ 3) ∧ vs = ci (vsT t) ∧ ws = ci (asT t) ∧ xs = xsT t q
theorem Sm.okY {vs ws : List Int} {xs : List RT} (h : Sm vs ws xs) : okY xs := fun x hx => by
 obtain ⟨a, b, c, d⟩ := h.y x hx
 exact ⟨a, b, by omega, by omega⟩
theorem xsT_len3 {t : Nat → Nat} {q : Nat → Rat} (hq : ∀ k, k < szT t → rL (q k) ≤ 3) : ∀ x ∈ xsT t q, Dg x.2.1 ∧ Dg x.2.2 ∧ x.2.1.length ≤ 3 ∧ x.2.2.length ≤ 3 := fun x hx => by
 obtain ⟨y, hy, rfl⟩ := List.mem_map.1 hx
 have h := ql_mem (P := fun q => rL q ≤ 3) hq y hy
 have h := Nat.max_le.1 h
 have h9 := xsT_okY (t := t) (q := q) (fun k hk => by have := hq k hk; omega) _ hx
 exact ⟨h9.1, h9.2.1, h.1, h.2⟩
theorem Fv.ex {vs ws : List Int} {xs : List RT} (hv : vs.length ≤ 70) (hw : ws.length ≤ 70) (hl : xs.length ≤ 5000) (hx : ∀ x ∈ xs, Dg x.2.1 ∧ Dg x.2.2 ∧ x.2.1.length ≤ 3 ∧ x.2.2.length ≤ 3) : ∃ vf wf xf, Fv vs ws xs vf wf xf ∧ Sm vf wf xf := by
 cases h : isF vs ws xs with
 | false => exact ⟨vs, ws, xs, .bad h, hv, hw, hl, hx, .inl h⟩
 | true =>
  obtain ⟨t, q, ht, rfl, rfl, rfl⟩ := isF_inv (fun x h => ⟨(hx x h).1, (hx x h).2.1⟩) h
  have hq : ∀ k, k < szT t → rL (q k) ≤ 3 := fun k hk => by
   have := hx (rtQ (q k)) (List.mem_map.2 ⟨q k, List.mem_map.2 ⟨k, List.mem_range.2 hk, rfl⟩, rfl⟩)
   exact fa_rL this.2.2.1 this.2.2.2
  obtain ⟨t', q', a, b, c, d⟩ := Fw.ex _ t q (Nat.le_refl _) ht hq
  refine ⟨_, _, _, .good ht hq b d c a, ?_, ?_, ?_, xsT_len3 d, .inr ⟨t', q', b, c, d, rfl, rfl, rfl⟩⟩
  ·rw [ci_length]; have := vsT_len t'; omega
  ·rw [ci_length, asT_len]; have := vsT_len t'; omega
  ·rw [xsT_length]; omega
theorem ffew_ok (vs ws : List Int) (xs : List RT) (hv : vs.length < 2 ^ 62) (ha : ws.length < 2 ^ 62) (hl : xs.length < 2 ^ 62) (hx : ∀ x ∈ xs, Dg x.2.1 ∧ Dg x.2.2 ∧ x.2.1.length < 2 ^ 62 ∧ x.2.2.length < 2 ^ 62) : ∃ vf wf xf, Sm vf wf xf ∧ PCall Tryz.prog 5 [fV vs ws xs] (fV vf wf xf) [] := by
 obtain ⟨vf, wf, xf, h1, h2⟩ := Fv.ex (vs := vs.take 70) (ws := ws.take 70) (xs := (xs.take 5000).map fcut) (by rw [List.length_take]; omega) (by rw [List.length_take]; omega) (by rw [List.length_map, List.length_take]; omega) (fun x h => by
  obtain ⟨y, hy, rfl⟩ := List.mem_map.1 h
  obtain ⟨d1, d2, _⟩ := hx y (List.mem_of_mem_take hy)
  refine ⟨fun z hz => d1 z (List.mem_of_mem_take hz), fun z hz => d2 z (List.mem_of_mem_take hz), ?_, ?_⟩
  ·show (y.2.1.take 3).length ≤ _
   rw [List.length_take]; omega
  ·show (y.2.2.take 3).length ≤ _
   rw [List.length_take]; omega)
 exact ⟨vf, wf, xf, h2, ffew_walk vs ws xs hv ha hl hx vf wf xf h1⟩
end Go.Proofs.YtogpimmcodaljaaGreat
/- Factors: Const (both), Total, the statements' own same and alive. -/
set_option linter.unusedVariables false
set_option linter.unusedSimpArgs false
namespace Go.Proofs.YtogpimmcodaljaaGreat
open Go Go.Proofs.YtogpimmcodaljaaGreat.Lift
attribute [local irreducible] Lift.PCall Lift.HCall
theorem Lift.Done.facN {st : St} {t t' : Tmp} {h h2 : Nat} {T T' T2 : TypeId} {z : List V} {s : Bool} {a b : List Nat} {e : Int} (hL : lay Tryz.prog T' = some ⟨3, true, 72, z⟩) (h1 : lkp st.fr t = some (.ptr h 0)) (g1 : lkp st.hp h = some ⟨T, [.nl, .nl, .own h2 0 1 3]⟩) (g2 : lkp st.hp h2 = some ⟨T2, [.b s, dg a, dg b]⟩) (g3 : lkp st.fr t' = some (.i .i64 e)) :
  Done Tryz.prog #[.cell t T', .tmp t'] (.tup [.agg [.sl [], .sl [], .sl [.agg [.b s, dg a, dg b]]], .i .i64 e]) [] st := by
 refine Done.of (vs := [.agg [.nl, .nl, .own h2 0 1 3], .i .i64 e]) (hp := dlt st.hp h2) ?_ ?_ rfl ?_ ?_
 ·simp only [resVs, resV, h1, g1, hL, g3]; rfl
 ·have := okFrz_frw [(s, a, b)]
  simp only [packV, frz, frzL, g2, List.not_mem_nil, if_false]
  rfl
 ·simp only [V.lt, V.ltL]; rfl
 ·simp only [V.ren, V.renL]
theorem Lift.Done.facE {st : St} {t t' : Tmp} {h : Nat} {T T' : TypeId} {z : List V} {e : Int} (hL : lay Tryz.prog T' = some ⟨3, true, 72, z⟩) (h1 : lkp st.fr t = some (.ptr h 0)) (g1 : lkp st.hp h = some ⟨T, [.nl, .nl, .nl]⟩) (g3 : lkp st.fr t' = some (.i .i64 e)) :
  Done Tryz.prog #[.cell t T', .tmp t'] (.tup [.agg [.sl [], .sl [], .sl []], .i .i64 e]) [] st := by
 refine Done.of (vs := [.agg [.nl, .nl, .nl], .i .i64 e]) (hp := st.hp) ?_ ?_ rfl ?_ ?_
 ·simp only [resVs, resV, h1, g1, hL, g3]; rfl
 ·rfl
 ·simp only [V.lt, V.ltL]; rfl
 ·simp only [V.ren, V.renL]
def coL (x : RT) : List RT := if isR3 x then [x] else []
def coE (x : RT) : Int := if isR3 x then 0 else 1
set_option maxHeartbeats 4000000 in
theorem fconst_ok (x : RT) (d1 : Dg x.2.1) (d2 : Dg x.2.2) (d3 : x.2.1.length ≤ 2 ^ 30) (d4 : x.2.2.length ≤ 2 ^ 30) : PCall Tryz.prog 41 [fR x] (.tup [fV [] [] (coL x), .i .i64 (coE x)]) [] := by
 have cr : PCall Tryz.prog 66 [.agg [.b x.1, dg x.2.1, dg x.2.2]] (.b (isR3 x)) [] := mR3_ok x d1 d2 (by omega) (by omega)
 unfold coL coE
 cases h : isR3 x with
 | false =>
  rw [h] at cr
  rw [if_neg (by decide), if_neg (by decide)]
  refine PCall.of_ax Tryz.call41 Tryz.func41 rfl (by simp [Tryz.ntmps41]) fun O w0 => ?_
  simp only [Tryz.ntmps41, Tryz.results41, argFr]
  refine AX.sR (rgAV [1, 2]) ?_
  refine AX.seq ?_
  refine AX.sR (rgCV [1, 2, 6] (aI cr oT)) ?_
  refine AX.condT ?_
  refine AX.sR (rgAV [2, 3]) ?_
  refine AX.ret ⟨.inl rfl, ?_⟩
  exact Lift.Done.facE fa_lay_fac rfl rfl rfl
 | true =>
  rw [h] at cr
  rw [if_pos rfl, if_pos rfl]
  obtain ⟨q, hq⟩ := fa_isR d1 d2 h
  have hq : x = rtQ q := hq
  subst hq
  have hL : rL q ≤ 2 ^ 30 := fa_rL d3 d4
  have co : PCall Tryz.prog 28 [.agg [.b (rtQ q).1, dg (rtQ q).2.1, dg (rtQ q).2.2]] (.agg [.b (rtQ q).1, dg (rtQ q).2.1, dg (rtQ q).2.2]) [] := fown_ok (IsQ.of hL) (by decide) (by decide)
  generalize rtQ q = x at *
  obtain ⟨s, a, b⟩ := x
  dsimp only at co cr
  refine PCall.of_ax Tryz.call41 Tryz.func41 rfl (by simp [Tryz.ntmps41]) fun O w0 => ?_
  simp only [Tryz.ntmps41, Tryz.results41, argFr]
  refine AX.sR (rgAV [1, 2]) ?_
  refine AX.seq ?_
  refine AX.sR (rgCV [1, 2, 6] (aI cr oT)) ?_
  refine AX.condF ?_
  refine AX.keepA [1, 2] ?_
  refine AX.skip ?_
  refine nmZ ?_
  refine AX.sR (rgCV [2, 3] (aI co oT)) ?_
  refine AX.ret ⟨.inl rfl, ?_⟩
  exact Lift.Done.facN fa_lay_fac rfl rfl rfl rfl
set_option maxHeartbeats 4000000 in
theorem lsame26_ok (vs ws : List Int) (xs : List RT) (vs' ws' : List Int) (ys : List RT) (h1 : vs.length < 2 ^ 40) (h2 : ws.length < 2 ^ 40) (h3 : xs.length < 2 ^ 40) (h4 : vs'.length < 2 ^ 40) (h5 : ws'.length < 2 ^ 40) (h6 : ys.length < 2 ^ 40) (hx : okY xs) (hy : okY ys) (e g : Int) (he : 0 ≤ e ∧ e < 100) (hg : 0 ≤ g ∧ g < 100) :
  PCall Tryz.prog 16 [fV vs ws xs, .i .i64 e, fV vs' ws' ys, .i .i64 g] (.b (decide (e = g) && sameF vs ws xs vs' ws' ys)) [] := by
 have cs := fsame26_ok vs ws xs vs' ws' ys h1 h2 h3 h4 h5 h6 hx hy
 generalize sameF vs ws xs vs' ws' ys = B at *
 unfold fV at *
 generalize zl vs = V1 at *
 generalize zl ws = V2 at *
 generalize zl vs' = V3 at *
 generalize zl ws' = V4 at *
 generalize xs.map fR = V5 at *
 generalize ys.map fR = V6 at *
 refine PCall.of_ax Tryz.call16 Tryz.func16 rfl (by simp [Tryz.ntmps16]) fun O w0 => ?_
 simp only [Tryz.ntmps16, Tryz.results16, argFr]
 by_cases h : e = g
 ·subst h
  have hd : decide (e = e) = true := decide_eq_true rfl
  rw [hd, Bool.true_and]
  refine AX.sR (rgAV [1, 3, 4, 6]) ?_
  refine AX.sR (rgCV [8] (aI cs oT)) ?_
  refine AX.ret ⟨.inl rfl, ?_⟩
  exact Done.one rfl rfl rfl rfl
 ·have hd : decide (e = g) = false := decide_eq_false h
  rw [hd, Bool.false_and]
  refine AX.sR (rgAV [1, 3, 4, 6]) ?_
  refine AX.sR (rgWV [8] (aI @h oT) (aI cs oT)) ?_
  refine AX.ret ⟨.inl rfl, ?_⟩
  exact Done.one rfl rfl rfl rfl
end Go.Proofs.YtogpimmcodaljaaGreat
