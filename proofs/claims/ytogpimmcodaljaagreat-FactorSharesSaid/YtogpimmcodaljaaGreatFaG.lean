/- Factors: the reference's without, Restrict. -/
import Derived.Test.YtogpimmcodaljaaGreatFaF
set_option linter.unusedVariables false
set_option maxRecDepth 20000
set_option linter.unusedSimpArgs false
namespace Go.Proofs.YtogpimmcodaljaaGreat
open Go Go.Proofs.YtogpimmcodaljaaGreat.Lift
attribute [local irreducible] Lift.PCall Lift.HCall
theorem cmpR_ngt {p q : Rat} (h : ¬ q < p) : ¬ 0 < cmpR p q := fun h9 => h (by
 unfold cmpR at h9
 split at h9
 ·exact absurd h9 (by decide)
 ·split at h9
  ·exact absurd h9 (by decide)
  ·rename_i h1 h2
   grind)
theorem Lift.DoneG.cellT {st : St} {a : Tmp} {h : Nat} {T T0 : TypeId} {s : Bool} {x y : List Nat} {G : Nat → Nat} (h1 : lkp st.fr a = some (.ptr h 0)) (h2 : lkp st.hp h = some ⟨T, [.b s, dg x, dg y]⟩) (h3 : lkp st.hp 0 = some ⟨T0, tb G⟩) : DoneG Tryz.prog #[.cell a 38] (.agg [.b s, dg x, dg y]) [⟨T0, tb G⟩] st := by
 refine ⟨[.agg [.b s, dg x, dg y]], ?_, rfl, rfl, rfl, fun n hn => ?_⟩
 ·simp only [resVs, resV, h1, h2, lay_ratio]; rfl
 ·obtain rfl : n = 0 := by simpa using hn
  exact ⟨h3, lt_tb _ _, ren_tb _ _⟩
set_option maxHeartbeats 8000000 in
theorem fat26_g (t : Nat → Nat) (q : Nat → Rat) (ht : okT t) (G : Nat → Nat) (hG : inT t G) : GCall Tryz.prog 56 [.agg [.sl (zl (ci (vsT t))), .sl (zl (ci (asT t))), .sl ((ql (szT t) q).map rV)], .own 0 0 64 1] [⟨3, tb G⟩] [⟨3, tb G⟩] (.agg [.b (decide ((q (enT t G)).num < 0)), dg (digits (q (enT t G)).num.natAbs), dg (digits (q (enT t G)).den)]) := by
 have hm := vsT_len t
 have hzv : (zl (ci (vsT t))).length = (vsT t).length := zn_length _
 have hza : (zl (ci (asT t))).length = (vsT t).length := (zn_length _).trans (asT_len t)
 have hgv := fun j (hj : j < (vsT t).length) => show (zl (ci (vsT t))).getD j .junk = .i .i64 (((vsT t).getD j 0 : Nat) : Int) from zn_get hj
 have hga := fun j (hj : j < (vsT t).length) => show (zl (ci (asT t))).getD j .junk = .i .i64 ((t ((vsT t).getD j 0) : Nat) : Int) from (zn_get (by rw [asT_len]; exact hj)).trans (by rw [asT_get hj])
 have hix := fun x y => effIxT (x := x) (y := y) q (enT_lt hG)
 unfold enT at hix ⊢
 refine GCall.of_ax rfl Tryz.call56 Tryz.func56 rfl (by simp [Tryz.ntmps56]) fun O M w0 E0 => ?_
 simp only [Tryz.ntmps56, Tryz.results56, argFr, rowsFr, List.length_cons, List.length_nil, Nat.zero_add, Nat.reduceAdd]
 generalize zl (ci (vsT t)) = Vs at *
 generalize zl (ci (asT t)) = As at *
 generalize (ql (szT t) q).map rV = X at *
 refine AX.sR (rgAV [1, 2, 4]) ?_
 refine AX.sR (rgAV [1, 2, 4, 5]) ?_
 refine AX.seq ?_
 refine AX.sR (rgWV [1, 2, 4, 5, 9, 10, 11] (aI @hzv oT) oT) ?_
 refine AX.weaken id (st' := ⟨[(11, .i .i64 (0 : Nat)), (10, .i .i64 (vsT t).length), (9, .sl Vs), (5, .i .i64 (enI (vsT t) t G 0)), (4, .ptr 2 0), (2, .ptr 1 0), (1, .own 0 0 64 1)], [(2, ⟨38, [.b false, .nl, .nl]⟩), (1, ⟨30, [.sl Vs, .sl As, .sl X]⟩), (0, ⟨3, tb G⟩)], 3⟩)
  leQ3
  ?_
 refine AX.block ?_
 refine AX.loop (fun N st => ∃ (i E : Nat), i ≤ (vsT t).length ∧ N = (vsT t).length - i ∧ enI (vsT t) t G i = E ∧ st = ⟨[(11, .i .i64 i), (10, .i .i64 (vsT t).length), (9, .sl Vs), (5, .i .i64 E), (4, .ptr 2 0), (2, .ptr 1 0), (1, .own 0 0 64 1)], [(2, ⟨38, [.b false, .nl, .nl]⟩), (1, ⟨30, [.sl Vs, .sl As, .sl X]⟩), (0, ⟨3, tb G⟩)], 3⟩) (vsT t).length ⟨0, _, Nat.zero_le _, rfl, rfl, rfl⟩ ?_
 rintro N st ⟨i, _, hi, rfl, rfl, rfl⟩
 by_cases h1 : i < (vsT t).length
 ·have g1 := hgv i h1
  have g2 := hga i h1
  obtain ⟨b1, b2⟩ := vsT_get h1
  have b3 := ht.1 ((vsT t).getD i 0)
  have n3 := inT_get hG i h1
  have g3 := tb_get G b1
  have g4 := tb_length G
  have hE := enI_lt (l := vsT t) (t := t) (a := G) i (fun j hj => inT_get hG j (by omega))
  have hP := prI_mono (l := vsT t) (t := t) (m := (vsT t).length) (fun j hj => (vsT_get hj).2) i hi
  have hnx : enI (vsT t) t G (i + 1) = enI (vsT t) t G i * t ((vsT t).getD i 0) + G ((vsT t).getD i 0) := rfl
  have hS := ht.2
  unfold szT at hS
  clear hgv hga
  obtain ⟨E', hE'⟩ : ∃ E', enI (vsT t) t G (i + 1) = E' := ⟨_, rfl⟩
  rw [hE'] at hnx
  generalize enI (vsT t) t G i = E at *
  generalize G ((vsT t).getD i 0) = x at *
  generalize t ((vsT t).getD i 0) = k at *
  generalize (vsT t).getD i 0 = v at g1 g2 b1 g3
  obtain ⟨p, hp⟩ : ∃ p, E * k = p := ⟨_, rfl⟩
  rw [hp] at hnx
  have m1 : (E : Int) * (k : Int) = (p : Int) := by rw [← Int.natCast_mul, hp]
  have bp : p ≤ 4096 * 64 := by rw [← hp]; exact Nat.mul_le_mul (by omega) b3
  have a1 : (p : Int) + (x : Int) = (E' : Int) := by omega
  refine AX.sR (rgAV [1, 2, 4, 5, 9, 10, 11, 12]) ?_
  refine AX.seq ?_
  refine AX.condT ?_
  refine AX.keepA [1, 2, 4, 5, 9, 10, 11] ?_
  refine AX.skip ?_
  refine nmZ ?_
  refine AX.seq ?_
  refine AX.block ?_
  refine AX.sR (rgWV [1, 2, 4, 5, 6, 7, 9, 10, 11] (aI @hzv (aI @g1 oT)) oT) ?_
  refine AX.rD (rgDWV [1, 2, 4, 5, 9, 10, 11] (aI @hza (aI @g2 (aI @g3 (aI @g4 (aI @m1 (aI @a1 oT)))))) oT) ?_
  refine nmZ ?_
  refine AX.rR (rgWV [1, 2, 4, 5, 9, 10, 11] (aI @lit_add oT) oT) ?_
  refine nmZ ?_
  refine ⟨_, _, id, ?_,
   leQ3
   , ⟨i + 1, E', by omega, rfl, hE', rfl⟩⟩
  omega
 ·obtain rfl : i = (vsT t).length := by omega
  have hE := enI_lt (l := vsT t) (t := t) (a := G) (vsT t).length (fun j hj => inT_get hG j hj)
  have hS := ht.2
  unfold szT at hS
  generalize q (enI (vsT t) t G (vsT t).length) = r at *
  generalize enI (vsT t) t G (vsT t).length = E at *
  refine AX.sR (rgAV [1, 2, 4, 5, 9, 10, 11, 12]) ?_
  refine AX.seq ?_
  refine AX.condF ?_
  refine AX.exit ?_
  refine nmZ ?_
  refine AX.sR (rgEV [4] oT oT (aI hix oT)) ?_
  refine AX.ret ⟨.inl rfl, ?_⟩
  exact DoneG.cellT rfl rfl rfl
def mulL : List Nat → Nat
 | [] => 1
 | a :: l => a * mulL l
theorem mulL_app : ∀ l l' : List Nat, mulL (l ++ l') = mulL l * mulL l'
 | [], l' => (Nat.one_mul _).symm
 | a :: l, l' => by
  show a * mulL (l ++ l') = a * mulL l * mulL l'
  rw [mulL_app l l', Nat.mul_assoc]
theorem mulL_prI (l : List Nat) (t : Nat → Nat) : ∀ i, i ≤ l.length → prI l t i = mulL ((l.take i).map t)
 | 0, _ => rfl
 | i + 1, h => by
  show prI l t i * _ = _
  rw [mulL_prI l t i (by omega), List.take_succ_eq_append_getElem (by omega), List.map_append, mulL_app, List.getD_eq_getElem?_getD, List.getElem?_eq_getElem (by omega)]
  show _ * t _ = _ * (t _ * 1)
  rw [Nat.mul_one]
  rfl
theorem szT_mulL (t : Nat → Nat) : szT t = mulL ((vsT t).map t) := by
 unfold szT
 rw [mulL_prI _ _ _ (Nat.le_refl _), List.take_length]
theorem mulL_filter {t : Nat → Nat} (p : Nat → Bool) : ∀ {l : List Nat}, (∀ u ∈ l, t u ≠ 0) → mulL ((l.filter p).map t) ≤ mulL (l.map t)
 | [], _ => Nat.le_refl _
 | a :: l, h => by
  have ih := mulL_filter p (l := l) fun u hu => h u (List.mem_cons_of_mem _ hu)
  have ha := h a (List.mem_cons_self ..)
  show _ ≤ t a * mulL (l.map t)
  cases hp : p a
  ·rw [List.filter_cons_of_neg (by rw [hp]; decide)]
   exact Nat.le_trans ih (Nat.le_mul_of_pos_left _ (Nat.pos_of_ne_zero ha))
  ·rw [List.filter_cons_of_pos hp]
   exact Nat.mul_le_mul_left _ ih
theorem vsT_del (t : Nat → Nat) (w : Nat) : vsT (updT t w 0) = (vsT t).filter fun u => decide (u ≠ w) := asc_ext (vsT_asc _) (List.Pairwise.filter _ (vsT_asc t)) fun v => by
 rw [List.mem_filter, vsT_mem, vsT_mem, decide_eq_true_eq]
 by_cases e : v = w
 ·rw [e, updT_same]
  constructor
  ·rintro ⟨_, h⟩; exact absurd rfl h
  ·rintro ⟨_, h⟩; exact absurd rfl h
 ·rw [updT_ne _ _ e]
  constructor
  ·rintro ⟨h1, h2⟩; exact ⟨⟨h1, h2⟩, e⟩
  ·rintro ⟨⟨h1, h2⟩, _⟩; exact ⟨h1, h2⟩
theorem szT_del (t : Nat → Nat) (w : Nat) : szT (updT t w 0) ≤ szT t := by
 rw [szT_mulL, szT_mulL, vsT_del]
 have e : ((vsT t).filter fun u => decide (u ≠ w)).map (updT t w 0) = ((vsT t).filter fun u => decide (u ≠ w)).map t := List.map_congr_left fun u hu => by
  have := (List.mem_filter.1 hu).2
  exact updT_ne _ _ (of_decide_eq_true this)
 rw [e]
 exact mulL_filter _ fun u hu => (vsT_mem.1 hu).2
theorem updT_le {t : Nat → Nat} (h : ∀ v, t v ≤ 64) (w : Nat) {x : Nat} (hx : x ≤ 64) : ∀ v, updT t w x v ≤ 64 := fun v => by
 by_cases e : v = w
 ·rw [e, updT_same]; exact hx
 ·rw [updT_ne _ _ e]; exact h v
theorem okT_del {t : Nat → Nat} (h : okT t) (w : Nat) : okT (updT t w 0) := ⟨updT_le h.1 w (Nat.zero_le _), Nat.le_trans (szT_del t w) h.2⟩
theorem inT_upd {t : Nat → Nat} {w n k : Nat} (hk : k < t w) : inT t (updT (deT (updT t w 0) n) w k) := fun v hv h0 => by
 by_cases e : v = w
 ·rw [e, updT_same]; exact hk
 ·rw [updT_ne _ _ e]
  have := deT_in (updT t w 0) n v hv (by rw [updT_ne _ _ e]; exact h0)
  rwa [updT_ne _ _ e] at this
def woX (what : Nat) (arm : Int) (f : Nat → Rat) : Nat → Rat
 | 0 => 0
 | k + 1 => if k = 0 ∨ what = 2 ∧ (k : Int) = arm then f k else if what = 0 then woX what arm f k + f k else if what = 1 ∧ woX what arm f k < f k then f k else woX what arm f k
theorem woX_len {what : Nat} {arm : Int} {f : Nat → Rat} {L m : Nat} (h : ∀ k, k < m → rL (f k) ≤ L) : ∀ k, k ≤ m → rL (woX what arm f k) ≤ k * (L + 1) + 1 := fun k => by
 induction k with
 | zero => intro _; exact Nat.le_trans (by decide +kernel : rL (0 : Rat) ≤ 1) (by omega)
 | succ k ih =>
  intro hk
  have h1 := ih (by omega)
  have h2 := h k (by omega)
  have h3 : (k + 1) * (L + 1) = k * (L + 1) + (L + 1) := Nat.succ_mul _ _
  show rL (if k = 0 ∨ what = 2 ∧ (k : Int) = arm then f k else if what = 0 then woX what arm f k + f k else if what = 1 ∧ woX what arm f k < f k then f k else woX what arm f k) ≤ _
  split
  ·omega
  ·split
   ·have := rL_add _ _ h1 h2
    omega
   ·split
    ·omega
    ·omega
def woQ (t : Nat → Nat) (q : Nat → Rat) (w what : Nat) (arm : Int) (n : Nat) : Rat := woX what arm (fun k => q (enT t (updT (deT (updT t w 0) n) w k))) (t w)
theorem woQ_len {t : Nat → Nat} {q : Nat → Rat} {w what L : Nat} {arm : Int} (ht : okT t) (hq : ∀ k, k < szT t → rL (q k) ≤ L) (n : Nat) : rL (woQ t q w what arm n) ≤ 64 * (L + 1) + 1 := by
 have h1 := woX_len (what := what) (arm := arm) (f := fun k => q (enT t (updT (deT (updT t w 0) n) w k))) (m := t w) (fun k hk => hq _ (enT_lt (inT_upd hk))) (t w) (Nat.le_refl _)
 have h2 : t w * (L + 1) ≤ 64 * (L + 1) := Nat.mul_le_mul_right _ (ht.1 w)
 unfold woQ
 omega
def xcV (what : Nat) (arm : Int) (f : Nat → Rat) (k : Nat) : List V := if k = 0 then [.b false, .nl, .nl] else (rV (woX what arm f k)).cells
theorem xcV_pos {what : Nat} {arm : Int} {f : Nat → Rat} {k : Nat} (h : k ≠ 0) : xcV what arm f k = [.b (decide ((woX what arm f k).num < 0)), dg (digits (woX what arm f k).num.natAbs), dg (digits (woX what arm f k).den)] := if_neg h
theorem Lift.Done.facS {st : St} {t t' : Tmp} {h h2 K : Nat} {T T' T2 : TypeId} {z z1 z2 : List V} {xs : List Rat} {e : Int} (hL : lay Tryz.prog T' = some ⟨3, true, 72, z⟩) (h1 : lkp st.fr t = some (.ptr h 0)) (g1 : lkp st.hp h = some ⟨T, [.sl z1, .sl z2, .own h2 0 K 3]⟩) (g2 : lkp st.hp h2 = some ⟨T2, qrow xs⟩) (g3 : lkp st.fr t' = some (.i .i64 e)) (hK : K = xs.length) :
  Done Tryz.prog #[.cell t T', .tmp t'] (.tup [.agg [.sl z1, .sl z2, .sl (xs.map rV)], .i .i64 e]) [] st := by
 subst hK
 refine Done.of (vs := [.agg [.sl z1, .sl z2, .own h2 0 xs.length 3], .i .i64 e]) (hp := dlt st.hp h2) ?_ ?_ rfl ?_ ?_
 ·simp only [resVs, resV, h1, g1, hL, g3]; rfl
 ·simp only [packV, frz, frzL, g2, List.not_mem_nil, if_false, take_q, flat_q, hf_q, qrow_length, Nat.zero_add, Nat.le_refl, and_self, if_true, chunks_q, Nat.zero_lt_succ, true_and]
 ·simp only [V.lt, V.ltL]; rfl
 ·simp only [V.ren, V.renL]
end Go.Proofs.YtogpimmcodaljaaGreat
