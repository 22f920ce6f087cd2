/- Factors (plain): products in any order, sums in any order, a factor moved out of a sum. -/
import Derived.Test.YtogpimmcodaljaaKP
set_option linter.unusedVariables false
set_option maxRecDepth 20000
set_option linter.unusedSimpArgs false
namespace Go.Proofs.Ytogpimmcodaljaa
open Go Go.Proofs.Ytogpimmcodaljaa.Lift
attribute [local irreducible] Lift.PCall Lift.HCall
def smN (f : Nat → Rat) : Nat → Rat
 | 0 => 0
 | n + 1 => smN f n + f n
theorem woX_sm (arm : Int) (f : Nat → Rat) : ∀ n, woX 0 arm f n = smN f n
 | 0 => rfl
 | k + 1 => by
  show (if k = 0 ∨ 0 = 2 ∧ (k : Int) = arm then f k else if 0 = 0 then woX 0 arm f k + f k else _) = smN f k + f k
  rw [woX_sm arm f k]
  by_cases h0 : k = 0
  ·subst h0
   rw [if_pos (.inl rfl)]
   exact (Rat.zero_add _).symm
  ·rw [if_neg (by omega), if_pos rfl]
theorem smN_congr {f g : Nat → Rat} : ∀ n, (∀ k, k < n → f k = g k) → smN f n = smN g n
 | 0, _ => rfl
 | n + 1, h => by
  show smN f n + f n = smN g n + g n
  rw [smN_congr n fun k hk => h k (by omega), h n (by omega)]
theorem smN_zero : ∀ n, smN (fun _ => 0) n = 0
 | 0 => rfl
 | n + 1 => by
  show smN (fun _ => 0) n + 0 = 0
  rw [smN_zero n]
  exact Rat.add_zero _
theorem smN_add (f g : Nat → Rat) : ∀ n, smN (fun k => f k + g k) n = smN f n + smN g n
 | 0 => (Rat.zero_add _).symm
 | n + 1 => by
  show smN (fun k => f k + g k) n + (f n + g n) = smN f n + f n + (smN g n + g n)
  rw [smN_add f g n]
  grind
theorem smN_swap (f : Nat → Nat → Rat) (m : Nat) : ∀ n, smN (fun j => smN (fun k => f j k) m) n = smN (fun k => smN (fun j => f j k) n) m
 | 0 => (smN_zero m).symm
 | n + 1 => by
  show smN (fun j => smN (fun k => f j k) m) n + smN (fun k => f n k) m = smN (fun k => smN (fun j => f j k) n + f n k) m
  rw [smN_swap f m n, smN_add]
theorem smN_mul (f : Nat → Rat) (c : Rat) : ∀ n, smN (fun k => f k * c) n = smN f n * c
 | 0 => (Rat.zero_mul _).symm
 | n + 1 => by
  show smN (fun k => f k * c) n + f n * c = (smN f n + f n) * c
  rw [smN_mul f c n]
  grind
theorem enT_de {t s : Nat → Nat} {D : Nat → Nat} (hs : ∀ u, u < 64 → t u ≠ 0 → s u = t u) (hD : inT s D) : enT t (deT s (enT s D)) = enT t D := enT_congr fun u hu h0 => de_enT hD hu (by rw [hs u hu h0]; exact h0)
theorem updT_comm (t : Nat → Nat) {v w : Nat} (h : v ≠ w) (x y : Nat) : updT (updT t v x) w y = updT (updT t w y) v x := funext fun u => by
 by_cases e1 : u = w
 ·rw [e1, updT_same, updT_ne _ _ (Ne.symm h), updT_same]
 ·rw [updT_ne _ _ e1]
  by_cases e2 : u = v
  ·rw [e2, updT_same, updT_same]
  ·rw [updT_ne _ _ e2, updT_ne _ _ e2, updT_ne _ _ e1]
theorem enT_out {t D : Nat → Nat} {v x : Nat} (h : t v = 0) : enT t (updT D v x) = enT t D := enT_congr fun u hu h0 => updT_ne _ _ fun e => h0 (by rw [e]; exact h)
theorem mis_of {t s : Nat → Nat} (h : ∀ u, u < 64 → t u ≠ 0 → s u ≠ 0 → t u = s u) : ¬ misT t s := fun ⟨j, hj, h1, h2⟩ => h2 (h _ (vsT_get hj).1 h1 (vsT_get hj).2)
theorem mis_comm {t s : Nat → Nat} (h : ¬ misT t s) : ¬ misT s t := mis_of fun u hu h1 h2 => (mis_eq h hu h1 h2).symm
theorem joT_comm {t s : Nat → Nat} (h : ¬ misT t s) {u : Nat} (hu : u < 64) : joT t s u = joT s t u := by
 by_cases h1 : t u = 0
 ·have e1 : joT t s u = s u := if_neg fun h => h h1
  rw [e1]
  by_cases h2 : s u = 0
  ·have e2 : joT s t u = t u := if_neg fun h => h h2
   rw [e2, h1, h2]
  ·exact (show joT s t u = s u from if_pos h2).symm
 ·have e1 : joT t s u = t u := if_pos h1
  rw [e1]
  by_cases h2 : s u = 0
  ·exact (show joT s t u = t u from if_neg fun h => h h2).symm
  ·rw [mis_eq h hu h2 h1]
   exact (show joT s t u = s u from if_pos h2).symm
theorem deT_ext {t t' : Nat → Nat} (h : ∀ v, v < 64 → t v = t' v) (n : Nat) : deT t n = deT t' n := by
 have key : ∀ (l : List Nat) (i m : Nat), (∀ j, j < i → l.getD j 0 < 64) → deI l t i m = deI l t' i m := by
  intro l i
  induction i with
  | zero => intro m _; rfl
  | succ i ih =>
   intro m hl
   show updT (deI l t i (m / t (l.getD i 0))) (l.getD i 0) (m % t (l.getD i 0)) = updT (deI l t' i (m / t' (l.getD i 0))) (l.getD i 0) (m % t' (l.getD i 0))
   rw [h _ (hl i (by omega)), ih _ fun j hj => hl j (by omega)]
 unfold deT
 rw [← vsT_ext h]
 exact key _ _ _ fun j hj => (vsT_get hj).1
theorem boV_comm {t s : Nat → Nat} {q p : Nat → Rat} : boV t s (boQ opMul t s q p) = boV s t (boQ opMul s t p q) := by
 unfold boV
 by_cases h : misT t s
 ·have h' : misT s t := Classical.byContradiction fun h' => mis_comm h' h
  rw [if_pos h, if_pos h']
 ·have h' := mis_comm h
  rw [if_neg h, if_neg h', szT_ext fun u hu => joT_comm h hu]
  split
  ·congr 2
   refine FV_ext (fun u hu => joT_comm h hu) fun n hn => ?_
   unfold boQ opMul
   rw [deT_ext (fun u hu => joT_comm h hu) n, Rat.mul_comm]
  ·rfl
theorem mul_assoc_ok {a b c : Nat → Nat} {q p r : Nat → Rat} (h1 : ¬ misT a b) (h2 : ¬ misT (joT a b) c) (h3 : ¬ misT b c) (h4 : ¬ misT a (joT b c)) :
  FV (joT (joT a b) c) (boQ opMul (joT a b) c (boQ opMul a b q p) r) = FV (joT a (joT b c)) (boQ opMul a (joT b c) q (boQ opMul b c p r)) := by
 have e : joT (joT a b) c = joT a (joT b c) := funext fun u => by
  unfold joT
  by_cases ha : a u = 0
  ·by_cases hb : b u = 0
   ·simp [ha, hb]
   ·simp [ha, hb]
  ·simp [ha]
 rw [← e]
 refine FV_ext (fun _ _ => rfl) fun n hn => ?_
 have hD := deT_in (joT (joT a b) c) n
 have i1 := joT_in1 hD
 have i2 := joT_in2 h2 hD
 have i3 : inT (joT b c) (deT (joT (joT a b) c) n) := joT_in2 h4 (by rw [← e]; exact hD)
 have x1 : boQ opMul (joT a b) c (boQ opMul a b q p) r n = boQ opMul a b q p (enT (joT a b) (deT (joT (joT a b) c) n)) * r (enT c (deT (joT (joT a b) c) n)) := rfl
 have x2 : boQ opMul a (joT b c) q (boQ opMul b c p r) n = q (enT a (deT (joT a (joT b c)) n)) * boQ opMul b c p r (enT (joT b c) (deT (joT a (joT b c)) n)) := rfl
 rw [x1, x2, ← e]
 generalize deT (joT (joT a b) c) n = D at *
 have y1 : boQ opMul a b q p (enT (joT a b) D) = q (enT a D) * p (enT b D) := by
  unfold boQ opMul
  rw [enT_de (t := a) (s := joT a b) (fun u hu h0 => if_pos h0) i1, enT_de (t := b) (s := joT a b) (fun u hu h0 => joT_2 h1 hu h0) i1]
 have y2 : boQ opMul b c p r (enT (joT b c) D) = p (enT b D) * r (enT c D) := by
  unfold boQ opMul
  rw [enT_de (t := b) (s := joT b c) (fun u hu h0 => if_pos h0) i3, enT_de (t := c) (s := joT b c) (fun u hu h0 => joT_2 h3 hu h0) i3]
 rw [y1, y2, Rat.mul_assoc]
theorem woQ_sm {t : Nat → Nat} {q : Nat → Rat} {v n : Nat} {arm : Int} : woQ t q v 0 arm n = smN (fun k => q (enT t (updT (deT (updT t v 0) n) v k))) (t v) := woX_sm _ _ _
theorem sum_at {t : Nat → Nat} {q : Nat → Rat} {v : Nat} {arm : Int} {D : Nat → Nat} (hD : inT (updT t v 0) D) : woQ t q v 0 arm (enT (updT t v 0) D) = smN (fun k => q (enT t (updT D v k))) (t v) := by
 rw [woQ_sm]
 refine smN_congr _ fun k hk => ?_
 congr 1
 refine enT_congr fun u hu h0 => ?_
 by_cases e : u = v
 ·rw [e, updT_same, updT_same]
 ·rw [updT_ne _ _ e, updT_ne _ _ e]
  exact de_enT hD hu (by rw [updT_ne _ _ e]; exact h0)
theorem sum_swap {t : Nat → Nat} {q : Nat → Rat} {v w : Nat} (h : v ≠ w) : FV (updT (updT t v 0) w 0) (woQ (updT t v 0) (woQ t q v 0 0) w 0 0) = FV (updT (updT t w 0) v 0) (woQ (updT t w 0) (woQ t q w 0 0) v 0 0) := by
 have e := updT_comm t h 0 0
 rw [← e]
 refine FV_ext (fun _ _ => rfl) fun n hn => ?_
 have hD := deT_in (updT (updT t v 0) w 0) n
 have tw : updT t v 0 w = t w := updT_ne _ _ (Ne.symm h)
 have tv : updT t w 0 v = t v := updT_ne _ _ h
 rw [woQ_sm, woQ_sm, tw, tv, ← e]
 generalize deT (updT (updT t v 0) w 0) n = D at *
 have s1 : smN (fun j => woQ t q v 0 0 (enT (updT t v 0) (updT D w j))) (t w) = smN (fun j => smN (fun k => q (enT t (updT (updT D w j) v k))) (t v)) (t w) := smN_congr _ fun j hj => sum_at (inT_put hD (by rw [tw]; exact hj))
 have s2 : smN (fun k => woQ t q w 0 0 (enT (updT t w 0) (updT D v k))) (t v) = smN (fun k => smN (fun j => q (enT t (updT (updT D v k) w j))) (t w)) (t v) := smN_congr _ fun k hk => sum_at (inT_put (by rw [← e]; exact hD) (by rw [tv]; exact hk))
 rw [s1, s2, smN_swap]
 refine smN_congr _ fun k hk => smN_congr _ fun j hj => ?_
 rw [updT_comm D h k j]
theorem joT_del {t s : Nat → Nat} {v : Nat} (h : s v = 0) : joT (updT t v 0) s = updT (joT t s) v 0 := funext fun u => by
 by_cases e : u = v
 ·rw [e, updT_same]
  have : joT (updT t v 0) s v = s v := if_neg fun h' => h' (updT_same _ _ _)
  rw [this, h]
 ·rw [updT_ne _ _ e]
  unfold joT
  rw [updT_ne _ _ e]
theorem mis_del {t s : Nat → Nat} {v : Nat} (h : ¬ misT t s) : ¬ misT (updT t v 0) s := mis_of fun u hu h1 h2 => by
 by_cases e : u = v
 ·exact absurd (by rw [e, updT_same]) h1
 ·rw [updT_ne _ _ e] at h1 ⊢
  exact mis_eq h hu h2 h1
theorem sum_out {t s : Nat → Nat} {q p : Nat → Rat} {v : Nat} (hm : ¬ misT t s) (hv : s v = 0) (h0 : t v ≠ 0) : FV (updT (joT t s) v 0) (woQ (joT t s) (boQ opMul t s q p) v 0 0) = FV (joT (updT t v 0) s) (boQ opMul (updT t v 0) s (woQ t q v 0 0) p) := by
 rw [joT_del hv]
 refine FV_ext (fun _ _ => rfl) fun n hn => ?_
 have hD := deT_in (updT (joT t s) v 0) n
 have tv : joT t s v = t v := if_pos h0
 have x2 : boQ opMul (updT t v 0) s (woQ t q v 0 0) p n = woQ t q v 0 0 (enT (updT t v 0) (deT (updT (joT t s) v 0) n)) * p (enT s (deT (updT (joT t s) v 0) n)) := by
  unfold boQ opMul
  rw [joT_del hv]
 rw [woQ_sm, x2, tv]
 generalize deT (updT (joT t s) v 0) n = D at *
 have iD : inT (updT t v 0) D := joT_in1 (s := s) (by rw [joT_del hv]; exact hD)
 rw [sum_at iD, ← smN_mul]
 refine smN_congr _ fun k hk => ?_
 have i1 := inT_put hD (show k < joT t s v by rw [tv]; exact hk)
 unfold boQ opMul
 rw [enT_de (t := t) (s := joT t s) (fun u hu h0 => if_pos h0) i1, enT_de (t := s) (s := joT t s) (fun u hu h0 => joT_2 hm hu h0) i1, enT_out (t := s) hv]
end Go.Proofs.Ytogpimmcodaljaa
/- The law FactorOrders: the walks. -/
set_option linter.unusedVariables false
set_option linter.unusedSimpArgs false
namespace Go.Proofs.Ytogpimmcodaljaa
open Go Go.Proofs.Ytogpimmcodaljaa.Lift
attribute [local irreducible] Lift.PCall Lift.HCall
set_option maxHeartbeats 16000000 in
theorem factorOrders_bad (U0 W0 X0 U1 W1 X1 U2 W2 X2 F1 F2 F3 G1 G2 G3 H1 H2 H3 A1 A2 A3 B1 B2 B3 C1 C2 C3 D1 D2 D3 Y1 Y2 Y3 : List V) (i k l : Int) (v w : Int) (rf rg : Bool) (hi : 0 ≤ i ∧ i < 100) (hk : 0 ≤ k ∧ k < 100) (hl : 0 ≤ l ∧ l < 100) (hv : -9223372036854775808 ≤ v ∧ v ≤ 9223372036854775807) (hw : -9223372036854775808 ≤ w ∧ w ≤ 9223372036854775807)
  (c1 : PCall Try.prog 8 [.agg [.sl U0, .sl W0, .sl X0]] (.agg [.sl F1, .sl F2, .sl F3]) []) (c2 : PCall Try.prog 8 [.agg [.sl U1, .sl W1, .sl X1]] (.agg [.sl G1, .sl G2, .sl G3]) []) (c3 : PCall Try.prog 8 [.agg [.sl U2, .sl W2, .sl X2]] (.agg [.sl H1, .sl H2, .sl H3]) [])
  (ca : PCall Try.prog 22 [.agg [.sl F1, .sl F2, .sl F3], .agg [.sl G1, .sl G2, .sl G3]] (.tup [.agg [.sl A1, .sl A2, .sl A3], .i .i64 1]) []) (cb : PCall Try.prog 22 [.agg [.sl A1, .sl A2, .sl A3], .agg [.sl H1, .sl H2, .sl H3]] (.tup [.agg [.sl B1, .sl B2, .sl B3], .i .i64 i]) [])
  (cc : PCall Try.prog 22 [.agg [.sl G1, .sl G2, .sl G3], .agg [.sl H1, .sl H2, .sl H3]] (.tup [.agg [.sl C1, .sl C2, .sl C3], .i .i64 k]) []) (cd : PCall Try.prog 22 [.agg [.sl F1, .sl F2, .sl F3], .agg [.sl C1, .sl C2, .sl C3]] (.tup [.agg [.sl D1, .sl D2, .sl D3], .i .i64 l]) [])
  (cx : PCall Try.prog 22 [.agg [.sl G1, .sl G2, .sl G3], .agg [.sl F1, .sl F2, .sl F3]] (.tup [.agg [.sl Y1, .sl Y2, .sl Y3], .i .i64 1]) [])
  (cr1 : PCall Try.prog 14 [.agg [.sl F1, .sl F2, .sl F3]] (.b rf) []) (cr2 : PCall Try.prog 14 [.agg [.sl G1, .sl G2, .sl G3]] (.b rg) []) (hr : ¬ (rf = true ∧ rg = true)) :
  PCall Try.prog 7 [.agg [.sl U0, .sl W0, .sl X0], .agg [.sl U1, .sl W1, .sl X1], .agg [.sl U2, .sl W2, .sl X2], .i .i64 v, .i .i64 w] (.b true) [] := by
 have cal := lalive26_ok
 refine PCall.of_ax Try.call7 Try.func7 rfl (by simp [Try.ntmps7]) fun O w9 => ?_
 simp only [Try.ntmps7, Try.results7, argFr]
 refine AX.sR (rgAV [3, 4, 5, 6, 7]) ?_
 refine AX.sD (rgDCV [3, 4, 5, 6, 7] (aI c1 (aI c2 (aI c3 oT)))) ?_
 refine AX.sR (rgCV [3, 4, 5, 6, 7, 11, 12] (aI ca oT)) ?_
 refine AX.sR (rgCV [3, 4, 5, 6, 7, 11, 12, 13, 14] (aI cb oT)) ?_
 refine AX.sR (rgCV [3, 4, 5, 6, 11, 12, 13, 14, 15, 16] (aI cc oT)) ?_
 refine AX.sR (rgCV [3, 4, 5, 6, 11, 12, 13, 14, 16, 17, 18] (aI cd oT)) ?_
 clear c1 c2 c3 ca cb cc cd
 refine AX.seq ?_
 refine AX.sR (rgAV [3, 4, 5, 6, 11, 12, 77]) ?_
 refine AX.condF ?_
 refine AX.keepA [3, 4, 5, 6, 11, 12] ?_
 refine AX.skip ?_
 refine nmZ ?_
 refine AX.sR (rgCV [3, 4, 5, 6, 11, 12, 19, 20] (aI cx oT)) ?_
 refine AX.seq ?_
 refine AX.sR (rgAV [3, 4, 5, 6, 11, 12, 96]) ?_
 refine AX.condF ?_
 refine AX.keepA [3, 4, 5, 6, 11, 12] ?_
 refine AX.skip ?_
 refine nmZ ?_
 refine AX.seq ?_
 cases rf with
 | false =>
  refine AX.sR (rgCV [3, 4, 5, 6, 11, 12, 104] (aI cr1 oT)) ?_
  refine AX.condT ?_
  refine AX.sR (rgCV [10] (aI cal oT)) ?_
  refine AX.ret ⟨.inl rfl, ?_⟩
  exact Done.one rfl rfl rfl rfl
 | true =>
  cases rg with
  | true => exact absurd ⟨rfl, rfl⟩ hr
  | false =>
   refine AX.sR (rgCV [3, 4, 5, 6, 11, 12, 104] (aI cr1 (aI cr2 oT))) ?_
   refine AX.condT ?_
   refine AX.sR (rgCV [10] (aI cal oT)) ?_
   refine AX.ret ⟨.inl rfl, ?_⟩
   exact Done.one rfl rfl rfl rfl
set_option maxHeartbeats 32000000 in
theorem factorOrders_good (U0 W0 X0 U1 W1 X1 U2 W2 X2 F1 F2 F3 : List V) (us : List Int) (G2 G3 H1 H2 H3 A1 A2 A3 B1 B2 B3 C1 C2 C3 D1 D2 D3 Y1 Y2 Y3 S1 S2 S3 P1 P2 P3 T1 T2 T3 Q1 Q2 Q3 : List V) (e i k l : Int) (v w : Int) (hus : us.length < 2 ^ 40) (hub : ∀ j, j < us.length → -9223372036854775808 ≤ us.getD j 0 ∧ us.getD j 0 ≤ 9223372036854775807) (he : 0 ≤ e ∧ e < 100) (hi : 0 ≤ i ∧ i < 100) (hk : 0 ≤ k ∧ k < 100) (hl : 0 ≤ l ∧ l < 100) (hv : -9223372036854775808 ≤ v ∧ v ≤ 9223372036854775807) (hw : -9223372036854775808 ≤ w ∧ w ≤ 9223372036854775807)
  (c1 : PCall Try.prog 8 [.agg [.sl U0, .sl W0, .sl X0]] (.agg [.sl F1, .sl F2, .sl F3]) []) (c2 : PCall Try.prog 8 [.agg [.sl U1, .sl W1, .sl X1]] (.agg [.sl (zl us), .sl G2, .sl G3]) []) (c3 : PCall Try.prog 8 [.agg [.sl U2, .sl W2, .sl X2]] (.agg [.sl H1, .sl H2, .sl H3]) [])
  (ca : PCall Try.prog 22 [.agg [.sl F1, .sl F2, .sl F3], .agg [.sl (zl us), .sl G2, .sl G3]] (.tup [.agg [.sl A1, .sl A2, .sl A3], .i .i64 e]) []) (cb : PCall Try.prog 22 [.agg [.sl A1, .sl A2, .sl A3], .agg [.sl H1, .sl H2, .sl H3]] (.tup [.agg [.sl B1, .sl B2, .sl B3], .i .i64 i]) [])
  (cc : PCall Try.prog 22 [.agg [.sl (zl us), .sl G2, .sl G3], .agg [.sl H1, .sl H2, .sl H3]] (.tup [.agg [.sl C1, .sl C2, .sl C3], .i .i64 k]) []) (cd : PCall Try.prog 22 [.agg [.sl F1, .sl F2, .sl F3], .agg [.sl C1, .sl C2, .sl C3]] (.tup [.agg [.sl D1, .sl D2, .sl D3], .i .i64 l]) [])
  (cx : PCall Try.prog 22 [.agg [.sl (zl us), .sl G2, .sl G3], .agg [.sl F1, .sl F2, .sl F3]] (.tup [.agg [.sl Y1, .sl Y2, .sl Y3], .i .i64 e]) [])
  (cr1 : PCall Try.prog 14 [.agg [.sl F1, .sl F2, .sl F3]] (.b true) []) (cr2 : PCall Try.prog 14 [.agg [.sl (zl us), .sl G2, .sl G3]] (.b true) [])
  (hs1 : e = 0 → i = 0 → k = 0 → l = 0 → PCall Try.prog 16 [.agg [.sl B1, .sl B2, .sl B3], .agg [.sl D1, .sl D2, .sl D3]] (.b true) []) (hs2 : e = 0 → PCall Try.prog 16 [.agg [.sl A1, .sl A2, .sl A3], .agg [.sl Y1, .sl Y2, .sl Y3]] (.b true) [])
  (cs1 : PCall Try.prog 28 [.agg [.sl F1, .sl F2, .sl F3], .i .i64 v] (.tup [.agg [.sl S1, .sl S2, .sl S3], .i .i64 0]) []) (cs2 : PCall Try.prog 28 [.agg [.sl S1, .sl S2, .sl S3], .i .i64 w] (.tup [.agg [.sl P1, .sl P2, .sl P3], .i .i64 0]) [])
  (ct1 : PCall Try.prog 28 [.agg [.sl F1, .sl F2, .sl F3], .i .i64 w] (.tup [.agg [.sl T1, .sl T2, .sl T3], .i .i64 0]) []) (ct2 : PCall Try.prog 28 [.agg [.sl T1, .sl T2, .sl T3], .i .i64 v] (.tup [.agg [.sl Q1, .sl Q2, .sl Q3], .i .i64 0]) [])
  (cq : PCall Try.prog 16 [.agg [.sl P1, .sl P2, .sl P3], .agg [.sl Q1, .sl Q2, .sl Q3]] (.b true) [])
  (htail : e = 0 → (∀ j, j < us.length → us.getD j 0 ≠ v) → ∃ M1 M2 M3 N1 N2 N3 : List V, PCall Try.prog 28 [.agg [.sl A1, .sl A2, .sl A3], .i .i64 v] (.tup [.agg [.sl M1, .sl M2, .sl M3], .i .i64 0]) [] ∧ PCall Try.prog 22 [.agg [.sl S1, .sl S2, .sl S3], .agg [.sl (zl us), .sl G2, .sl G3]] (.tup [.agg [.sl N1, .sl N2, .sl N3], .i .i64 0]) [] ∧ PCall Try.prog 16 [.agg [.sl M1, .sl M2, .sl M3], .agg [.sl N1, .sl N2, .sl N3]] (.b true) []) :
  PCall Try.prog 7 [.agg [.sl U0, .sl W0, .sl X0], .agg [.sl U1, .sl W1, .sl X1], .agg [.sl U2, .sl W2, .sl X2], .i .i64 v, .i .i64 w] (.b true) [] := by
 have cal := lalive26_ok
 have hzv := zl_length us
 have hgv := fun j (hj : j < us.length) => zl_get hj
 generalize zl us = Us at *
 refine PCall.of_ax Try.call7 Try.func7 rfl (by simp [Try.ntmps7]) fun O w9 => ?_
 simp only [Try.ntmps7, Try.results7, argFr]
 refine AX.sR (rgAV [3, 4, 5, 6, 7]) ?_
 refine AX.sD (rgDCV [3, 4, 5, 6, 7] (aI c1 (aI c2 (aI c3 oT)))) ?_
 refine AX.sR (rgCV [3, 4, 5, 6, 7, 11, 12] (aI ca oT)) ?_
 refine AX.sR (rgCV [3, 4, 5, 6, 7, 11, 12, 13, 14] (aI cb oT)) ?_
 refine AX.sR (rgCV [3, 4, 5, 6, 11, 12, 13, 14, 15, 16] (aI cc oT)) ?_
 refine AX.sR (rgCV [3, 4, 5, 6, 11, 12, 13, 14, 16, 17, 18] (aI cd oT)) ?_
 clear c1 c2 c3 ca cb cc cd
 refine AX.cut (fun st => Le 0 id ⟨[(12, .i .i64 e), (11, .ptr 3 0), (6, .ptr 1 0), (5, .ptr 0 0), (4, .i .i64 w), (3, .i .i64 v)], [(3, ⟨25, [.sl A1, .sl A2, .sl A3]⟩), (1, ⟨25, [.sl Us, .sl G2, .sl G3]⟩), (0, ⟨25, [.sl F1, .sl F2, .sl F3]⟩)], 7⟩ st) ?_ ?_
 ·clear hs2 cs1 cs2 ct1 ct2 cq htail cr1 cr2 cx
  by_cases k1 : e = 0
  ·subst k1
   by_cases k2 : i = 0
   ·subst k2
    by_cases k3 : k = 0
    ·subst k3
     by_cases k4 : l = 0
     ·subst k4
      have hs1 := hs1 rfl rfl rfl rfl
      refine AX.sR (rgCV [3, 4, 5, 6, 11, 12, 77] (aI hs1 oT)) ?_
      refine AX.condF ?_
      refine AX.keepA [3, 4, 5, 6, 11, 12] ?_
      refine AX.skip ?_
      refine nmZ ?_
      exact ⟨by first | exact trivial | rfl,
       leQ5
       ⟩
     ·clear hs1
      refine AX.sR (rgWV [3, 4, 5, 6, 11, 12, 77] (aI @k4 oT) oT) ?_
      refine AX.condF ?_
      refine AX.keepA [3, 4, 5, 6, 11, 12] ?_
      refine AX.skip ?_
      refine nmZ ?_
      exact ⟨by first | exact trivial | rfl,
       leQ5
       ⟩
    ·clear hs1
     refine AX.sR (rgWV [3, 4, 5, 6, 11, 12, 77] (aI @k3 oT) oT) ?_
     refine AX.condF ?_
     refine AX.keepA [3, 4, 5, 6, 11, 12] ?_
     refine AX.skip ?_
     refine nmZ ?_
     exact ⟨by first | exact trivial | rfl,
      leQ5
      ⟩
   ·clear hs1
    refine AX.sR (rgWV [3, 4, 5, 6, 11, 12, 77] (aI @k2 oT) oT) ?_
    refine AX.condF ?_
    refine AX.keepA [3, 4, 5, 6, 11, 12] ?_
    refine AX.skip ?_
    refine nmZ ?_
    exact ⟨by first | exact trivial | rfl,
     leQ5
     ⟩
  ·clear hs1
   refine AX.sR (rgWV [3, 4, 5, 6, 11, 12, 77] (aI @k1 oT) oT) ?_
   refine AX.condF ?_
   refine AX.keepA [3, 4, 5, 6, 11, 12] ?_
   refine AX.skip ?_
   refine nmZ ?_
   exact ⟨by first | exact trivial | rfl,
    leQ5
    ⟩
 rintro st hle
 refine AX.weaken id hle ?_
 clear hle hs1
 refine AX.sR (rgCV [3, 4, 5, 6, 11, 12, 19, 20] (aI cx oT)) ?_
 clear cx
 refine AX.cut (fun st => Le 0 id ⟨[(12, .i .i64 e), (11, .ptr 3 0), (6, .ptr 1 0), (5, .ptr 0 0), (4, .i .i64 w), (3, .i .i64 v)], [(3, ⟨25, [.sl A1, .sl A2, .sl A3]⟩), (1, ⟨25, [.sl Us, .sl G2, .sl G3]⟩), (0, ⟨25, [.sl F1, .sl F2, .sl F3]⟩)], 8⟩ st) ?_ ?_
 ·clear cs1 cs2 ct1 ct2 cq htail cr1 cr2
  by_cases k1 : e = 0
  ·subst k1
   have hs2 := hs2 rfl
   refine AX.sR (rgCV [3, 4, 5, 6, 11, 12, 96] (aI hs2 oT)) ?_
   refine AX.condF ?_
   refine AX.keepA [3, 4, 5, 6, 11, 12] ?_
   refine AX.skip ?_
   refine nmZ ?_
   exact ⟨by first | exact trivial | rfl,
    leQ5
    ⟩
  ·clear hs2
   refine AX.sR (rgWV [3, 4, 5, 6, 11, 12, 96] (aI @k1 oT) oT) ?_
   refine AX.condF ?_
   refine AX.keepA [3, 4, 5, 6, 11, 12] ?_
   refine AX.skip ?_
   refine nmZ ?_
   exact ⟨by first | exact trivial | rfl,
    leQ5
    ⟩
 rintro st hle
 refine AX.weaken id hle ?_
 clear hle hs2
 refine AX.seq ?_
 refine AX.sR (rgCV [3, 4, 5, 6, 11, 12, 104] (aI cr1 (aI cr2 oT))) ?_
 refine AX.condF ?_
 refine AX.keepA [3, 4, 5, 6, 11, 12] ?_
 refine AX.skip ?_
 refine nmZ ?_
 refine AX.sR (rgCV [3, 4, 5, 6, 11, 12, 21] (aI cs1 oT)) ?_
 refine AX.sR (rgCV [3, 4, 5, 6, 11, 12, 21] (aI cs2 oT)) ?_
 refine AX.sR (rgCV [3, 5, 6, 11, 12, 21, 23] (aI ct1 oT)) ?_
 refine AX.sR (rgCV [3, 5, 6, 11, 12, 21, 23] (aI ct2 oT)) ?_
 refine AX.seq ?_
 refine AX.sR (rgCV [3, 5, 6, 11, 12, 21, 23, 133] (aI cq oT)) ?_
 refine AX.condF ?_
 refine AX.keepA [3, 5, 6, 11, 12, 21, 23] ?_
 refine AX.skip ?_
 refine nmZ ?_
 clear cr1 cr2 cs2 ct1 ct2 cq
 refine AX.seq ?_
 refine AX.sR (rgWV [3, 5, 6, 11, 12, 21, 23, 135, 136, 137] (aI @hzv oT) oT) ?_
 refine AX.weaken id (st' := ⟨[(137, .i .i64 (0 : Nat)), (136, .i .i64 us.length), (135, .sl Us), (23, .ptr 9 0), (21, .ptr 8 0), (12, .i .i64 e), (11, .ptr 3 0), (6, .ptr 1 0), (5, .ptr 0 0), (3, .i .i64 v)], [(9, ⟨25, [.sl Q1, .sl Q2, .sl Q3]⟩), (8, ⟨25, [.sl P1, .sl P2, .sl P3]⟩), (3, ⟨25, [.sl A1, .sl A2, .sl A3]⟩), (1, ⟨25, [.sl Us, .sl G2, .sl G3]⟩), (0, ⟨25, [.sl F1, .sl F2, .sl F3]⟩)], 10⟩)
  leQ5
  ?_
 refine AX.block ?_
 refine AX.loop (fun n st => ∃ j : Nat, j ≤ us.length ∧ n = us.length - j ∧ (∀ m, m < j → us.getD m 0 ≠ v) ∧ st = ⟨[(137, .i .i64 j), (136, .i .i64 us.length), (135, .sl Us), (23, .ptr 9 0), (21, .ptr 8 0), (12, .i .i64 e), (11, .ptr 3 0), (6, .ptr 1 0), (5, .ptr 0 0), (3, .i .i64 v)], [(9, ⟨25, [.sl Q1, .sl Q2, .sl Q3]⟩), (8, ⟨25, [.sl P1, .sl P2, .sl P3]⟩), (3, ⟨25, [.sl A1, .sl A2, .sl A3]⟩), (1, ⟨25, [.sl Us, .sl G2, .sl G3]⟩), (0, ⟨25, [.sl F1, .sl F2, .sl F3]⟩)], 10⟩) us.length ⟨0, Nat.zero_le _, rfl, fun m hm => absurd hm (Nat.not_lt_zero _), rfl⟩ ?_
 rintro n st ⟨j, hj, rfl, hno, rfl⟩
 by_cases h5 : j < us.length
 ·have g1 := hgv j h5
  have b1 := hub j h5
  have hno' : us.getD j 0 ≠ v → ∀ m, m < j + 1 → us.getD m 0 ≠ v := fun h m hm => by
   by_cases em : m = j
   ·rw [em]; exact h
   ·exact hno m (by omega)
  clear htail hgv hub hno cs1
  generalize us.getD j 0 = x at *
  refine AX.sR (rgAV [3, 5, 6, 11, 12, 21, 23, 135, 136, 137, 138]) ?_
  refine AX.seq ?_
  refine AX.condT ?_
  refine AX.keepA [3, 5, 6, 11, 12, 21, 23, 135, 136, 137] ?_
  refine AX.skip ?_
  refine nmZ ?_
  refine AX.seq ?_
  refine AX.block ?_
  refine AX.sR (rgWV [3, 5, 6, 11, 12, 21, 23, 26, 135, 136, 137] (aI @hzv (aI @g1 oT)) oT) ?_
  by_cases h6 : x = v
  ·subst h6
   refine AX.sR (rgAV [3, 5, 6, 11, 12, 21, 23, 135, 136, 137, 143]) ?_
   refine AX.condT ?_
   refine AX.sR (rgCV [10] (aI cal oT)) ?_
   refine AX.ret ⟨.inl rfl, ?_⟩
   exact Done.one rfl rfl rfl rfl
  ·have hno' := hno' h6
   refine AX.sR (rgWV [3, 5, 6, 11, 12, 21, 23, 135, 136, 137, 143] (aI @h6 oT) oT) ?_
   refine AX.condF ?_
   refine AX.keepA [3, 5, 6, 11, 12, 21, 23, 135, 136, 137] ?_
   refine AX.skip ?_
   refine nmZ ?_
   refine AX.rR (rgWV [3, 5, 6, 11, 12, 21, 23, 135, 136, 137] (aI @lit_add oT) oT) ?_
   refine nmZ ?_
   refine ⟨_, _, id, ?_,
    leQ5
    , ⟨j + 1, by omega, rfl, hno', rfl⟩⟩
   omega
 ·obtain rfl : j = us.length := by omega
  clear hgv hub
  refine AX.sR (rgAV [3, 5, 6, 11, 12, 21, 23, 135, 136, 137, 138]) ?_
  refine AX.seq ?_
  refine AX.condF ?_
  refine AX.exit ?_
  refine nmZ ?_
  refine AX.seq ?_
  by_cases k1 : e = 0
  ·subst k1
   obtain ⟨M1, M2, M3, N1, N2, N3, t1, t2, t3⟩ := htail rfl hno
   refine AX.sR (rgAV [3, 5, 6, 11, 21, 23, 147]) ?_
   refine AX.condF ?_
   refine AX.keepA [3, 5, 6, 11, 21, 23] ?_
   refine AX.skip ?_
   refine nmZ ?_
   refine AX.sR (rgCV [3, 5, 6, 21, 23] (aI t1 oT)) ?_
   refine AX.sR (rgCV [6, 21, 23] (aI cs1 oT)) ?_
   refine AX.sR (rgCV [21, 23, 27] (aI t2 oT)) ?_
   refine AX.sR (rgCV [10] (aI t3 (aI cal oT))) ?_
   refine AX.ret ⟨.inl rfl, ?_⟩
   exact Done.one rfl rfl rfl rfl
  ·clear htail
   refine AX.sR (rgWV [3, 5, 6, 11, 21, 23, 147] (aI @k1 oT) oT) ?_
   refine AX.condT ?_
   refine AX.sR (rgCV [10] (aI cal oT)) ?_
   refine AX.ret ⟨.inl rfl, ?_⟩
   exact Done.one rfl rfl rfl rfl
end Go.Proofs.Ytogpimmcodaljaa
/- The law FactorOrders. -/
set_option linter.unusedVariables false
set_option linter.unusedSimpArgs false
namespace Go.Proofs.Ytogpimmcodaljaa
open Go Go.Proofs.Ytogpimmcodaljaa.Lift
attribute [local irreducible] Lift.PCall Lift.HCall
structure Bx (L : Nat) (vs ws : List Int) (xs : List RT) : Prop where
 v : vs.length < 2 ^ 40
 w : ws.length < 2 ^ 40
 l : xs.length < 2 ^ 40
 y : okY xs
 f : isF vs ws xs = false ∨ ∃ t q, okT t ∧ (∀ k, k < szT t → rL (q k) ≤ L) ∧ vs = ci (vsT t) ∧ ws = ci (asT t) ∧ xs = xsT t q
theorem isF_nil : isF [] [] [] = false := isF_not fun h => by
 have := h.2.2.2
 exact absurd this (by decide)
theorem Bx.nil (L : Nat) : Bx L [] [] [] := ⟨by decide, by decide, by decide, fun x hx => (List.not_mem_nil hx).elim, .inl isF_nil⟩
theorem Bx.fv {t : Nat → Nat} {q : Nat → Rat} {L : Nat} (ht : okT t) (hL : L ≤ 2 ^ 30) (hq : ∀ k, k < szT t → rL (q k) ≤ L) : Bx L (ci (vsT t)) (ci (asT t)) (xsT t q) :=
 ⟨by rw [ci_length]; have := vsT_len t; omega, by rw [ci_length, asT_len]; have := vsT_len t; omega, by rw [xsT_length]; have := ht.2; omega, xsT_okY fun k hk => Nat.le_trans (hq k hk) hL, .inr ⟨t, q, ht, hq, rfl, rfl, rfl⟩⟩
theorem Sm.bx {vs ws : List Int} {xs : List RT} (h : Sm vs ws xs) : Bx 3 vs ws xs := by
 have h1 := h.v
 have h2 := h.w
 have h3 := h.l
 refine ⟨by omega, by omega, by omega, h.okY, ?_⟩
 rcases h.f with h | ⟨t, q, a, b, c, d⟩
 ·exact .inl h
 ·exact .inr ⟨t, q, a, c, d⟩
theorem boV_cases (t s : Nat → Nat) (r : Nat → Rat) : (boV t s r = .tup [FV (joT t s) r, .i .i64 0] ∧ ¬ misT t s ∧ szT (joT t s) ≤ 4096) ∨ ∃ e : Int, boV t s r = .tup [fV [] [] [], .i .i64 e] ∧ e ≠ 0 ∧ 0 ≤ e ∧ e < 100 := by
 unfold boV
 by_cases h : misT t s
 ·rw [if_pos h]
  exact .inr ⟨30, rfl, by decide, by decide, by decide⟩
 ·rw [if_neg h]
  by_cases h2 : szT (joT t s) ≤ 4096
  ·rw [if_pos h2]
   exact .inl ⟨rfl, h, h2⟩
  ·rw [if_neg h2]
   exact .inr ⟨2, rfl, by decide, by decide, by decide⟩
theorem len_opMul2 {L : Nat} (hL : 1 ≤ L) (a b : Rat) (h1 : rL a ≤ L) (h2 : rL b ≤ L) : rL (opMul a b) ≤ 2 * L := by
 have := rL_mul a b h1 h2 (by omega)
 unfold opMul
 omega
theorem mul_gen {L : Nat} (h1 : 1 ≤ L) (hL : L ≤ 2 ^ 20) {vs ws : List Int} {xs : List RT} {vs' ws' : List Int} {xs' : List RT} (hx : Bx L vs ws xs) (hy : Bx L vs' ws' xs') : ∃ (us zs : List Int) (ys : List RT) (e : Int), PCall Try.prog 22 [fV vs ws xs, fV vs' ws' xs'] (.tup [fV us zs ys, .i .i64 e]) [] ∧ Bx (2 * L) us zs ys ∧ 0 ≤ e ∧ e < 100 := by
 rcases hx.f with hbad | ⟨t, q, ht, hq, rfl, rfl, rfl⟩
 ·exact ⟨[], [], [], 1, fMul_not1 _ _ _ _ _ _ hx.v hx.w hx.l hx.y.x hbad, .nil _, by decide, by decide⟩
 ·rcases hy.f with hbad | ⟨s, p, hs, hp, rfl, rfl, rfl⟩
  ·exact ⟨[], [], [], 1, fMul_not2 _ _ _ hx.v hx.w hx.l hx.y.x (isF_T ht q) _ _ _ hy.v hy.w hy.l hy.y.x hbad, .nil _, by decide, by decide⟩
  ·have c := fMul_ok t s q p ht hs L (by omega) hq hp
   rcases boV_cases t s (boQ opMul t s q p) with ⟨e, hm, hz⟩ | ⟨e, e1, e2, e3, e4⟩
   ·rw [e] at c
    exact ⟨_, _, _, 0, c, .fv ⟨joT_le ht.1 hs.1, hz⟩ (by omega) (fun k _ => boQ_len (fun a b h h' => len_opMul2 h1 a b h h') hq hp hm k), by decide, by decide⟩
   ·rw [e1] at c
    exact ⟨[], [], [], e, c, .nil _, e3, e4⟩
theorem same_FV {t : Nat → Nat} {q : Nat → Rat} (ht : szT t ≤ 4096) (hq : ∀ k, k < szT t → rL (q k) ≤ 2 ^ 30) : PCall Try.prog 16 [FV t q, FV t q] (.b true) [] := by
 have h1 := vsT_len t
 have := fsame_ok (ci (vsT t)) (ci (asT t)) (xsT t q) (ci (vsT t)) (ci (asT t)) (xsT t q) (by rw [ci_length]; omega) (by rw [ci_length, asT_len]; omega) (by rw [xsT_length]; omega) (by rw [ci_length]; omega) (by rw [ci_length, asT_len]; omega) (by rw [xsT_length]; omega) (xsT_okY hq) (xsT_okY hq)
 rwa [sameF_self] at this
theorem tz_upd {t : Nat → Nat} {v : Int} (h : tz t v = 0) (w : Nat) : tz (updT t w 0) v = 0 := by
 unfold tz at h ⊢
 split
 ·rename_i hv
  rw [if_pos hv] at h
  by_cases e : v.toNat = w
  ·rw [e, updT_same]
  ·rw [updT_ne _ _ e, h]
 ·rfl
theorem tz_self {t : Nat → Nat} {v : Nat} : tz (updT t v 0) (v : Int) = 0 := by
 unfold tz
 split
 ·rw [Int.toNat_natCast, updT_same]
 ·rfl
theorem sums_ok (t : Nat → Nat) (q : Nat → Rat) (ht : okT t) (hq : ∀ k, k < szT t → rL (q k) ≤ 3) (v w : Int) (hv : -9223372036854775808 ≤ v ∧ v ≤ 9223372036854775807) (hw : -9223372036854775808 ≤ w ∧ w ≤ 9223372036854775807) :
  ∃ (t1 t2 t3 : Nat → Nat) (q1 q2 q3 : Nat → Rat), PCall Try.prog 28 [FV t q, .i .i64 v] (.tup [FV t1 q1, .i .i64 0]) [] ∧ PCall Try.prog 28 [FV t1 q1, .i .i64 w] (.tup [FV t2 q2, .i .i64 0]) [] ∧ PCall Try.prog 28 [FV t q, .i .i64 w] (.tup [FV t3 q3, .i .i64 0]) [] ∧
   PCall Try.prog 28 [FV t3 q3, .i .i64 v] (.tup [FV t2 q2, .i .i64 0]) [] ∧ szT t2 ≤ 4096 ∧ (∀ k, k < szT t2 → rL (q2 k) ≤ 2 ^ 30) ∧ (tz t v = 0 ∧ t1 = t ∧ q1 = q ∨ ∃ n : Nat, v = n ∧ n < 64 ∧ t n ≠ 0 ∧ t1 = updT t n 0 ∧ q1 = woQ t q n 0 0) := by
 have hq' : ∀ k, k < szT t → rL (q k) ≤ 2 ^ 30 := fun k hk => Nat.le_trans (hq k hk) (by omega)
 have one : ∀ n : Nat, n < 64 → t n ≠ 0 → PCall Try.prog 28 [FV t q, .i .i64 n] (.tup [FV (updT t n 0) (woQ t q n 0 0), .i .i64 0]) [] := fun n h h0 => fSum_some t q ht 3 (by omega) (by omega) hq n h h0
 have len1 : ∀ n k, rL (woQ t q n 0 0 k) ≤ 257 := fun n k => woQ_len ht hq k
 have two : ∀ n m : Nat, m < 64 → updT t n 0 m ≠ 0 → PCall Try.prog 28 [FV (updT t n 0) (woQ t q n 0 0), .i .i64 m] (.tup [FV (updT (updT t n 0) m 0) (woQ (updT t n 0) (woQ t q n 0 0) m 0 0), .i .i64 0]) [] := fun n m h h0 => fSum_some _ _ (okT_del ht n) 257 (by omega) (by omega) (fun k _ => len1 n k) m h h0
 have none1 : ∀ (n : Nat) (u : Int), (-9223372036854775808 ≤ u ∧ u ≤ 9223372036854775807) → tz (updT t n 0) u = 0 → PCall Try.prog 28 [FV (updT t n 0) (woQ t q n 0 0), .i .i64 u] (.tup [FV (updT t n 0) (woQ t q n 0 0), .i .i64 0]) [] := fun n u hu h0 => fSum_none _ _ (okT_del ht n) (fun k _ => Nat.le_trans (len1 n k) (by omega)) u hu h0
 by_cases h1 : tz t v = 0
 ·by_cases h2 : tz t w = 0
  ·exact ⟨t, t, t, q, q, q, fSum_none t q ht hq' v hv h1, fSum_none t q ht hq' w hw h2, fSum_none t q ht hq' w hw h2, fSum_none t q ht hq' v hv h1, ht.2, hq', .inl ⟨h1, rfl, rfl⟩⟩
  ·obtain ⟨m, rfl, hm, hm0, _⟩ := lt64 h2
   exact ⟨t, _, _, q, _, _, fSum_none t q ht hq' v hv h1, one m hm hm0, one m hm hm0, none1 m v hv (tz_upd h1 m), (okT_del ht m).2, fun k _ => Nat.le_trans (len1 m k) (by omega), .inl ⟨h1, rfl, rfl⟩⟩
 ·obtain ⟨n, rfl, hn, hn0, _⟩ := lt64 h1
  by_cases h2 : tz t w = 0
  ·exact ⟨_, _, t, _, _, q, one n hn hn0, none1 n w hw (tz_upd h2 n), fSum_none t q ht hq' w hw h2, one n hn hn0, (okT_del ht n).2, fun k _ => Nat.le_trans (len1 n k) (by omega), .inr ⟨n, rfl, hn, hn0, rfl, rfl⟩⟩
  ·obtain ⟨m, rfl, hm, hm0, _⟩ := lt64 h2
   by_cases e : n = m
   ·subst e
    exact ⟨_, _, _, _, _, _, one n hn hn0, none1 n n hv tz_self, one n hn hn0, none1 n n hv tz_self, (okT_del ht n).2, fun k _ => Nat.le_trans (len1 n k) (by omega), .inr ⟨n, rfl, hn, hn0, rfl, rfl⟩⟩
   ·have c2 := two m n hn (by rw [updT_ne _ _ e]; exact hn0)
    rw [← sum_swap e] at c2
    exact ⟨_, _, _, _, _, _, one n hn hn0, two n m hm (by rw [updT_ne _ _ (Ne.symm e)]; exact hm0), one m hm hm0, c2, (okT_del (okT_del ht n) m).2, fun k _ => Nat.le_trans (woQ_len (okT_del ht n) (fun k _ => len1 n k) k) (by omega), .inr ⟨n, rfl, hn, hn0, rfl, rfl⟩⟩
set_option maxHeartbeats 8000000 in
theorem factorOrders_ok (u0 w0 : List Int) (x0 : List RT) (u1 w1 : List Int) (x1 : List RT) (u2 w2 : List Int) (x2 : List RT) (v w : Int) (hu0 : u0.length < 2 ^ 62) (hw0 : w0.length < 2 ^ 62) (hx0 : x0.length < 2 ^ 62) (hd0 : ∀ x ∈ x0, Dg x.2.1 ∧ Dg x.2.2 ∧ x.2.1.length < 2 ^ 62 ∧ x.2.2.length < 2 ^ 62)
  (hu1 : u1.length < 2 ^ 62) (hw1 : w1.length < 2 ^ 62) (hx1 : x1.length < 2 ^ 62) (hd1 : ∀ x ∈ x1, Dg x.2.1 ∧ Dg x.2.2 ∧ x.2.1.length < 2 ^ 62 ∧ x.2.2.length < 2 ^ 62) (hu2 : u2.length < 2 ^ 62) (hw2 : w2.length < 2 ^ 62) (hx2 : x2.length < 2 ^ 62) (hd2 : ∀ x ∈ x2, Dg x.2.1 ∧ Dg x.2.2 ∧ x.2.1.length < 2 ^ 62 ∧ x.2.2.length < 2 ^ 62)
  (hv : -9223372036854775808 ≤ v ∧ v ≤ 9223372036854775807) (hw : -9223372036854775808 ≤ w ∧ w ≤ 9223372036854775807) :
  PCall Try.prog 7 [fV u0 w0 x0, fV u1 w1 x1, fV u2 w2 x2, .i .i64 v, .i .i64 w] (.b true) [] := by
 obtain ⟨vf, wf, xf, sf, c1⟩ := ffew_ok u0 w0 x0 hu0 hw0 hx0 hd0
 obtain ⟨vg, wg, xg, sg, c2⟩ := ffew_ok u1 w1 x1 hu1 hw1 hx1 hd1
 obtain ⟨vh, wh, xh, sh, c3⟩ := ffew_ok u2 w2 x2 hu2 hw2 hx2 hd2
 have bf := sf.bx
 have bg := sg.bx
 have bh := sh.bx
 have bn := Bx.nil 3
 have rf := fright26_ok vf wf xf bf.v bf.w bf.l bf.y.x
 have rg := fright26_ok vg wg xg bg.v bg.w bg.l bg.y.x
 have an := fun (x y : List Int) (z : List RT) => fMul_not1 [] [] [] x y z bn.v bn.w bn.l bn.y.x isF_nil
 rcases sf.f with hbad | ⟨t, q, ht, hs, hq, rfl, rfl, rfl⟩
 ·-- the first is not right
  obtain ⟨vc, wc, xc, k, cc, bc, hk1, hk2⟩ := mul_gen (by omega) (by omega) bg bh
  have cx : PCall Try.prog 22 [fV vg wg xg, fV vf wf xf] (.tup [fV [] [] [], .i .i64 1]) [] := by
   cases hgb : isF vg wg xg with
   | false => exact fMul_not1 vg wg xg vf wf xf bg.v bg.w bg.l bg.y.x hgb
   | true => exact fMul_not2 vg wg xg bg.v bg.w bg.l bg.y.x hgb vf wf xf bf.v bf.w bf.l bf.y.x hbad
  exact factorOrders_bad _ _ _ _ _ _ _ _ _ _ _ _ _ _ _ _ _ _ _ _ _ _ _ _ _ _ _ _ _ _ _ _ _ 1 k 1 v w _ _ (by decide) ⟨hk1, hk2⟩ (by decide) hv hw c1 c2 c3 (fMul_not1 vf wf xf vg wg xg bf.v bf.w bf.l bf.y.x hbad) (an vh wh xh) cc (fMul_not1 vf wf xf vc wc xc bf.v bf.w bf.l bf.y.x hbad) cx rf rg (fun h => by rw [hbad] at h; exact absurd h.1 (by decide))
 ·have tf := isF_T ht q
  rcases sg.f with hbad | ⟨s, p, hs', hss, hp, rfl, rfl, rfl⟩
  ·-- the second is not right
   exact factorOrders_bad _ _ _ _ _ _ _ _ _ _ _ _ _ _ _ _ _ _ _ _ _ _ _ _ _ _ _ _ _ _ _ _ _ 1 1 1 v w _ _ (by decide) (by decide) (by decide) hv hw c1 c2 c3 (fMul_not2 _ _ _ bf.v bf.w bf.l bf.y.x tf vg wg xg bg.v bg.w bg.l bg.y.x hbad) (an vh wh xh) (fMul_not1 vg wg xg vh wh xh bg.v bg.w bg.l bg.y.x hbad)
    (fMul_not2 _ _ _ bf.v bf.w bf.l bf.y.x tf [] [] [] bn.v bn.w bn.l bn.y.x isF_nil) (fMul_not1 vg wg xg _ _ _ bg.v bg.w bg.l bg.y.x hbad) rf rg (fun h => by rw [hbad] at h; exact absurd h.2 (by decide))
  ·have tg := isF_T hs' p
   rw [tf] at rf
   rw [tg] at rg
   obtain ⟨t1, t2, t3, q1, q2, q3, cs1, cs2, ct1, ct2, z2, l2, htv⟩ := sums_ok t q ht hq v w hv hw
   have csm := same_FV z2 l2
   have hus : (ci (vsT s)).length < 2 ^ 40 := bg.v
   have hub := ci_bd (l := vsT s) (M := 64) (fun j hj => by have := (vsT_get hj).1; omega) (by omega)
   have cab := fMul_ok t s q p ht hs' 3 (by omega) hq hp
   have cxb := fMul_ok s t p q hs' ht 3 (by omega) hp hq
   rw [← boV_comm] at cxb
   rcases boV_cases t s (boQ opMul t s q p) with ⟨eq, hm, hz⟩ | ⟨e, eq, e2, e3, e4⟩
   ·rw [eq] at cab cxb
    have hJ : okT (joT t s) := ⟨joT_le ht.1 hs'.1, hz⟩
    have lW : ∀ n, rL (boQ opMul t s q p n) ≤ 6 := fun n => boQ_len (fun a b h h' => len_opMul2 (by omega) a b h h') hq hp hm n
    have hsA := same_FV hz (fun k _ => Nat.le_trans (lW k) (by omega : 6 ≤ 2 ^ 30))
    have htail : ∀ _ : (0 : Int) = 0, (∀ j, j < (ci (vsT s)).length → (ci (vsT s)).getD j 0 ≠ v) → ∃ M1 M2 M3 N1 N2 N3 : List V, PCall Try.prog 28 [FV (joT t s) (boQ opMul t s q p), .i .i64 v] (.tup [.agg [.sl M1, .sl M2, .sl M3], .i .i64 0]) [] ∧ PCall Try.prog 22 [FV t1 q1, FV s p] (.tup [.agg [.sl N1, .sl N2, .sl N3], .i .i64 0]) [] ∧ PCall Try.prog 16 [.agg [.sl M1, .sl M2, .sl M3], .agg [.sl N1, .sl N2, .sl N3]] (.b true) [] := fun _ hno => by
     have hsv : tz s v = 0 := tz_no fun i hi => by
      have := hno i (by rw [ci_length]; exact hi)
      rwa [cast_get] at this
     rcases htv with ⟨h0, rfl, rfl⟩ | ⟨n, rfl, hn, hn0, rfl, rfl⟩
     ·have hTv : tz (joT t1 s) v = 0 := by
       unfold tz at h0 hsv ⊢
       split
       ·rename_i hvv
        rw [if_pos hvv] at h0 hsv
        unfold joT
        rw [if_neg (fun h => h h0), hsv]
       ·rfl
      exact ⟨_, _, _, _, _, _, fSum_none _ _ hJ (fun k _ => Nat.le_trans (lW k) (by omega)) v hv hTv, cab, hsA⟩
     ·have hsn : s n = 0 := by rwa [tz_nat hn] at hsv
      have hTn : joT t s n ≠ 0 := by
       rw [show joT t s n = t n from if_pos hn0]
       exact hn0
      have m1 := fSum_some (joT t s) (boQ opMul t s q p) hJ 6 (by omega) (by omega) (fun k _ => lW k) n hn hTn
      have m2 := fMul_ok (updT t n 0) s (woQ t q n 0 0) p (okT_del ht n) hs' 257 (by omega) (fun k _ => woQ_len ht hq k) (fun k hk => Nat.le_trans (hp k hk) (by omega))
      have hz' : szT (joT (updT t n 0) s) ≤ 4096 := by rw [joT_del hsn]; exact Nat.le_trans (szT_del _ _) hz
      rw [show boV (updT t n 0) s (boQ opMul (updT t n 0) s (woQ t q n 0 0) p) = .tup [FV (joT (updT t n 0) s) (boQ opMul (updT t n 0) s (woQ t q n 0 0) p), .i .i64 0] from (if_neg (mis_del hm)).trans (if_pos hz'), ← sum_out hm hsn hn0] at m2
      exact ⟨_, _, _, _, _, _, m1, m2, same_FV (Nat.le_trans (szT_del _ _) hz) (fun k _ => Nat.le_trans (woQ_len hJ (fun k _ => lW k) k) (by omega))⟩
    have bJ : Bx 6 _ _ _ := Bx.fv hJ (by omega) (fun k _ => lW k)
    rcases sh.f with hbad | ⟨c, r, hc, hcs, hr, rfl, rfl, rfl⟩
    ·-- the third is not right
     exact factorOrders_good _ _ _ _ _ _ _ _ _ _ _ _ _ _ _ _ _ _ _ _ _ _ _ _ _ _ _ _ _ _ _ _ _ _ _ _ _ _ _ _ _ _ _ _ _ 0 1 1 1 v w hus hub (by decide) (by decide) (by decide) (by decide) hv hw c1 c2 c3 cab (fMul_not2 _ _ _ bJ.v bJ.w bJ.l bJ.y.x (isF_T hJ _) vh wh xh bh.v bh.w bh.l bh.y.x hbad) (fMul_not2 _ _ _ bg.v bg.w bg.l bg.y.x tg vh wh xh bh.v bh.w bh.l bh.y.x hbad)
      (fMul_not2 _ _ _ bf.v bf.w bf.l bf.y.x tf [] [] [] bn.v bn.w bn.l bn.y.x isF_nil) cxb rf rg (fun _ h => absurd h (by decide)) (fun _ => hsA) cs1 cs2 ct1 ct2 csm htail
    ·have cb := fMul_ok (joT t s) c (boQ opMul t s q p) r hJ hc 6 (by omega) (fun k _ => lW k) (fun k hk => Nat.le_trans (hr k hk) (by omega))
     have cc := fMul_ok s c p r hs' hc 3 (by omega) hp hr
     rcases boV_cases s c (boQ opMul s c p r) with ⟨eqc, hmc, hzc⟩ | ⟨k, eqc, k2, k3, k4⟩
     ·rw [eqc] at cc
      have hJc : okT (joT s c) := ⟨joT_le hs'.1 hc.1, hzc⟩
      have lC : ∀ n, rL (boQ opMul s c p r n) ≤ 6 := fun n => boQ_len (fun a b h h' => len_opMul2 (by omega) a b h h') hp hr hmc n
      have cd := fMul_ok t (joT s c) q (boQ opMul s c p r) ht hJc 6 (by omega) (fun k hk => Nat.le_trans (hq k hk) (by omega)) (fun k _ => lC k)
      rcases boV_cases (joT t s) c (boQ opMul (joT t s) c (boQ opMul t s q p) r) with ⟨eqb, hmb, hzb⟩ | ⟨i, eqb, i2, i3, i4⟩
      ·rw [eqb] at cb
       rcases boV_cases t (joT s c) (boQ opMul t (joT s c) q (boQ opMul s c p r)) with ⟨eqd, hmd, hzd⟩ | ⟨l, eqd, l2', l3, l4⟩
       ·rw [eqd, ← mul_assoc_ok hm hmb hmc hmd] at cd
        have hsB := same_FV hzb (fun k _ => Nat.le_trans (boQ_len (fun a b h h' => len_opMul2 (by omega) a b h h') (fun k _ => lW k) (fun k hk => Nat.le_trans (hr k hk) (by omega)) hmb k) (by omega : 2 * 6 ≤ 2 ^ 30))
        exact factorOrders_good _ _ _ _ _ _ _ _ _ _ _ _ _ _ _ _ _ _ _ _ _ _ _ _ _ _ _ _ _ _ _ _ _ _ _ _ _ _ _ _ _ _ _ _ _ 0 0 0 0 v w hus hub (by decide) (by decide) (by decide) (by decide) hv hw c1 c2 c3 cab cb cc cd cxb rf rg (fun _ _ _ _ => hsB) (fun _ => hsA) cs1 cs2 ct1 ct2 csm htail
       ·rw [eqd] at cd
        exact factorOrders_good _ _ _ _ _ _ _ _ _ _ _ _ _ _ _ _ _ _ _ _ _ _ _ _ _ _ _ _ _ _ _ _ _ _ _ _ _ _ _ _ _ _ _ _ _ 0 0 0 l v w hus hub (by decide) (by decide) (by decide) ⟨l3, l4⟩ hv hw c1 c2 c3 cab cb cc cd cxb rf rg (fun _ _ _ h => absurd h l2') (fun _ => hsA) cs1 cs2 ct1 ct2 csm htail
      ·rw [eqb] at cb
       obtain ⟨A, B, C, l, hd⟩ := boV_ex t (joT s c) (boQ opMul t (joT s c) q (boQ opMul s c p r))
       have hl : 0 ≤ l ∧ l < 100 := by
        rcases boV_cases t (joT s c) (boQ opMul t (joT s c) q (boQ opMul s c p r)) with ⟨e9, _⟩ | ⟨e9, e8, _, e6, e7⟩
        ·rw [hd] at e9
         unfold FV fV at e9
         cases e9
         decide
        ·rw [hd] at e8
         unfold fV at e8
         cases e8
         exact ⟨e6, e7⟩
       rw [hd] at cd
       exact factorOrders_good _ _ _ _ _ _ _ _ _ _ _ _ _ _ _ _ _ _ _ _ _ _ _ _ _ _ _ _ _ _ _ _ _ _ _ _ _ _ _ _ _ _ _ _ _ 0 i 0 l v w hus hub (by decide) ⟨i3, i4⟩ (by decide) hl hv hw c1 c2 c3 cab cb cc cd cxb rf rg (fun _ h => absurd h i2) (fun _ => hsA) cs1 cs2 ct1 ct2 csm htail
     ·rw [eqc] at cc
      obtain ⟨A, B, C, i, hd⟩ := boV_ex (joT t s) c (boQ opMul (joT t s) c (boQ opMul t s q p) r)
      have hi : 0 ≤ i ∧ i < 100 := by
       rcases boV_cases (joT t s) c (boQ opMul (joT t s) c (boQ opMul t s q p) r) with ⟨e9, _⟩ | ⟨e9, e8, _, e6, e7⟩
       ·rw [hd] at e9
        unfold FV fV at e9
        cases e9
        decide
       ·rw [hd] at e8
        unfold fV at e8
        cases e8
        exact ⟨e6, e7⟩
      rw [hd] at cb
      exact factorOrders_good _ _ _ _ _ _ _ _ _ _ _ _ _ _ _ _ _ _ _ _ _ _ _ _ _ _ _ _ _ _ _ _ _ _ _ _ _ _ _ _ _ _ _ _ _ 0 i k 1 v w hus hub (by decide) hi ⟨k3, k4⟩ (by decide) hv hw c1 c2 c3 cab cb cc (fMul_not2 _ _ _ bf.v bf.w bf.l bf.y.x tf [] [] [] bn.v bn.w bn.l bn.y.x isF_nil) cxb rf rg (fun _ _ h => absurd h k2) (fun _ => hsA) cs1 cs2 ct1 ct2 csm htail
   ·rw [eq] at cab cxb
    obtain ⟨vc, wc, xc, k, cc, bc, hk1, hk2⟩ := mul_gen (by omega) (by omega) bg bh
    have bf6 : Bx 6 _ _ _ := Bx.fv ht (by omega) (fun k hk => Nat.le_trans (hq k hk) (by omega))
    obtain ⟨vd, wd, xd, l, cd, bd, hl1, hl2⟩ := mul_gen (L := 6) (by omega) (by omega) bf6 bc
    exact factorOrders_good _ _ _ _ _ _ _ _ _ _ _ _ _ _ _ _ _ _ _ _ _ _ _ _ _ _ _ _ _ _ _ _ _ _ _ _ _ _ _ _ _ _ _ _ _ e 1 k l v w hus hub ⟨e3, e4⟩ (by decide) ⟨hk1, hk2⟩ ⟨hl1, hl2⟩ hv hw c1 c2 c3 cab (an vh wh xh) cc cd cxb rf rg (fun h => absurd h e2) (fun h => absurd h e2) cs1 cs2 ct1 ct2 csm (fun h => absurd h e2)
end Go.Proofs.Ytogpimmcodaljaa
