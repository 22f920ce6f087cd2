/- Factors: the reference's Normal; the law FactorSums. -/
import Derived.Test.YtogpimmcodaljaaGreatKR
import Derived.Test.YtogpimmcodaljaaGreatKP
set_option linter.unusedVariables false
set_option maxRecDepth 20000
set_option linter.unusedSimpArgs false
namespace Go.Proofs.YtogpimmcodaljaaGreat
open Go Go.Proofs.YtogpimmcodaljaaGreat.Lift
attribute [local irreducible] Lift.PCall Lift.HCall
theorem Fv.same {vs ws : List Int} {xs : List RT} {vf wf : List Int} {xf : List RT} (h : Fv vs ws xs vf wf xf) (hb : isF vf wf xf = false) : vf = vs := by
 cases h with
 | bad _ => rfl
 | good a b c d e f => rw [isF_T c] at hb; cases hb
theorem rL_sum {n L : Nat} {q : Nat → Rat} (hL1 : 1 ≤ L) (hq : ∀ k, k < n → rL (q k) ≤ L) : rL (sumTo (ql n q) n) ≤ n * (L + 1) + 1 := sumTo_len (isQs_ql hq) hL1 n (by rw [List.length_map, ql_length]; exact Nat.le_refl _)
end Go.Proofs.YtogpimmcodaljaaGreat
/- Factors (plain): the sum of the restrictions, totals of sums and of quotients. -/
set_option linter.unusedVariables false
set_option linter.unusedSimpArgs false
namespace Go.Proofs.YtogpimmcodaljaaGreat
open Go Go.Proofs.YtogpimmcodaljaaGreat.Lift
attribute [local irreducible] Lift.PCall Lift.HCall
def pqT (t : Nat → Nat) (q : Nat → Rat) (v m n : Nat) : Rat := woX 0 0 (fun k => q (enT t (updT (deT (updT t v 0) n) v k))) m
theorem pqT_one {t : Nat → Nat} {q : Nat → Rat} {v n : Nat} (h0 : 0 < t v) : woQ t q v 2 ((0 : Nat) : Int) n = pqT t q v 1 n := by
 rw [woQ_two h0]
 unfold pqT
 show _ = (if 0 = 0 ∨ 0 = 2 ∧ ((0 : Nat) : Int) = 0 then _ else if 0 = 0 then woX 0 0 _ 0 + _ else _)
 rw [if_pos (Or.inl rfl)]
theorem pqT_succ {t : Nat → Nat} {q : Nat → Rat} {v m n : Nat} (h1 : 1 ≤ m) (hm : m < t v) : pqT t q v m n + woQ t q v 2 (m : Int) n = pqT t q v (m + 1) n := by
 rw [woQ_two hm]
 unfold pqT
 show _ = (if m = 0 ∨ 0 = 2 ∧ (m : Int) = 0 then _ else if 0 = 0 then woX 0 0 _ m + _ else _)
 rw [if_neg (by omega), if_pos rfl]
theorem pqT_len {t : Nat → Nat} {q : Nat → Rat} {v m n L : Nat} (ht : okT t) (hq : ∀ k, k < szT t → rL (q k) ≤ L) (hm : m ≤ t v) : rL (pqT t q v m n) ≤ 64 * (L + 1) + 1 := by
 have h1 := woX_len (what := 0) (arm := 0) (f := fun k => q (enT t (updT (deT (updT t v 0) n) v k))) (m := t v) (fun k hk => hq _ (enT_lt (inT_upd hk))) m hm
 have h2 : m * (L + 1) ≤ 64 * (L + 1) := Nat.mul_le_mul_right _ (Nat.le_trans hm (ht.1 v))
 unfold pqT
 omega
theorem joT_self (t : Nat → Nat) : joT t t = t := funext fun u => by
 unfold joT
 split <;> rfl
theorem boV_self {t : Nat → Nat} {q p : Nat → Rat} (ht : okT t) : boV t t (boQ opAdd t t q p) = .tup [FV t (fun n => q n + p n), .i .i64 0] := by
 unfold boV
 rw [if_neg (mis_of fun u _ _ _ => rfl), joT_self, if_pos ht.2]
 congr 2
 refine FV_ext (fun _ _ => rfl) fun n hn => ?_
 unfold boQ opAdd
 rw [joT_self, en_deT hn]
theorem sumTo_sm {N : Nat} (f : Nat → Rat) : sumTo (ql N f) N = smN f N := by rw [sumTo_woX 0 f N (Nat.le_refl _), woX_sm]
theorem tot_div {N : Nat} {f : Nat → Rat} (h0 : sumTo (ql N f) N ≠ 0) : sumTo (ql N fun k => f k / sumTo (ql N f) N) N = 1 := by
 rw [sumTo_sm] at h0 ⊢
 rw [sumTo_sm]
 have e : smN (fun k => f k / smN f N) N = smN (fun k => f k * (smN f N)⁻¹) N := smN_congr _ fun k _ => Rat.div_def _ _
 rw [e, smN_mul, Rat.mul_inv_cancel _ h0]
theorem smN_app (f : Nat → Rat) (a : Nat) : ∀ b, smN f (a + b) = smN f a + smN (fun k => f (a + k)) b
 | 0 => (Rat.add_zero _).symm
 | b + 1 => by
  show smN f (a + b) + f (a + b) = smN f a + (smN (fun k => f (a + k)) b + f (a + b))
  rw [smN_app f a b, Rat.add_assoc]
theorem smN_split (f : Nat → Rat) (B : Nat) : ∀ A, smN f (A * B) = smN (fun a => smN (fun b => f (a * B + b)) B) A
 | 0 => by rw [Nat.zero_mul]; rfl
 | A + 1 => by
  rw [Nat.succ_mul, smN_app, smN_split f B A]
  rfl
def NS (t : Nat → Nat) : List Nat → ((Nat → Nat) → Rat) → Rat
 | [], G => G fun _ => 0
 | x :: l, G => NS t l fun D => smN (fun b => G (updT D x b)) (t x)
theorem NS_congr {t : Nat → Nat} : ∀ {l : List Nat} {G H : (Nat → Nat) → Rat}, (∀ D, G D = H D) → NS t l G = NS t l H
 | [], _, _, h => h _
 | x :: l, G, H, h => NS_congr (l := l) fun D => smN_congr _ fun b _ => h _
theorem NS_ext {t t' : Nat → Nat} : ∀ {l : List Nat} {G : (Nat → Nat) → Rat}, (∀ x ∈ l, t x = t' x) → NS t l G = NS t' l G
 | [], _, _ => rfl
 | x :: l, G, h => by
  show NS t l _ = NS t' l _
  rw [NS_ext (l := l) fun y hy => h y (List.mem_cons_of_mem _ hy), h x (List.mem_cons_self ..)]
theorem NS_sm {t : Nat → Nat} {l : List Nat} : ∀ i, i ≤ l.length → (∀ j, j < i → t (l.getD j 0) ≠ 0) → ∀ G : (Nat → Nat) → Rat, smN (fun m => G (deI l t i m)) (prI l t i) = NS t (l.take i).reverse G
 | 0, _, _, G => Rat.zero_add _
 | i + 1, hi, h, G => by
  have e : l.take (i + 1) = l.take i ++ [l.getD i 0] := by
   rw [List.take_add_one, List.getD_eq_getElem?_getD, List.getElem?_eq_getElem (by omega)]
   rfl
  rw [e, List.reverse_append]
  show smN _ (prI l t i * t (l.getD i 0)) = NS t (l.take i).reverse fun D => smN (fun b => G (updT D (l.getD i 0) b)) (t (l.getD i 0))
  rw [← NS_sm i (by omega) (fun j hj => h j (by omega)), smN_split]
  refine smN_congr _ fun a _ => smN_congr _ fun b hb => ?_
  show G (updT (deI l t i ((a * t (l.getD i 0) + b) / t (l.getD i 0))) (l.getD i 0) ((a * t (l.getD i 0) + b) % t (l.getD i 0))) = _
  rw [Nat.mul_comm a, Nat.mul_add_div (by omega), Nat.div_eq_of_lt hb, Nat.add_zero, Nat.mul_add_mod, Nat.mod_eq_of_lt hb]
theorem NS_out {t : Nat → Nat} {v : Nat} : ∀ {l r : List Nat} {G : (Nat → Nat) → Rat}, v ∉ l → NS t (l ++ v :: r) G = NS t (l ++ r) fun D => smN (fun k => G (updT D v k)) (t v)
 | [], r, G, _ => rfl
 | x :: l, r, G, h => by
  show NS t (l ++ v :: r) (fun D => smN (fun b => G (updT D x b)) (t x)) = NS t (l ++ r) fun D => smN (fun b => smN (fun k => G (updT (updT D x b) v k)) (t v)) (t x)
  rw [NS_out (l := l) fun hm => h (List.mem_cons_of_mem _ hm)]
  refine NS_congr fun D => ?_
  rw [smN_swap]
  refine smN_congr _ fun b _ => smN_congr _ fun k _ => ?_
  rw [updT_comm D fun e => h (by rw [e]; exact List.mem_cons_self ..)]
theorem deT_sm (t : Nat → Nat) (G : (Nat → Nat) → Rat) : smN (fun m => G (deT t m)) (szT t) = NS t (vsT t).reverse G := by
 have := NS_sm (t := t) (l := vsT t) (vsT t).length (Nat.le_refl _) (fun j hj => (vsT_get hj).2) G
 rwa [List.take_length] at this
theorem tot_sum {t : Nat → Nat} {q : Nat → Rat} {v : Nat} (hv : v < 64) (h0 : t v ≠ 0) : sumTo (ql (szT (updT t v 0)) (woQ t q v 0 0)) (szT (updT t v 0)) = sumTo (ql (szT t) q) (szT t) := by
 rw [sumTo_sm, sumTo_sm]
 obtain ⟨G, hG⟩ : ∃ G : (Nat → Nat) → Rat, G = fun D => q (enT t D) := ⟨_, rfl⟩
 have e1 : smN q (szT t) = smN (fun m => G (deT t m)) (szT t) := smN_congr _ fun k hk => by rw [hG]; show q k = q (enT t (deT t k)); rw [en_deT hk]
 have e2 : smN (woQ t q v 0 0) (szT (updT t v 0)) = smN (fun n => (fun D => smN (fun k => G (updT D v k)) (t v)) (deT (updT t v 0) n)) (szT (updT t v 0)) := smN_congr _ fun n _ => by rw [woQ_sm, hG]
 rw [e1, e2, deT_sm t G, deT_sm (updT t v 0) fun D => smN (fun k => G (updT D v k)) (t v)]
 have hm : v ∈ vsT t := vsT_mem.2 ⟨hv, h0⟩
 obtain ⟨i, hi, e⟩ := mem_getD0 hm
 have h1 := vsT_erase hi
 rw [e] at h1
 have e3 : vsT t = (vsT t).take i ++ v :: (vsT t).drop (i + 1) := by
  have e0 : v = (vsT t)[i] := by rw [← e, List.getD_eq_getElem?_getD, List.getElem?_eq_getElem hi]; rfl
  conv => lhs; rw [← List.take_append_drop i (vsT t), List.drop_eq_getElem_cons hi, ← e0]
 have e4 : vsT (updT t v 0) = (vsT t).take i ++ (vsT t).drop (i + 1) := by rw [← h1, List.eraseIdx_eq_take_drop_succ]
 have hno : v ∉ (vsT t).drop (i + 1) := fun h => by
  have hp := vsT_asc t
  rw [e3] at hp
  exact Nat.lt_irrefl _ ((List.pairwise_cons.1 (List.pairwise_append.1 hp).2.1).1 v h)
 have hno' : v ∉ (vsT (updT t v 0)) := fun h => (vsT_mem.1 h).2 (updT_same ..)
 rw [NS_ext (t := updT t v 0) (t' := t) fun x hx => updT_ne _ _ fun h => absurd (List.mem_reverse.1 hx) (by rw [h]; exact hno')]
 rw [e4, List.reverse_append]
 conv => rhs; rw [e3, List.reverse_append, List.reverse_cons, List.append_assoc]
 exact (NS_out fun h => hno (List.mem_reverse.1 h)).symm
end Go.Proofs.YtogpimmcodaljaaGreat
