/- Chains: entering a closed class, and solutions above the least one (plain). -/
import Derived.Test.YtepkjfnffbdcoaaGreatRgV
import Derived.Test.YtepkjfnffbdcoaaGreatLawD5
import Derived.Test.YtepkjfnffbdcoaaGreatJG
import Derived.Test.YtepkjfnffbdcoaaGreatJF
set_option linter.unusedVariables false
set_option maxRecDepth 20000
set_option linter.unusedSimpArgs false
namespace Go.Proofs.YtepkjfnffbdcoaaGreat
open Go Go.Proofs.YtepkjfnffbdcoaaGreat.Lift
attribute [local irreducible] Lift.PCall Lift.HCall
theorem sol_small200 {n : Nat} (hn : n ≤ 8) {A : Mx} {b x : Nat → Rat} (hN : NonSing n A) (hA : ∀ i j, i < n → j < n → rL (A i j) ≤ 200) (hb : ∀ i, i < n → rL (b i) ≤ 200) (hx : ∀ i, i < n → (sumN n fun j => A i j * x j) = b i) : ∀ i, i < n → rL (x i) ≤ 600000 := fun i hi => by
 have h1 := sol_small (Nat.le_trans hn (by decide)) hN hA hb hx i hi
 have h2 : sysB n (32 * 200 * (n + 2)) ≤ sysB 8 (32 * 200 * 10) := sysB_mono hn (Nat.mul_le_mul_left _ (by omega))
 have h3 : sysB 8 (32 * 200 * 10) / 32 + 1 ≤ 600000 := by decide
 have h4 : sysB n (32 * 200 * (n + 2)) / 32 ≤ sysB 8 (32 * 200 * 10) / 32 := Nat.div_le_div_right h2
 omega
theorem each_small200 {n m : Nat} {A B : Mx} (hn : n ≤ 8) (hC : isC n m A B = true) (hA : ∀ i k, i < n → k < n → rL (A i k) ≤ 38) (hB : ∀ i k, i < n → k < m → rL (B i k) ≤ 199) : ∀ i j, i < n → j < m → rL (eachM n m A B i j) ≤ 600000 := by
 intro i j hi hj
 unfold eachM
 split
 ·rename_i hf
  have hA' : ∀ i j, i < (pick n (rchB n m A B)).length → j < (pick n (rchB n m A B)).length → rL (subM false (pick n (rchB n m A B)) A i j) ≤ 200 := fun i j hi hj => Nat.le_trans (subM_len hA (by decide) (pick_get hi).1 (pick_get hj).1) (by decide)
  have hB' : ∀ i j, i < (pick n (rchB n m A B)).length → j < m → rL (rhsM (pick n (rchB n m A B)) B i j) ≤ 200 := fun i j hi hj => Nat.le_trans (hB _ j (pick_get hi).1 hj) (by decide)
  obtain ⟨_, h2, _⟩ := fin_spec (n := (pick n (rchB n m A B)).length) (c := m) (L := 200) (B := rhsM (pick n (rchB n m A B)) B) (nonsing_sub hC) hA' hB' (by decide)
  exact sol_small200 (Nat.le_trans (pick_le n _) hn) (nonsing_sub hC) hA' (fun i hi => hB' i j hi hj) (x := fun k => solX _ _ _ k j) (fun i hi => h2 i j hi hj) _ (pick_at hi hf).1
 ·exact Nat.le_trans rL0 (by decide)
def inA (S : Nat → Bool) (A : Mx) : Mx := fun i k => if S i = true then 0 else A i k
def inB (S : Nat → Bool) (m : Nat) (B : Mx) : Mx := fun i j => if S i = true then (if j = 0 then 1 else 0) else (if j = 1 then sumN m (B i) else 0)
theorem sumN_two (f : Nat → Rat) : sumN 2 f = f 0 + f 1 := by
 show 0 + f 0 + f 1 = _
 rw [Rat.zero_add]
theorem into_isC {n m : Nat} {A B : Mx} (S : Nat → Bool) (h : isC n m A B = true) : isC n 2 (inA S A) (inB S m B) = true := by
 have h := of_decide_eq_true h
 refine decide_eq_true fun i hi => ?_
 obtain ⟨h1, h2, h3⟩ := h i hi
 unfold chR inA inB
 cases hS : S i
 ·refine ⟨fun k hk => ?_, fun k hk => ?_, ?_⟩
  ·rw [if_neg (by decide)]; exact h1 k hk
  ·rw [if_neg (by decide)]
   split
   ·exact sumN_nonneg fun j hj => h2 j hj
   ·exact Rat.le_refl
  ·rw [sumN_two, sumN_congr (g := A i) fun k hk => if_neg (by decide), if_neg (by decide), if_neg (by decide), if_pos rfl, if_neg (by decide), ← h3]
   grind
 ·refine ⟨fun k hk => ?_, fun k hk => ?_, ?_⟩
  ·rw [if_pos rfl]; exact Rat.le_refl
  ·rw [if_pos rfl]
   split
   ·decide +kernel
   ·exact Rat.le_refl
  ·rw [sumN_two, sumN_eq_zero fun k hk => if_pos rfl, if_pos rfl, if_pos rfl, if_pos rfl, if_neg (by decide)]
   decide +kernel
theorem inA_len {n : Nat} {A : Mx} (S : Nat → Bool) (hA : ∀ i k, i < n → k < n → rL (A i k) ≤ 38) : ∀ i k, i < n → k < n → rL (inA S A i k) ≤ 38 := fun i k hi hk => by
 unfold inA
 split
 ·exact Nat.le_trans rL0 (by decide)
 ·exact hA i k hi hk
theorem inB_len {n m : Nat} {B : Mx} (S : Nat → Bool) (hm : m ≤ 5) (hB : ∀ i k, i < n → k < m → rL (B i k) ≤ 38) : ∀ i k, i < n → k < 2 → rL (inB S m B i k) ≤ 199 := fun i k hi hk => by
 unfold inB
 split
 ·split
  ·exact Nat.le_trans rL1 (by decide)
  ·exact Nat.le_trans rL0 (by decide)
 ·split
  ·have h1 := sumN_len (f := B i) (fun k hk => hB i k hi hk) m (Nat.le_refl _)
   have h2 : m * (38 + 1) ≤ 5 * (38 + 1) := Nat.mul_le_mul_right _ hm
   omega
  ·exact Nat.le_trans rL0 (by decide)
def ShutS (n m : Nat) (A B : Mx) (S : Nat → Bool) : Prop := ∀ a, a < n → S a = true → ¬ (chn n m A B).Rch a ∧ ∀ b, b < n → S b = false → A a b = 0
theorem share_mean {n m : Nat} {A B X : Mx} {S : Nat → Bool} (hC : isC n m A B = true) (hS : ShutS n m A B S) (hX : (chn n 2 (inA S A) (inB S m B)).IsEach X) : ∀ i, i < n → X i 0 = sumN n fun k => A i k * X k 0 := by
 have hall := hX.all (isC_ok (into_isC S hC))
 have hone : ∀ i, i < n → S i = true → X i 0 = 1 := fun i hi hs => by
  have h1 := hall i 0 hi (show 0 < 2 by decide)
  have h1 : X i 0 = (sumN n fun k => inA S A i k * X k 0) + inB S m B i 0 := h1
  rw [h1, sumN_eq_zero (fun k hk => by unfold inA; rw [if_pos hs, Rat.zero_mul])]
  unfold inB
  rw [if_pos hs, if_pos rfl]
  decide +kernel
 intro i hi
 cases hs : S i
 ·have h1 := hall i 0 hi (show 0 < 2 by decide)
  have h1 : X i 0 = (sumN n fun k => inA S A i k * X k 0) + inB S m B i 0 := h1
  have h2 : inB S m B i 0 = 0 := by
   unfold inB
   rw [if_neg (by rw [hs]; decide), if_neg (by decide)]
  rw [h2, Rat.add_zero] at h1
  rw [h1]
  exact sumN_congr fun k hk => by unfold inA; rw [if_neg (by rw [hs]; decide)]
 ·obtain ⟨h1, h2⟩ := hS i hi hs
  have hc := isC_ok hC
  have h3 : sumN n (A i) + sumN m (B i) = 1 := hc.one i hi
  have h5 : sumN m (B i) = 0 := sumN_eq_zero fun j hj => Chn.out_E hc hi hj h1
  rw [h5, Rat.add_zero] at h3
  rw [hone i hi hs, ← h3]
  refine sumN_congr fun k hk => ?_
  cases hk' : S k
  ·rw [h2 k hk hk', Rat.zero_mul]
  ·rw [hone k hk hk', Rat.mul_one]
def memB (l : List Nat) (i : Nat) : Bool := decide (i ∈ l)
theorem closed_shut {n m : Nat} {A B : Mx} : ∀ (t : Nat) (l : List Nat), t ≤ n → l ∈ shutL n (toB n A) (rchB n m A B) t → (∀ i, 0 ≤ A i i ∨ True) → (∀ a b, a < n → b < n → 0 ≤ A a b) → ShutS n m A B (memB l) ∧ ∀ j, j ∈ l → j < n := by
 intro t
 induction t with
 | zero => intro l _ h; cases h
 | succ t ih =>
  intro l ht h h0 hA
  unfold shutL at h
  split at h
  ·rename_i hok
   rcases List.mem_append.1 h with h | h
   ·exact ih l (by omega) h h0 hA
   ·obtain rfl : l = pick n (toB n A t) := by simpa using h
    have hk := (okN_iff n).1 hok
    refine ⟨fun a ha hs => ?_, fun j hj => (pick_mem.1 hj).1⟩
    have hs := (pick_mem.1 (of_decide_eq_true hs)).2
    obtain ⟨_, h2, _⟩ := hk a ha hs
    refine ⟨fun hr => (by rw [rchB_iff.2 hr] at h2; cases h2), fun b hb hsb => ?_⟩
    have h3 := hA a b ha hb
    have h4 : ¬ 0 < A a b := fun hp => by
     have : memB (pick n (toB n A t)) b = true := decide_eq_true (pick_mem.2 ⟨hb, toB_iff.2 (.move (toB_iff.1 hs) hb hp)⟩)
     rw [hsb] at this
     cases this
    grind
  ·exact ih l (by omega) h h0 hA
theorem closed_len {n m : Nat} {A B : Mx} (hC : isC n m A B = true) {l : List Nat} (h : l ∈ closedL n m A B) : ShutS n m A B (memB l) ∧ ∀ j, j ∈ l → j < n :=
 closed_shut n l (Nat.le_refl _) h (fun _ => .inr trivial) (isC_ok hC).M0
structure Over (n m : Nat) (A B : Mx) (t : Nat) (y : Mx) : Prop where
 le : ∀ i j, i < n → j < m → eachM n m A B i j ≤ y i j
 len : ∀ i j, i < n → j < m → rL (y i j) ≤ 100000 + t * 600010
 eq : ∀ i j, i < n → j < m → y i j = (sumN n fun k => A i k * y k j) + B i j
theorem Over.zero {n m : Nat} {A B : Mx} (hn : n ≤ 8) (hC : isC n m A B = true) (hA : ∀ i k, i < n → k < n → rL (A i k) ≤ 38) (hB : ∀ i k, i < n → k < m → rL (B i k) ≤ 38) : Over n m A B 0 (eachM n m A B) :=
 ⟨fun i j hi hj => Rat.le_refl, fun i j hi hj => by have := each_small hn hC hA hB i j hi hj; omega, fun i j hi hj => (each_is hC hA hB (by decide)).all (isC_ok hC) i j hi hj⟩
theorem Over.next {n m t : Nat} {A B y : Mx} (h : Over n m A B t y) {g : Rat} (hg : 0 ≤ g) (hgL : rL g ≤ 3) {s : Nat → Rat} (hs : ∀ i, i < n → 0 ≤ s i) (hsL : ∀ i, i < n → rL (s i) ≤ 600000) (he : ∀ i, i < n → s i = sumN n fun k => A i k * s k) : Over n m A B (t + 1) fun i j => y i j + g * s i := by
 refine ⟨fun i j hi hj => ?_, fun i j hi hj => ?_, fun i j hi hj => ?_⟩
 ·have h1 := h.le i j hi hj
  have h2 := Rat.mul_nonneg hg (hs i hi)
  show _ ≤ y i j + g * s i
  grind
 ·have h1 := h.len i j hi hj
  have h2 := rL_mul g (s i) hgL (hsL i hi) (by decide)
  have h3 := rL_add (y i j) (g * s i) h1 h2
  show rL (y i j + g * s i) ≤ _
  omega
 ·show y i j + g * s i = (sumN n fun k => A i k * (y k j + g * s k)) + B i j
  have e : (sumN n fun k => A i k * (y k j + g * s k)) = (sumN n fun k => A i k * y k j) + g * sumN n fun k => A i k * s k := by
   rw [← sumN_mul, ← sumN_add]
   exact sumN_congr fun k _ => by grind
  rw [e, ← he i hi, h.eq i j hi hj]
  grind
end Go.Proofs.YtepkjfnffbdcoaaGreat
/- Statements about chains: the chain that enters a set (law20.among, into). -/
set_option linter.unusedVariables false
set_option linter.unusedSimpArgs false
namespace Go.Proofs.YtepkjfnffbdcoaaGreat
open Go Go.Proofs.YtepkjfnffbdcoaaGreat.Lift
attribute [local irreducible] Lift.PCall Lift.HCall
theorem memB_yes {l : List Nat} {k : Nat} (h : ∃ j, j < l.length ∧ l.getD j 0 = k) : memB l k = true := by
 obtain ⟨j, hj, rfl⟩ := h
 exact decide_eq_true (by rw [List.getD_eq_getElem?_getD, List.getElem?_eq_getElem hj]; exact List.getElem_mem _)
theorem memB_no {l : List Nat} {k : Nat} (h : ∀ j, j < l.length → l.getD j 0 ≠ k) : memB l k = false := by
 refine decide_eq_false fun hm => ?_
 obtain ⟨j, hj, e⟩ := List.getElem_of_mem hm
 exact h j hj (by rw [List.getD_eq_getElem?_getD, List.getElem?_eq_getElem hj]; exact e)
set_option maxHeartbeats 4000000 in
theorem among_ok (l : List Nat) (hl : l.length < 2 ^ 40) (k : Nat) : PCall Tryz.prog 79 [.sl (il l), .i .i64 k] (.b (memB l k)) [] := by
 have hyes : (∃ j, j < l.length ∧ l.getD j 0 = k) → memB l k = true := memB_yes
 have hno : (∀ j, j < l.length → l.getD j 0 ≠ k) → memB l k = false := memB_no
 generalize memB l k = w at *
 refine PCall.of_ax Tryz.call79 Tryz.func79 rfl (by simp [Tryz.ntmps79]) fun O w0 => ?_
 simp only [Tryz.ntmps79, Tryz.results79, argFr]
 have hil := il_length l
 have hix := fun k (hk : k < l.length) => il_get hk
 generalize il l = Il at *
 refine AX.sR (rgAV [0, 1]) ?_
 refine AX.seq ?_
 refine AX.sR (rgWV [1, 7, 8, 9] (aI @hil oT) oT) ?_
 refine AX.weaken id (st' := ⟨[(9, .i .i64 (0 : Nat)), (8, .i .i64 l.length), (7, .sl Il), (1, .i .i64 k)], [], 0⟩)
  leQ4
  ?_
 refine AX.block ?_
 refine AX.loop (fun N st => ∃ i : Nat, (∀ j, j < i → l.getD j 0 ≠ k) ∧ i ≤ l.length ∧ N = l.length - i ∧ st = ⟨[(9, .i .i64 i), (8, .i .i64 l.length), (7, .sl Il), (1, .i .i64 k)], [], 0⟩) l.length ⟨0, fun j hj => absurd hj (Nat.not_lt_zero _), Nat.zero_le _, rfl, rfl⟩ ?_
 rintro N st ⟨i, hp, hi, rfl, rfl⟩
 by_cases h1 : i < l.length
 ·have hg := hix i h1
  clear hix
  refine AX.sR (rgAV [1, 7, 8, 9, 10]) ?_
  refine AX.seq ?_
  refine AX.condT ?_
  refine AX.keepA [1, 7, 8, 9] ?_
  refine AX.skip ?_
  refine nmZ ?_
  refine AX.seq ?_
  refine AX.block ?_
  by_cases e : l.getD i 0 = k
  ·obtain rfl := hyes ⟨i, h1, e⟩
   rw [e] at hg
   refine AX.sR (rgWV [1, 6, 7, 8, 9] (aI @hil (aI @hg oT)) oT) ?_
   refine AX.sR (rgAV [1, 7, 8, 9, 15]) ?_
   refine AX.condT ?_
   refine AX.sR (rgAV [4]) ?_
   refine AX.ret ⟨.inl rfl, ?_⟩
   exact Done.one rfl rfl rfl rfl
  ·have hp' : ∀ j, j < i + 1 → l.getD j 0 ≠ k := fun j hj => by
    by_cases hji : j = i
    ·rw [hji]; exact e
    ·exact hp j (by omega)
   clear hp hyes hno
   generalize l.getD i 0 = d at hg e
   have e' : ¬ ((d : Int) = (k : Int)) := by omega
   refine AX.sR (rgWV [1, 6, 7, 8, 9] (aI @hil (aI @hg oT)) oT) ?_
   refine AX.sR (rgWV [1, 7, 8, 9, 15] (aI @e' oT) oT) ?_
   refine AX.condF ?_
   refine AX.keepA [1, 7, 8, 9] ?_
   refine AX.skip ?_
   refine nmZ ?_
   refine AX.rR (rgWV [1, 7, 8, 9] (aI @lit_add oT) oT) ?_
   refine nmZ ?_
   refine ⟨_, _, id, ?_,
    leQ4
    , ⟨i + 1, hp', by omega, rfl, rfl⟩⟩
   omega
 ·obtain rfl : i = l.length := by omega
  obtain rfl := hno hp
  refine AX.sR (rgAV [1, 7, 8, 9, 10]) ?_
  refine AX.seq ?_
  refine AX.condF ?_
  refine AX.exit ?_
  refine nmZ ?_
  refine AX.sR (rgAV [4]) ?_
  refine AX.ret ⟨.inl rfl, ?_⟩
  exact Done.one rfl rfl rfl rfl
def miA (S : Nat → Bool) (A : Mx) (i0 k0 : Nat) : Mx := fun i k => if i < i0 ∨ i = i0 ∧ k < k0 then inA S A i k else 0
def miB (S : Nat → Bool) (m : Nat) (B : Mx) (i0 k0 : Nat) : Mx := fun i j => if i < i0 then inB S m B i j else if i = i0 ∧ j = 1 then sumN k0 (B i) else 0
theorem miB_zero (S : Nat → Bool) (m : Nat) (B : Mx) {i0 i j : Nat} (h : i0 ≤ i) : miB S m B i0 0 i j = 0 := by
 unfold miB
 rw [if_neg (by omega)]
 split
 ·rfl
 ·rfl
set_option maxHeartbeats 32000000 in
theorem into_ok (n m : Nat) (hn : n ≤ 8) (hm : m ≤ 5) (A B : Mx) (hA : ∀ i k, i < n → k < n → rL (A i k) ≤ 38) (hB : ∀ i k, i < n → k < m → rL (B i k) ≤ 38) (l : List Nat) (hl : l.length < 2 ^ 40) :
  PCall Tryz.prog 32 [cV n m A B, .sl (il l)] (cV n 2 (inA (memB l) A) (inB (memB l) m B)) [] := by
 have ca := among_ok l hl
 have cz1 := rzero_own n n (by omega) (by omega)
 have cz2 := rzero_own n 2 (by omega) (by decide)
 have cone : PCall Tryz.prog 45 [] (.agg [.b (decide (((1 : Rat)).num < 0)), dg (digits ((1 : Rat)).num.natAbs), dg (digits ((1 : Rat)).den)]) [] := pone_ok
 have cat1 := fun (i k : Nat) (hi : i < n) (hk : k < n) => wat_ok n n 38 (by omega) (by omega) A hA (by decide) i k hi hk
 have cat2 := fun (i k : Nat) (hi : i < n) (hk : k < m) => wat_ok n m 38 (by omega) (by omega) B hB (by decide) i k hi hk
 have cadd : ∀ (i k : Nat) (hi : i < n) (hk : k < m), PCall Tryz.prog 33 [.agg [.b (decide ((sumN k (B i)).num < 0)), dg (digits (sumN k (B i)).num.natAbs), dg (digits (sumN k (B i)).den)], .agg [.b (decide ((B i k).num < 0)), dg (digits (B i k).num.natAbs), dg (digits (B i k).den)]] (.agg [.b (decide ((sumN k (B i) + B i k).num < 0)), dg (digits (sumN k (B i) + B i k).num.natAbs), dg (digits (sumN k (B i) + B i k).den)]) [] := fun i k hi hk => by
  have h1 := sumN_len (f := B i) (fun j hj => hB i j hi hj) k (by omega)
  have h2 : k * (38 + 1) ≤ 5 * (38 + 1) := Nat.mul_le_mul_right _ (by omega)
  exact padd_ok (L := 200) (IsQ.of (by omega)) (IsQ.of (Nat.le_trans (hB i k hi hk) (by decide))) (by decide) (by decide)
 generalize memB l = S at *
 have e1 : mcells n (fun _ _ => (0 : Rat)) (n * n) = mcells n (miA S A 0 0) (n * n) := mcells_congr fun i k hi hk => by
  unfold miA
  rw [if_neg (by omega)]
 have e2 : mcells 2 (fun _ _ => (0 : Rat)) (n * 2) = mcells 2 (miB S m B 0 0) (n * 2) := mcells_congr fun i k hi hk => (miB_zero S m B (Nat.zero_le _)).symm
 rw [e1] at cz1
 rw [e2] at cz2
 have f1 : mcells n (miA S A n 0) (n * n) = mcells n (inA S A) (n * n) := mcells_congr fun i k hi hk => if_pos (.inl hi)
 have f2 : mcells 2 (miB S m B n 0) (n * 2) = mcells 2 (inB S m B) (n * 2) := mcells_congr fun i k hi hk => if_pos hi
 have hnn : n * n ≤ 8 * 8 := Nat.mul_le_mul hn hn
 have qA := fun i k => qlen n n (miA S A i k)
 have qB := fun i k => qlen 2 n (miB S m B i k)
 have lA := mcells_length n (inA S A) (n * n)
 have lB := mcells_length 2 (inB S m B) (n * 2)
 have hil := il_length l
 refine PCall.of_ax Tryz.call32 Tryz.func32 rfl (by simp [Tryz.ntmps32]) fun O w0 => ?_
 simp only [Tryz.ntmps32, Tryz.results32, argFr]
 unfold cV qM mV at *
 generalize (mcells n A (n * n)).map rV = Ac at *
 generalize (mcells m B (n * m)).map rV = Bc at *
 generalize il l = Il at *
 obtain ⟨Kn, hKn⟩ : ∃ K, n * n = K := ⟨_, rfl⟩
 obtain ⟨K2, hK2⟩ : ∃ K, n * 2 = K := ⟨_, rfl⟩
 rw [hKn] at cz1 qA f1 hnn lA ⊢
 rw [hK2] at cz2 qB f2 lB ⊢
 refine AX.sR (rgAV [1, 2, 4]) ?_
 refine AX.sR (rgAV [1, 2, 4, 5]) ?_
 refine AX.sR (rgAV [1, 2, 4, 5, 6]) ?_
 refine AX.sR (rgCV [1, 2, 4, 5, 6] (aI cz1 oT)) ?_
 refine AX.sR (rgCV [1, 2, 4, 5, 6] (aI cz2 oT)) ?_
 refine AX.seq ?_
 refine AX.sR (rgAV [1, 2, 4, 5, 6, 7]) ?_
 refine AX.weaken id (st' := ⟨[(7, .i .i64 (0 : Nat)), (6, .ptr 2 0), (5, .i .i64 n), (4, .ptr 1 0), (2, .ptr 0 0), (1, .sl Il)], [(4, ⟨41, qrow (mcells 2 (miB S m B 0 0) K2)⟩), (3, ⟨41, qrow (mcells n (miA S A 0 0) Kn)⟩), (2, ⟨36, [.i .i64 n, .i .i64 n, .own 3 0 Kn 3, .i .i64 n, .i .i64 2, .own 4 0 K2 3]⟩), (1, ⟨36, [.i .i64 0, .i .i64 0, .nl, .i .i64 0, .i .i64 0, .nl]⟩), (0, ⟨36, [.i .i64 n, .i .i64 n, .sl Ac, .i .i64 n, .i .i64 m, .sl Bc]⟩)], 5⟩)
  leQ4
  ?_
 refine AX.block ?_
 refine AX.loop (fun N st => ∃ i : Nat, i ≤ n ∧ N = n - i ∧ st = ⟨[(7, .i .i64 i), (6, .ptr 2 0), (5, .i .i64 n), (4, .ptr 1 0), (2, .ptr 0 0), (1, .sl Il)], [(4, ⟨41, qrow (mcells 2 (miB S m B i 0) K2)⟩), (3, ⟨41, qrow (mcells n (miA S A i 0) Kn)⟩), (2, ⟨36, [.i .i64 n, .i .i64 n, .own 3 0 Kn 3, .i .i64 n, .i .i64 2, .own 4 0 K2 3]⟩), (1, ⟨36, [.i .i64 0, .i .i64 0, .nl, .i .i64 0, .i .i64 0, .nl]⟩), (0, ⟨36, [.i .i64 n, .i .i64 n, .sl Ac, .i .i64 n, .i .i64 m, .sl Bc]⟩)], 5⟩) n ⟨0, Nat.zero_le _, rfl, rfl⟩ ?_
 rintro N st ⟨i, hi, rfl, rfl⟩
 refine AX.seq ?_
 by_cases h1 : i < n
 ·have cai := ca i
  refine AX.sR (rgAV [1, 2, 4, 5, 6, 7, 29]) ?_
  refine AX.condT ?_
  refine AX.keepA [1, 2, 4, 5, 6, 7] ?_
  refine AX.skip ?_
  refine nmZ ?_
  refine AX.seq ?_
  refine AX.block ?_
  refine AX.seq ?_
  cases hS : S i
  ·rw [hS] at cai
   refine AX.sR (rgCV [1, 2, 4, 5, 6, 7, 34] (aI cai oT)) ?_
   refine AX.condF ?_
   refine AX.keepA [1, 2, 4, 5, 6, 7] ?_
   refine AX.skip ?_
   refine nmZ ?_
   refine AX.seq ?_
   refine AX.sR (rgAV [1, 2, 4, 5, 6, 7, 8]) ?_
   refine AX.weaken id (st' := ⟨[(8, .i .i64 (0 : Nat)), (7, .i .i64 i), (6, .ptr 2 0), (5, .i .i64 n), (4, .ptr 1 0), (2, .ptr 0 0), (1, .sl Il)], [(4, ⟨41, qrow (mcells 2 (miB S m B i 0) K2)⟩), (3, ⟨41, qrow (mcells n (miA S A i 0) Kn)⟩), (2, ⟨36, [.i .i64 n, .i .i64 n, .own 3 0 Kn 3, .i .i64 n, .i .i64 2, .own 4 0 K2 3]⟩), (1, ⟨36, [.i .i64 0, .i .i64 0, .nl, .i .i64 0, .i .i64 0, .nl]⟩), (0, ⟨36, [.i .i64 n, .i .i64 n, .sl Ac, .i .i64 n, .i .i64 m, .sl Bc]⟩)], 5⟩)
    leQ4
    ?_
   refine AX.block ?_
   refine AX.loop (fun N st => ∃ k : Nat, k ≤ n ∧ N = n - k ∧ st = ⟨[(8, .i .i64 k), (7, .i .i64 i), (6, .ptr 2 0), (5, .i .i64 n), (4, .ptr 1 0), (2, .ptr 0 0), (1, .sl Il)], [(4, ⟨41, qrow (mcells 2 (miB S m B i 0) K2)⟩), (3, ⟨41, qrow (mcells n (miA S A i k) Kn)⟩), (2, ⟨36, [.i .i64 n, .i .i64 n, .own 3 0 Kn 3, .i .i64 n, .i .i64 2, .own 4 0 K2 3]⟩), (1, ⟨36, [.i .i64 0, .i .i64 0, .nl, .i .i64 0, .i .i64 0, .nl]⟩), (0, ⟨36, [.i .i64 n, .i .i64 n, .sl Ac, .i .i64 n, .i .i64 m, .sl Bc]⟩)], 5⟩) n ⟨0, Nat.zero_le _, rfl, rfl⟩ ?_
   rintro N st ⟨k, hk, rfl, rfl⟩
   refine AX.seq ?_
   by_cases h2 : k < n
   ·obtain ⟨z, hz⟩ : ∃ z, i * n + k = z := ⟨_, rfl⟩
    have m1 : (i : Int) * (n : Int) = ((i * n : Nat) : Int) := (Int.natCast_mul i n).symm
    have a1 : ((i * n : Nat) : Int) + (k : Int) = (z : Int) := by rw [← Int.natCast_add, hz]
    have hzK : z < Kn := by
     rw [← hz, ← hKn]
     have : (i + 1) * n ≤ n * n := Nat.mul_le_mul_right _ h1
     rw [Nat.succ_mul] at this
     omega
    have bz : i * n ≤ 8 * 8 := by
     have : i * n ≤ n * n := Nat.mul_le_mul_right _ hi
     omega
    have hq := qA i k
    have hset := qset (n := n) (miA S A i k) (A i k) h1 h2 hz
    have hnext : mcells n (updM (miA S A i k) i k (A i k)) (n * n) = mcells n (miA S A i (k + 1)) (n * n) := mcells_congr fun a b ha hb => by
     unfold updM miA
     by_cases e : a = i ∧ b = k
     ·rw [if_pos e, if_pos (.inr ⟨e.1, by omega⟩), e.1, e.2]
      unfold inA
      rw [if_neg (by rw [hS]; decide)]
     ·rw [if_neg e]
      have e3 : (a < i ∨ a = i ∧ b < k) = (a < i ∨ a = i ∧ b < k + 1) := by
       apply propext
       constructor <;> intro h <;> omega
      simp only [e3]
    rw [hnext, hKn] at hset
    have c1 := cat1 i k h1 h2
    clear hnext cat1 cat2 cadd
    generalize A i k = q at *
    refine AX.sR (rgAV [1, 2, 4, 5, 6, 7, 8, 44]) ?_
    refine AX.condT ?_
    refine AX.keepA [1, 2, 4, 5, 6, 7, 8] ?_
    refine AX.skip ?_
    refine nmZ ?_
    refine AX.seq ?_
    refine AX.block ?_
    refine AX.rD (rgDWV [1, 2, 4, 5, 6, 7, 8] (aI @m1 (aI @a1 (aI @hq oT))) (aI c1 oT)) ?_
    refine nmZ ?_
    rw [hset]
    refine AX.rR (rgWV [1, 2, 4, 5, 6, 7, 8] (aI @lit_add oT) oT) ?_
    refine nmZ ?_
    refine ⟨_, _, id, ?_,
     leQ4
     , ⟨k + 1, by omega, rfl, rfl⟩⟩
    omega
   ·obtain rfl : n = k := by omega
    have n3 : mcells n (miA S A i n) Kn = mcells n (miA S A (i + 1) 0) Kn := by
     rw [← hKn]
     refine mcells_congr fun a b ha hb => ?_
     unfold miA
     have e3 : (a < i ∨ a = i ∧ b < n) = (a < i + 1 ∨ a = i + 1 ∧ b < 0) := by
      apply propext
      constructor <;> intro h <;> omega
     simp only [e3]
    refine AX.sR (rgAV [1, 2, 4, 5, 6, 7, 8, 44]) ?_
    refine AX.condF ?_
    refine AX.exit ?_
    refine nmZ ?_
    rw [n3]
    refine AX.sR (rgAV [1, 2, 4, 5, 6, 7, 9]) ?_
    refine AX.weaken id (st' := ⟨[(9, .i .i64 (0 : Nat)), (7, .i .i64 i), (6, .ptr 2 0), (5, .i .i64 n), (4, .ptr 1 0), (2, .ptr 0 0), (1, .sl Il)], [(4, ⟨41, qrow (mcells 2 (miB S m B i 0) K2)⟩), (3, ⟨41, qrow (mcells n (miA S A (i + 1) 0) Kn)⟩), (2, ⟨36, [.i .i64 n, .i .i64 n, .own 3 0 Kn 3, .i .i64 n, .i .i64 2, .own 4 0 K2 3]⟩), (1, ⟨36, [.i .i64 0, .i .i64 0, .nl, .i .i64 0, .i .i64 0, .nl]⟩), (0, ⟨36, [.i .i64 n, .i .i64 n, .sl Ac, .i .i64 n, .i .i64 m, .sl Bc]⟩)], 5⟩)
     leQ4
     ?_
    refine AX.block ?_
    refine AX.loop (fun N st => ∃ k : Nat, k ≤ m ∧ N = m - k ∧ st = ⟨[(9, .i .i64 k), (7, .i .i64 i), (6, .ptr 2 0), (5, .i .i64 n), (4, .ptr 1 0), (2, .ptr 0 0), (1, .sl Il)], [(4, ⟨41, qrow (mcells 2 (miB S m B i k) K2)⟩), (3, ⟨41, qrow (mcells n (miA S A (i + 1) 0) Kn)⟩), (2, ⟨36, [.i .i64 n, .i .i64 n, .own 3 0 Kn 3, .i .i64 n, .i .i64 2, .own 4 0 K2 3]⟩), (1, ⟨36, [.i .i64 0, .i .i64 0, .nl, .i .i64 0, .i .i64 0, .nl]⟩), (0, ⟨36, [.i .i64 n, .i .i64 n, .sl Ac, .i .i64 n, .i .i64 m, .sl Bc]⟩)], 5⟩) m ⟨0, Nat.zero_le _, rfl, rfl⟩ ?_
    rintro N st ⟨k, hk, rfl, rfl⟩
    refine AX.seq ?_
    by_cases h2 : k < m
    ·obtain ⟨z, hz⟩ : ∃ z, i * 2 + 1 = z := ⟨_, rfl⟩
     have m1 : (2 : Int) * (i : Int) = ((2 * i : Nat) : Int) := (Int.natCast_mul 2 i).symm
     have a1 : ((2 * i : Nat) : Int) + 1 = (z : Int) := by omega
     have hzK : z < K2 := by omega
     have hq := qB i k
     have hg := qget (n := n) (miB S m B i k) h1 (show 1 < 2 by decide) hz
     have ev : miB S m B i k i 1 = sumN k (B i) := by
      unfold miB
      rw [if_neg (by omega), if_pos ⟨rfl, rfl⟩]
     rw [ev, hK2] at hg
     have hset := qset (n := n) (miB S m B i k) (sumN k (B i) + B i k) h1 (show 1 < 2 by decide) hz
     have hnext : mcells 2 (updM (miB S m B i k) i 1 (sumN k (B i) + B i k)) (n * 2) = mcells 2 (miB S m B i (k + 1)) (n * 2) := mcells_congr fun a b ha hb => by
      unfold updM miB
      by_cases e : a = i ∧ b = 1
      ·rw [if_pos e, if_neg (by omega), if_pos e, e.1]
       rfl
      ·rw [if_neg e]
       split
       ·rfl
       ·rfl
     rw [hnext, hK2] at hset
     have c1 := cat2 i k h1 h2
     have c2 := cadd i k h1 h2
     clear hnext cat1 cat2 cadd ev
     generalize sumN k (B i) + B i k = q2 at *
     generalize sumN k (B i) = q1 at *
     generalize B i k = q at *
     refine AX.sR (rgAV [1, 2, 4, 5, 6, 7, 9, 65]) ?_
     refine AX.condT ?_
     refine AX.keepA [1, 2, 4, 5, 6, 7, 9] ?_
     refine AX.skip ?_
     refine nmZ ?_
     refine AX.seq ?_
     refine AX.block ?_
     refine AX.rD (rgDWV [1, 2, 4, 5, 6, 7, 9] (aI @m1 (aI @a1 (aI @hq (aI @hg oT)))) (aI c1 (aI c2 oT))) ?_
     refine nmZ ?_
     rw [hset]
     refine AX.rR (rgWV [1, 2, 4, 5, 6, 7, 9] (aI @lit_add oT) oT) ?_
     refine nmZ ?_
     refine ⟨_, _, id, ?_,
      leQ4
      , ⟨k + 1, by omega, rfl, rfl⟩⟩
     omega
    ·obtain rfl : m = k := by omega
     have n4 : mcells 2 (miB S m B i m) K2 = mcells 2 (miB S m B (i + 1) 0) K2 := by
      rw [← hK2]
      refine mcells_congr fun a b ha hb => ?_
      by_cases ea : a < i
      ·unfold miB
       rw [if_pos ea, if_pos (by omega)]
      ·by_cases eb : a = i
       ·unfold miB
        have e5 : inB S m B i b = if b = 1 then sumN m (B i) else 0 := by
         unfold inB
         rw [if_neg (by rw [hS]; decide)]
        rw [if_neg ea, if_pos (show a < i + 1 by omega), eb, e5]
        by_cases ec : b = 1
        ·rw [if_pos ⟨rfl, ec⟩, if_pos ec]
        ·rw [if_neg (fun h => ec h.2), if_neg ec]
       ·rw [miB_zero S m B (show i + 1 ≤ a by omega)]
        unfold miB
        rw [if_neg ea, if_neg (fun h => eb h.1)]
     refine AX.sR (rgAV [1, 2, 4, 5, 6, 7, 9, 65]) ?_
     refine AX.condF ?_
     refine AX.exit ?_
     refine nmZ ?_
     rw [n4]
     refine AX.rR (rgWV [1, 2, 4, 5, 6, 7] (aI @lit_add oT) oT) ?_
     refine nmZ ?_
     refine ⟨_, _, id, ?_,
      leQ4
      , ⟨i + 1, by omega, rfl, rfl⟩⟩
     omega
  ·rw [hS] at cai
   obtain ⟨z, hz⟩ : ∃ z, i * 2 + 0 = z := ⟨_, rfl⟩
   have m1 : (2 : Int) * (i : Int) = (z : Int) := by omega
   have hzK : z < K2 := by omega
   have hq := qB i 0
   have hset := qset (n := n) (miB S m B i 0) 1 h1 (show 0 < 2 by decide) hz
   have hnext : mcells 2 (updM (miB S m B i 0) i 0 1) (n * 2) = mcells 2 (miB S m B (i + 1) 0) (n * 2) := mcells_congr fun a b ha hb => by
    by_cases ea : a < i
    ·unfold updM
     rw [if_neg (by omega)]
     unfold miB
     rw [if_pos ea, if_pos (by omega)]
    ·by_cases eb : a = i
     ·unfold updM
      rw [eb]
      have e4 : miB S m B (i + 1) 0 i b = inB S m B i b := if_pos (by omega)
      have e5 : inB S m B i b = if b = 0 then 1 else 0 := by
       unfold inB
       rw [if_pos hS]
      rw [e4, miB_zero S m B (Nat.le_refl _), e5]
      by_cases ec : b = 0
      ·rw [if_pos ⟨rfl, ec⟩, if_pos ec]
      ·rw [if_neg (fun h => ec h.2), if_neg ec]
     ·unfold updM
      rw [if_neg (fun h => eb h.1), miB_zero S m B (show i + 1 ≤ a by omega), miB_zero S m B (show i ≤ a by omega)]
   have n3 : mcells n (miA S A i 0) Kn = mcells n (miA S A (i + 1) 0) Kn := by
    rw [← hKn]
    refine mcells_congr fun a b ha hb => ?_
    unfold miA
    by_cases eb : a = i
    ·rw [if_neg (by omega), if_pos (.inl (by omega)), eb]
     unfold inA
     rw [if_pos hS]
    ·have e3 : (a < i ∨ a = i ∧ b < 0) = (a < i + 1 ∨ a = i + 1 ∧ b < 0) := by
      apply propext
      constructor <;> intro h <;> omega
     simp only [e3]
   rw [hnext, hK2] at hset
   refine AX.sR (rgCV [1, 2, 4, 5, 6, 7, 34] (aI cai oT)) ?_
   refine AX.condT ?_
   refine AX.sD (rgDWV [1, 2, 4, 5, 6, 7] (aI @m1 (aI @hq oT)) (aI cone oT)) ?_
   refine AX.exit ?_
   refine nmZ ?_
   rw [hset, n3]
   refine AX.rR (rgWV [1, 2, 4, 5, 6, 7] (aI @lit_add oT) oT) ?_
   refine nmZ ?_
   refine ⟨_, _, id, ?_,
    leQ4
    , ⟨i + 1, by omega, rfl, rfl⟩⟩
   omega
 ·obtain rfl : n = i := by omega
  refine AX.sR (rgAV [1, 2, 4, 5, 6, 7, 29]) ?_
  refine AX.condF ?_
  refine AX.exit ?_
  refine nmZ ?_
  rw [f1, f2]
  generalize mcells n (inA S A) Kn = us at *
  generalize mcells 2 (inB S m B) K2 = vs at *
  subst lA lB
  refine AX.keepA [4, 6] ?_
  refine AX.fz 3 (fr' := [(6, .ptr 2 0), (4, .ptr 1 0)]) (hp' := [(4, ⟨41, qrow vs⟩), (2, ⟨36, [.i .i64 n, .i .i64 n, .sl (us.map rV), .i .i64 n, .i .i64 2, .own 4 0 vs.length 3]⟩), (1, ⟨36, [.i .i64 0, .i .i64 0, .nl, .i .i64 0, .i .i64 0, .nl]⟩)]) rfl (hf_q us) (.cons rfl .same (.cons rfl .same .nil)) (.keep (by decide) rfl (.cons (by decide) rfl rfl rfl (fun t ht => ?_) (.keep (by decide) rfl .nil))) ?_
  ·have : t = 0 ∨ t = 1 ∨ t = 2 ∨ t = 3 ∨ t = 4 ∨ t = 5 := by simp at ht; omega
   rcases this with rfl | rfl | rfl | rfl | rfl | rfl
   ·exact .same
   ·exact .same
   ·exact .own (okFrz_q us) (by rw [take_q, chunks_q])
   ·exact .same
   ·exact .same
   ·exact .same
  refine AX.fz 4 (fr' := [(6, .ptr 2 0), (4, .ptr 1 0)]) (hp' := [(2, ⟨36, [.i .i64 n, .i .i64 n, .sl (us.map rV), .i .i64 n, .i .i64 2, .sl (vs.map rV)]⟩), (1, ⟨36, [.i .i64 0, .i .i64 0, .nl, .i .i64 0, .i .i64 0, .nl]⟩)]) rfl (hf_q vs) (.cons rfl .same (.cons rfl .same .nil)) (.cons (by decide) rfl rfl rfl (fun t ht => ?_) (.keep (by decide) rfl .nil)) ?_
  ·have : t = 0 ∨ t = 1 ∨ t = 2 ∨ t = 3 ∨ t = 4 ∨ t = 5 := by simp at ht; omega
   rcases this with rfl | rfl | rfl | rfl | rfl | rfl
   ·exact .same
   ·exact .same
   ·exact .same
   ·exact .same
   ·exact .same
   ·exact .own (okFrz_q vs) (by rw [take_q, chunks_q])
  generalize us.map rV = Uc at *
  generalize vs.map rV = Vc at *
  refine AX.sR (rgAV [4]) ?_
  refine AX.ret ⟨.inl rfl, ?_⟩
  exact dnQ4
end Go.Proofs.YtepkjfnffbdcoaaGreat
/- Statements about chains: ChainLeast. -/
set_option linter.unusedVariables false
set_option linter.unusedSimpArgs false
namespace Go.Proofs.YtepkjfnffbdcoaaGreat
open Go Go.Proofs.YtepkjfnffbdcoaaGreat.Lift
attribute [local irreducible] Lift.PCall Lift.HCall
theorem sgnR_ge {q : Rat} (h : 0 ≤ q) : ¬ sgnR q < 0 := by
 unfold sgnR
 rw [if_neg (by grind)]
 split <;> decide
theorem effOneR {xs : List RT} {i : Nat} (hi : i < xs.length) (x lo hi' : Operand) : eff Tryz.prog (.slice 22 x (some lo) (some hi') none) [.sl (xs.map fR), .i .i64 (i : Int), .i .i64 ((i + 1 : Nat) : Int)] = some (.val (.sl [fR (xs.getD i d0)])) := by
 have hl : (xs.map fR).length = xs.length := List.length_map ..
 have h3 : ((xs.map fR).getD 0 .junk).cells.length = 3 := by
  cases xs with
  | nil => simp at hi
  | cons a l => rfl
 have ht : ((xs.map fR).take (i + 1)).drop i = [fR (xs.getD i d0)] := by
  rw [List.drop_take, show i + 1 - i = 1 by omega, ← List.map_drop, ← List.map_take, List.drop_eq_getElem_cons hi, List.take_succ_cons, List.take_zero, List.getD_eq_getElem?_getD, List.getElem?_eq_getElem hi]
  rfl
 have hne : ∃ a l, xs.map fR = a :: l := by
  cases xs with
  | nil => simp at hi
  | cons a l => exact ⟨_, _, rfl⟩
 obtain ⟨a, l, hal⟩ := hne
 generalize xs.map fR = ls at *
 subst hal
 simp only [eff, effSlice, lowHigh, sliceV, bound, Tryz.underlying22, lay_ratio, Option.isSome_some, Option.isSome_none]
 rw [if_pos ⟨by omega, by omega, by omega, h3⟩, Int.toNat_natCast, Int.toNat_natCast, ht]
def mixM (m : Nat) (y y' : Mx) (p : Nat) : Mx := fun i j => if i * m + j < p then y' i j else y i j
set_option maxHeartbeats 4000000 in
theorem least_not (c : V) (S' : List V) (R1 C1 R2 C2 : Int) (x y ts : List V) (hc : c = .agg [.i .i64 R1, .i .i64 C1, .sl x, .i .i64 R2, .i .i64 C2, .sl y]) (R1' C1' R2' C2' : Int) (x' y' : List V)
  (cf : PCall Tryz.prog 14 [c, .sl []] (.tup [.agg [.i .i64 R1', .i .i64 C1', .sl x', .i .i64 R2', .i .i64 C2', .sl y'], .sl S']) []) (cr : PCall Tryz.prog 41 [.agg [.i .i64 R1', .i .i64 C1', .sl x', .i .i64 R2', .i .i64 C2', .sl y']] (.b false) []) :
  PCall Tryz.prog 5 [c, .sl ts] (.b true) [] := by
 have ce := ceach_not R1' C1' R2' C2' x' y' cr
 have cal := lalive_ok
 subst hc
 refine PCall.of_ax Tryz.call5 Tryz.func5 rfl (by simp [Tryz.ntmps5]) fun O w0 => ?_
 simp only [Tryz.ntmps5, Tryz.results5, argFr]
 refine AX.sR (rgAV [1, 2]) ?_
 refine AX.sR (rgCV [1, 2] (aI cf oT)) ?_
 refine AX.sR (rgCV [1, 2, 5, 6] (aI ce oT)) ?_
 refine AX.seq ?_
 refine AX.sR (rgAV [1, 2, 5, 32]) ?_
 refine AX.condT ?_
 refine AX.sR (rgCV [4] (aI cal oT)) ?_
 refine AX.ret ⟨.inl rfl, ?_⟩
 exact Done.one rfl rfl rfl rfl
set_option maxHeartbeats 64000000 in
theorem least_ok (c : V) (S' : List V) (R1 C1 R2 C2 : Int) (x y : List V) (hc : c = .agg [.i .i64 R1, .i .i64 C1, .sl x, .i .i64 R2, .i .i64 C2, .sl y]) (n m : Nat) (A B : Mx) (hn : n ≤ 8) (hm : m ≤ 5) (hA : ∀ i k, i < n → k < n → rL (A i k) ≤ 38) (hB : ∀ i k, i < n → k < m → rL (B i k) ≤ 38) (hC : isC n m A B = true)
  (ts : List RT) (ht : okRT ts) (lt : ts.length < 2 ^ 62) (cf : PCall Tryz.prog 14 [c, .sl []] (.tup [cV n m A B, .sl S']) []) : PCall Tryz.prog 5 [c, .sl (ts.map fR)] (.b true) [] := by
 have hX := each_small hn hC hA hB
 have hX0 := (each_is (L := 38) hC hA hB (by decide)).nonneg (isC_ok hC)
 have hov := Over.zero hn hC hA hB
 have ce := ceach_ok n m 38 (by omega) (by omega) A B hC hA hB (by decide) (bigL8 hn) (by decide)
 have ccl := rclosed_ok n m 38 (by omega) (by omega) A B hC hA hB (by decide) (by decide)
 have hcs := fun l (hl : l ∈ closedL n m A B) => closed_len hC hl
 have hcl : (closedL n m A B).length ≤ n := (shutL_len (n := n) (F := toB n A) (r := rchB n m A B) n).1
 have hcn : ∀ l ∈ closedL n m A B, l.length ≤ n := (shutL_len (n := n) (F := toB n A) (r := rchB n m A B) n).2
 have cof := lof_ok n n n m ((mcells n A (n * n)).map rV) ((mcells m B (n * m)).map rV)
 have cin := fun (l : List Nat) (hl : l.length < 2 ^ 40) => into_ok n m hn hm A B hA hB l hl
 have cin2 := fun (S : Nat → Bool) => r20each_ok n 2 199 (by omega) (by decide) (inA S A) (inB S m B) _ (into_isC S hC) (each_is (L := 199) (into_isC S hC) (fun i k hi hk => Nat.le_trans (inA_len S hA i k hi hk) (by decide)) (inB_len S hm hB) (by decide)) (fun i k hi hk => Nat.le_trans (inA_len S hA i k hi hk) (by decide)) (inB_len S hm hB) (by decide) (by decide) (by
  have h1 : 5 ^ n * (199 + 2) ≤ 5 ^ 8 * (199 + 2) := Nat.mul_le_mul_right _ (Nat.pow_le_pow_right (by decide) hn)
  have h2 : 5 ^ 8 * (199 + 2) < 2 ^ 30 := by decide
  omega)
 have hsl := fun (S : Nat → Bool) => each_small200 hn (into_isC S hC) (inA_len S hA) (inB_len S hm hB)
 have hs0 := fun (S : Nat → Bool) => (each_is (L := 199) (into_isC S hC) (fun i k hi hk => Nat.le_trans (inA_len S hA i k hi hk) (by decide)) (inB_len S hm hB) (by decide)).nonneg (isC_ok (into_isC S hC))
 have hse := fun (S : Nat → Bool) (hS : ShutS n m A B S) => share_mean hC hS (each_is (L := 199) (into_isC S hC) (fun i k hi hk => Nat.le_trans (inA_len S hA i k hi hk) (by decide)) (inB_len S hm hB) (by decide))
 have cat := fun (S : Nat → Bool) (i : Nat) (hi : i < n) => wat_ok n 2 600000 (by omega) (by decide) _ (hsl S) (by decide) i 0 hi (by decide)
 have hnm : n * m ≤ 60 * 60 := Nat.mul_le_mul (by omega) (by omega)
 have cal := lalive_ok
 have hm0 := fun (p : Nat) (hp : p < n * m) => show 0 < m from Nat.pos_of_ne_zero fun e => by rw [e, Nat.mul_zero] at hp; omega
 have hpi : ∀ p, p < n * m → p / m < n ∧ p % m < m ∧ p / m * m + p % m = p := fun p hp => ⟨(Nat.div_lt_iff_lt_mul (hm0 p hp)).2 hp, Nat.mod_lt _ (hm0 p hp), Nat.div_add_mod' p m⟩
 have hpi' := hpi
 have hcM := fun (y : Mx) (hy : ∀ i j, i < n → j < m → rL (y i j) ≤ 4900080) => wmul_ok n n m 4900080 (by omega) (by omega) (by omega) A y (fun i k hi hk => Nat.le_trans (hA i k hi hk) (by decide)) hy (by decide) (by decide)
 have hcA := fun (y : Mx) (hy : ∀ i j, i < n → j < m → rL (y i j) ≤ 4900080) => wadd_ok n m 78401289 (by omega) (by omega) (mulM n A y) B (fun i k hi hk => by
  have h1 := mulM_len (n := n) (L := 4900080) (A := A) (B := y) (i := i) (k := k) (by decide) (fun j hj => Nat.le_trans (hA i j hi hj) (by decide)) (fun j hj => hy j k hj hk) n (Nat.le_refl _)
  have h2 : n * (2 * 4900080 + 1) ≤ 8 * (2 * 4900080 + 1) := Nat.mul_le_mul_right _ hn
  omega) (fun i k hi hk => Nat.le_trans (hB i k hi hk) (by decide)) (by decide) (by decide)
 have hcS := fun (y : Mx) (hy : ∀ i j, i < n → j < m → rL (y i j) ≤ 4900080) => by
  have hl : (mcells m y (n * m)).length < 2 ^ 40 := by rw [mcells_length]; omega
  have := wsame_ok n m n m (mcells m y (n * m)) (mcells m y (n * m)) 4900080 (mcells_len hy) (mcells_len hy) (by decide) (by decide) hl hl
  rwa [decide_eq_true ⟨rfl, rfl, rfl⟩] at this
 have hnext := fun (t : Nat) (y : Mx) (h : Over n m A B t y) (l : List Nat) (hl : l ∈ closedL n m A B) (g : Rat) (hg : 0 ≤ g) (hgL : rL g ≤ 3) =>
  h.next hg hgL (s := fun i => eachM n 2 (inA (memB l) A) (inB (memB l) m B) i 0) (fun i hi => hs0 (memB l) i 0 hi (show 0 < 2 by decide)) (fun i hi => hsl (memB l) i 0 hi (by decide)) (hse (memB l) (hcs l hl).1)
 clear hs0 hse hcs
 subst hc
 refine PCall.of_ax Tryz.call5 Tryz.func5 rfl (by simp [Tryz.ntmps5]) fun O w0 => ?_
 simp only [Tryz.ntmps5, Tryz.results5, argFr]
 have hXlen : ((mcells m (eachM n m A B) (n * m)).map rV).length = n * m := by rw [List.length_map, mcells_length]
 have hix := fun (p : Nat) (hp : p < n * m) => fun x y => effIxM (n := n) (w := m) (x := x) (y := y) (eachM n m A B) (hpi p hp).1 (hpi p hp).2.1 (hpi p hp).2.2
 have hfl := flatCells_q (mcells m (eachM n m A B) (n * m))
 have hE3 : (((mcells m (eachM n m A B) (n * m)).map rV).getD 0 .junk).cells.length = 3 ∨ (mcells m (eachM n m A B) (n * m)).map rV = [] := by
  cases mcells m (eachM n m A B) (n * m) with
  | nil => exact .inr rfl
  | cons q l => exact .inl rfl
 have hqlX := qlen m n (eachM n m A B)
 have hll := sll_length (closedL n m A B)
 have hlg := fun j (hj : j < (closedL n m A B).length) => sll_get hj
 have hlm := fun j (hj : j < (closedL n m A B).length) => show (closedL n m A B).getD j [] ∈ closedL n m A B by rw [List.getD_eq_getElem?_getD, List.getElem?_eq_getElem hj]; exact List.getElem_mem _
 have htl : (ts.map fR).length = ts.length := List.length_map ..
 unfold cV qM mV at *
 obtain ⟨Ac, hAc⟩ : ∃ l, (mcells n A (n * n)).map rV = l := ⟨_, rfl⟩
 obtain ⟨Bc, hBc⟩ : ∃ l, (mcells m B (n * m)).map rV = l := ⟨_, rfl⟩
 obtain ⟨Xc, hXc⟩ : ∃ l, (mcells m (eachM n m A B) (n * m)).map rV = l := ⟨_, rfl⟩
 obtain ⟨Ts, hTs⟩ : ∃ l, ts.map fR = l := ⟨_, rfl⟩
 obtain ⟨Cl, hCl⟩ : ∃ l, sll (closedL n m A B) = l := ⟨_, rfl⟩
 obtain ⟨cl, hcl'⟩ : ∃ l, (closedL n m A B).length = l := ⟨_, rfl⟩
 rw [hAc, hBc] at cf ce ccl cof cin
 rw [hAc] at hcM
 rw [hBc] at hcA
 rw [hXc] at ce hXlen hix hfl hE3
 rw [hTs] at htl ⊢
 rw [hCl] at ccl hll hlg
 rw [hcl'] at hcl hll hlg hlm
 obtain ⟨K, hK⟩ : ∃ K, n * m = K := ⟨_, rfl⟩
 rw [hK] at hXlen hqlX hnm hfl hpi hix hcM hcA hcS
 refine AX.sR (rgAV [1, 2]) ?_
 refine AX.sR (rgCV [1, 2] (aI cf oT)) ?_
 refine AX.sR (rgCV [1, 2, 5, 6] (aI ce oT)) ?_
 refine AX.seq ?_
 refine AX.sR (rgAV [1, 2, 5, 32]) ?_
 refine AX.condF ?_
 refine AX.keepA [1, 2, 5] ?_
 refine AX.skip ?_
 refine nmZ ?_
 refine AX.sD (rgDAV [1, 2, 5, 7, 8]) ?_
 refine AX.sR (rgWV [1, 2, 5, 8, 9] (aI @hXlen (aI @hE3 (aI @hfl (aI @hqlX (aI @flat_q oT))))) oT) ?_
 refine AX.cut (fun st => ∃ (t : Nat) (y : Mx), t ≤ 8 ∧ Over n m A B t y ∧ Le 0 id ⟨[(9, .ptr 4 0), (5, .ptr 1 0), (2, .ptr 0 0)], [(4, ⟨32, [.i .i64 n, .i .i64 m, .own 3 0 K 3]⟩), (3, ⟨41, qrow (mcells m y K)⟩), (1, ⟨24, [.i .i64 n, .i .i64 m, .sl Xc]⟩), (0, ⟨26, [.i .i64 n, .i .i64 n, .sl Ac, .i .i64 n, .i .i64 m, .sl Bc]⟩)], 5⟩ st) ?_ ?_
 ·refine AX.sR (rgWV [1, 2, 5, 8, 9, 47, 48, 49] (aI @hll oT) (aI cof (aI ccl oT))) ?_
  refine AX.weaken id (st' := ⟨[(49, .i .i64 (0 : Nat)), (48, .i .i64 cl), (47, .sl Cl), (9, .ptr 4 0), (8, .i .i64 m), (5, .ptr 1 0), (2, .ptr 0 0), (1, .sl Ts)], [(4, ⟨32, [.i .i64 n, .i .i64 m, .own 3 0 K 3]⟩), (3, ⟨41, qrow (mcells m (eachM n m A B) K)⟩), (1, ⟨24, [.i .i64 n, .i .i64 m, .sl Xc]⟩), (0, ⟨26, [.i .i64 n, .i .i64 n, .sl Ac, .i .i64 n, .i .i64 m, .sl Bc]⟩)], 5⟩)
   leQ5
   ?_
  refine AX.block ?_
  refine AX.loop (fun N st => ∃ (i : Nat) (y : Mx), i ≤ cl ∧ Over n m A B i y ∧ N = cl - i ∧ st = ⟨[(49, .i .i64 i), (48, .i .i64 cl), (47, .sl Cl), (9, .ptr 4 0), (8, .i .i64 m), (5, .ptr 1 0), (2, .ptr 0 0), (1, .sl Ts)], [(4, ⟨32, [.i .i64 n, .i .i64 m, .own 3 0 K 3]⟩), (3, ⟨41, qrow (mcells m y K)⟩), (1, ⟨24, [.i .i64 n, .i .i64 m, .sl Xc]⟩), (0, ⟨26, [.i .i64 n, .i .i64 n, .sl Ac, .i .i64 n, .i .i64 m, .sl Bc]⟩)], 5⟩) cl ⟨0, eachM n m A B, Nat.zero_le _, hov, rfl, rfl⟩ ?_
  rintro N st ⟨i, y, hi, hy, rfl, rfl⟩
  by_cases h1 : i < cl
  ·have hg1 := hlg i h1
   have hg2 := hlm i h1
   have hlen := hcn _ hg2
   obtain ⟨l, hl⟩ : ∃ l, (closedL n m A B).getD i [] = l := ⟨_, rfl⟩
   rw [hl] at hg1 hg2 hlen
   obtain ⟨Il, hIl⟩ : ∃ v, il l = v := ⟨_, rfl⟩
   rw [hIl] at hg1
   refine AX.sR (rgAV [1, 2, 5, 8, 9, 47, 48, 49, 50]) ?_
   refine AX.seq ?_
   refine AX.condT ?_
   refine AX.keepA [1, 2, 5, 8, 9, 47, 48, 49] ?_
   refine AX.skip ?_
   refine nmZ ?_
   refine AX.seq ?_
   refine AX.block ?_
   refine AX.sR (rgWV [1, 2, 5, 8, 9, 10, 11, 47, 48, 49] (aI @hll (aI @hg1 oT)) oT) ?_
   refine AX.seq ?_
   by_cases h2 : ts.length ≤ i
   ·refine AX.sR (rgWV [1, 2, 5, 8, 9, 10, 11, 47, 48, 49, 57] (aI @htl oT) oT) ?_
    refine AX.condT ?_
    refine AX.exit ?_
    refine nmZ ?_
    refine ⟨by first | exact trivial | rfl, i, y, by omega, hy,
     leQ5
     ⟩
   ·have h2 : i < ts.length := by omega
    have hti := ht (ts.getD i d0) (getD_mem_RT h2)
    have hsl1 := fun x lo hi' => effOneR h2 x lo hi'
    rw [hTs] at hsl1
    obtain ⟨x, hx⟩ : ∃ x, ts.getD i d0 = x := ⟨_, rfl⟩
    rw [hx] at hti hsl1
    obtain ⟨d1, d2, d3, d4⟩ := hti
    have cli := llist_ok 1 (by decide) [x] (by show 1 < 2 ^ 62; decide) (fun z hz => by rw [List.mem_singleton.1 hz]; exact ⟨d3, d4⟩)
    have cli : PCall Tryz.prog 29 [.sl [fR x], .i .i64 1] (.sl [rR x.1 (x.2.1.take 3) (x.2.2.take 3)]) [] := cli
    have e1 : Dg (x.2.1.take 3) := fun d hd => d1 d (List.mem_of_mem_take hd)
    have e2 : Dg (x.2.2.take 3) := fun d hd => d2 d (List.mem_of_mem_take hd)
    have l1 : (x.2.1.take 3).length ≤ 3 := by rw [List.length_take]; omega
    have l2 : (x.2.2.take 3).length ≤ 3 := by rw [List.length_take]; omega
    have hix1 : ∀ a b, eff Tryz.prog (.indexAddr 22 a b) [.sl [rR x.1 (x.2.1.take 3) (x.2.2.take 3)], .i .i64 0] = some (.val (.rp [.b x.1, dg (x.2.1.take 3), dg (x.2.2.take 3)])) := fun a b => effIxR (j := 0) (els := [rR x.1 (x.2.1.take 3) (x.2.2.take 3)]) Nat.zero_lt_one rfl
    have cp := pright_ok x.1 (x.2.1.take 3) (x.2.2.take 3) e1 e2 (by omega) (by omega)
    obtain ⟨fx, hfx⟩ : ∃ v, fR x = v := ⟨_, rfl⟩
    rw [hfx] at cli hsl1
    clear d1 d2 d3 d4 hfx hx
    obtain ⟨s, a, b⟩ := x
    simp only at cli e1 e2 l1 l2 hix1 cp
    generalize a.take 3 = a3 at *
    generalize b.take 3 = b3 at *
    unfold rR at cli hix1 cp
    refine AX.sR (rgWV [1, 2, 5, 8, 9, 10, 11, 47, 48, 49, 57] (aI @htl oT) oT) ?_
    refine AX.condF ?_
    refine AX.keepA [1, 2, 5, 8, 9, 10, 11, 47, 48, 49] ?_
    refine AX.skip ?_
    refine nmZ ?_
    refine AX.sR (rgEV [1, 2, 5, 8, 9, 11, 12, 47, 48, 49] (aI @lit_add oT) (aI cli oT) (aI (hsl1 _) (aI hix1 oT))) ?_
    refine AX.seq ?_
    cases hR : isR s a3 b3
    ·rw [hR] at cp
     refine AX.sR (rgCV [1, 2, 5, 8, 9, 11, 12, 47, 48, 49, 73] (aI cp oT)) ?_
     refine AX.condT ?_
     refine AX.exit ?_
     refine nmZ ?_
     refine ⟨by first | exact trivial | rfl, i, y, by omega, hy,
      leQ5
      ⟩
    ·rw [hR] at cp
     obtain ⟨g, hg⟩ := isR_rat e1 e2 hR
     have e3 : s = decide (g.num < 0) ∧ a3 = digits g.num.natAbs ∧ b3 = digits g.den := by
      have h1 := congrArg (fun t => t.1) hg
      have h2 := congrArg (fun t => t.2.1) hg
      have h3 := congrArg (fun t => t.2.2) hg
      exact ⟨h1, h2, h3⟩
     obtain ⟨rfl, rfl, rfl⟩ := e3
     have hgL : rL g ≤ 3 := Nat.max_le.2 ⟨l1, l2⟩
     have csg : PCall Tryz.prog 31 [.agg [.b (decide ((g).num < 0)), dg (digits (g).num.natAbs), dg (digits (g).den)]] (.i .i64 (sgnR g)) [] := psign_ok (IsQ.of hgL) (by decide)
     by_cases hneg : sgnR g < 0
     ·refine AX.sR (rgWV [1, 2, 5, 8, 9, 11, 12, 47, 48, 49, 73] (aI @hneg oT) (aI cp (aI csg oT))) ?_
      refine AX.condT ?_
      refine AX.exit ?_
      refine nmZ ?_
      refine ⟨by first | exact trivial | rfl, i, y, by omega, hy,
       leQ5
       ⟩
     ·have hg0 : 0 ≤ g := by
       apply Classical.byContradiction
       intro h
       exact hneg (by unfold sgnR; rw [if_pos (by grind)]; decide)
      have hov' := hnext i y hy _ hg2 g hg0 hgL
      have c1 := cin l (by omega)
      have c2 := cin2 (memB l)
      have c3 := cat (memB l)
      have hsl2 := hsl (memB l)
      obtain ⟨Y, hY⟩ : ∃ Y, eachM n 2 (inA (memB l) A) (inB (memB l) m B) = Y := ⟨_, rfl⟩
      rw [hY] at hov' c2 c3 hsl2
      obtain ⟨Ic, hIc⟩ : ∃ v, (mcells n (inA (memB l) A) (n * n)).map rV = v := ⟨_, rfl⟩
      obtain ⟨Jc, hJc⟩ : ∃ v, (mcells 2 (inB (memB l) m B) (n * 2)).map rV = v := ⟨_, rfl⟩
      obtain ⟨Sc, hSc⟩ : ∃ v, (mcells 2 Y (n * 2)).map rV = v := ⟨_, rfl⟩
      rw [hIc, hJc, hIl] at c1
      rw [hIc, hJc, hSc] at c2
      rw [hSc] at c3
      have hgy : ∀ i j, i < n → j < m → rL (y i j) ≤ 4900080 := fun i' j' hi' hj' => by
       have h1 := hy.len i' j' hi' hj'
       have h2 : i * 600010 ≤ 8 * 600010 := Nat.mul_le_mul_right _ (by omega)
       omega
      have cmul : ∀ i, i < n → PCall Tryz.prog 34 [.agg [.b (decide ((g).num < 0)), dg (digits (g).num.natAbs), dg (digits (g).den)], .agg [.b (decide ((Y i 0).num < 0)), dg (digits (Y i 0).num.natAbs), dg (digits (Y i 0).den)]] (.agg [.b (decide ((g * Y i 0).num < 0)), dg (digits (g * Y i 0).num.natAbs), dg (digits (g * Y i 0).den)]) [] := fun i hi => pmul_ok (L := 600000) (IsQ.of (Nat.le_trans hgL (by decide))) (IsQ.of (hsl2 i 0 hi (by decide))) (by decide) (by decide)
      have cadd : ∀ i j, i < n → j < m → PCall Tryz.prog 33 [.agg [.b (decide ((y i j).num < 0)), dg (digits (y i j).num.natAbs), dg (digits (y i j).den)], .agg [.b (decide ((g * Y i 0).num < 0)), dg (digits (g * Y i 0).num.natAbs), dg (digits (g * Y i 0).den)]] (.agg [.b (decide ((y i j + g * Y i 0).num < 0)), dg (digits (y i j + g * Y i 0).num.natAbs), dg (digits (y i j + g * Y i 0).den)]) [] := fun i j hi hj => padd_ok (L := 4900080) (IsQ.of (hgy i j hi hj)) (IsQ.of (Nat.le_trans (rL_mul g (Y i 0) hgL (hsl2 i 0 hi (by decide)) (by decide)) (by decide))) (by decide) (by decide)
      refine AX.sR (rgWV [1, 2, 5, 8, 9, 11, 12, 47, 48, 49, 73] (aI @hneg oT) (aI cp (aI csg oT))) ?_
      refine AX.condF ?_
      refine AX.keepA [1, 2, 5, 8, 9, 11, 12, 47, 48, 49] ?_
      refine AX.skip ?_
      refine nmZ ?_
      clear hsl hix hcM hcA hcS hnext cin cin2 cat hcn hlg hlm hov ce ccl cf cp csg cli hsl1 hix1 ht
      refine AX.sR (rgCV [1, 2, 5, 8, 9, 12, 13, 47, 48, 49] (aI cof (aI c1 (aI c2 oT)))) ?_
      refine AX.sR (rgAV [1, 2, 5, 8, 9, 12, 13, 47, 48, 49, 84, 85]) ?_
      have m0 : mcells m y K = mcells m (mixM m y (fun i j => y i j + g * Y i 0) 0) K := by
       rw [← hK]
       exact mcells_congr fun a b ha hb => (if_neg (Nat.not_lt_zero _)).symm
      have mE : mcells m (mixM m y (fun i j => y i j + g * Y i 0) K) K = mcells m (fun i j => y i j + g * Y i 0) K := by
       rw [← hK]
       refine mcells_congr fun a b ha hb => if_pos ?_
       have : (a + 1) * m ≤ n * m := Nat.mul_le_mul_right _ ha
       rw [Nat.succ_mul] at this
       omega
      rw [m0]
      refine AX.weaken id (st' := ⟨[(85, .i .i64 (0 : Nat)), (84, .i .i64 K), (49, .i .i64 i), (48, .i .i64 cl), (47, .sl Cl), (13, .ptr 6 0), (12, .ptr 5 0), (9, .ptr 4 0), (8, .i .i64 m), (5, .ptr 1 0), (2, .ptr 0 0), (1, .sl Ts)], [(6, ⟨32, [.i .i64 n, .i .i64 2, .sl Sc]⟩), (5, ⟨41, [.b (decide ((g).num < 0)), dg (digits (g).num.natAbs), dg (digits (g).den)]⟩), (4, ⟨32, [.i .i64 n, .i .i64 m, .own 3 0 K 3]⟩), (3, ⟨41, qrow (mcells m (mixM m y (fun i j => y i j + g * Y i 0) 0) K)⟩), (1, ⟨24, [.i .i64 n, .i .i64 m, .sl Xc]⟩), (0, ⟨26, [.i .i64 n, .i .i64 n, .sl Ac, .i .i64 n, .i .i64 m, .sl Bc]⟩)], 7⟩)
       leQ5
       ?_
      refine AX.block ?_
      refine AX.loop (fun N st => ∃ p : Nat, p ≤ K ∧ N = K - p ∧ st = ⟨[(85, .i .i64 p), (84, .i .i64 K), (49, .i .i64 i), (48, .i .i64 cl), (47, .sl Cl), (13, .ptr 6 0), (12, .ptr 5 0), (9, .ptr 4 0), (8, .i .i64 m), (5, .ptr 1 0), (2, .ptr 0 0), (1, .sl Ts)], [(6, ⟨32, [.i .i64 n, .i .i64 2, .sl Sc]⟩), (5, ⟨41, [.b (decide ((g).num < 0)), dg (digits (g).num.natAbs), dg (digits (g).den)]⟩), (4, ⟨32, [.i .i64 n, .i .i64 m, .own 3 0 K 3]⟩), (3, ⟨41, qrow (mcells m (mixM m y (fun i j => y i j + g * Y i 0) p) K)⟩), (1, ⟨24, [.i .i64 n, .i .i64 m, .sl Xc]⟩), (0, ⟨26, [.i .i64 n, .i .i64 n, .sl Ac, .i .i64 n, .i .i64 m, .sl Bc]⟩)], 7⟩) K ⟨0, Nat.zero_le _, rfl, rfl⟩ ?_
      rintro N st ⟨p, hp, rfl, rfl⟩
      by_cases h3 : p < K
      ·obtain ⟨b1, b2, b3⟩ := hpi p h3
       have hmp : 0 < m := hm0 p (by rw [hK]; exact h3)
       have hmz : ¬ (m : Int) = 0 := by omega
       have hdiv : Int.tdiv (p : Int) (m : Int) = ((p / m : Nat) : Int) := rfl
       have q1 := qlen m n (mixM m y (fun i j => y i j + g * Y i 0) p)
       have q2 := qget (n := n) (mixM m y (fun i j => y i j + g * Y i 0) p) b1 b2 b3
       have q3 := qset (n := n) (mixM m y (fun i j => y i j + g * Y i 0) p) (y (p / m) (p % m) + g * Y (p / m) 0) b1 b2 b3
       have ev : mixM m y (fun i j => y i j + g * Y i 0) p (p / m) (p % m) = y (p / m) (p % m) := if_neg (by rw [b3]; exact Nat.lt_irrefl _)
       have q4 : mcells m (updM (mixM m y (fun i j => y i j + g * Y i 0) p) (p / m) (p % m) (y (p / m) (p % m) + g * Y (p / m) 0)) (n * m) = mcells m (mixM m y (fun i j => y i j + g * Y i 0) (p + 1)) (n * m) := mcells_congr fun a b ha hb => by
        unfold updM
        by_cases e : a = p / m ∧ b = p % m
        ·rw [if_pos e]
         have : a * m + b = p := by rw [e.1, e.2]; exact b3
         unfold mixM
         rw [if_pos (by omega), e.1, e.2]
        ·rw [if_neg e]
         have hne : a * m + b ≠ p := fun h => e (by
          have hh : (a * m + b) / m = a ∧ (a * m + b) % m = b := by
           rw [Nat.add_comm, Nat.add_mul_div_right _ _ hmp, Nat.div_eq_of_lt hb, Nat.add_mul_mod_self_right, Nat.mod_eq_of_lt hb]
           exact ⟨Nat.zero_add _, rfl⟩
          rw [h] at hh
          exact ⟨hh.1.symm, hh.2.symm⟩)
         unfold mixM
         have e5 : (a * m + b < p) = (a * m + b < p + 1) := by
          apply propext
          constructor <;> intro h <;> omega
         simp only [e5]
       rw [ev] at q2
       rw [q4] at q3
       rw [hK] at q1 q2 q3
       have k1 := c3 (p / m) b1
       have k1 : PCall Tryz.prog 35 [.agg [.i .i64 n, .i .i64 2, .sl Sc], .i .i64 ((p / m : Nat) : Int), .i .i64 0] (.agg [.b (decide ((Y (p / m) 0).num < 0)), dg (digits (Y (p / m) 0).num.natAbs), dg (digits (Y (p / m) 0).den)]) [] := k1
       have k2 := cmul (p / m) b1
       have k3 := cadd (p / m) (p % m) b1 b2
       clear ev q4 c3 cmul cadd hov' m0 mE hgy hy
       generalize y (p / m) (p % m) + g * Y (p / m) 0 = w3 at *
       generalize y (p / m) (p % m) = w1 at *
       generalize g * Y (p / m) 0 = w2 at *
       generalize Y (p / m) 0 = w0' at *
       generalize p / m = d at *
       refine AX.sR (rgAV [1, 2, 5, 8, 9, 12, 13, 47, 48, 49, 84, 85, 86]) ?_
       refine AX.seq ?_
       refine AX.condT ?_
       refine AX.keepA [1, 2, 5, 8, 9, 12, 13, 47, 48, 49, 84, 85] ?_
       refine AX.skip ?_
       refine nmZ ?_
       refine AX.seq ?_
       refine AX.block ?_
       refine AX.sR (rgAV [1, 2, 5, 8, 9, 12, 13, 15, 47, 48, 49, 84, 85]) ?_
       refine AX.rD (rgDWV [1, 2, 5, 8, 9, 12, 13, 47, 48, 49, 84, 85] (aI @q1 (aI @q2 (aI @hdiv (aI @hmz oT)))) (aI k1 (aI k2 (aI k3 oT)))) ?_
       refine nmZ ?_
       rw [q3]
       refine AX.rR (rgWV [1, 2, 5, 8, 9, 12, 13, 47, 48, 49, 84, 85] (aI @lit_add oT) oT) ?_
       refine nmZ ?_
       refine ⟨_, _, id, ?_,
        leQ5
        , ⟨p + 1, by omega, rfl, rfl⟩⟩
       omega
      ·obtain rfl : K = p := by omega
       rw [mE]
       refine AX.sR (rgAV [1, 2, 5, 8, 9, 12, 13, 47, 48, 49, 84, 85, 86]) ?_
       refine AX.seq ?_
       refine AX.condF ?_
       refine AX.exit ?_
       refine nmZ ?_
       refine AX.rR (rgWV [1, 2, 5, 8, 9, 47, 48, 49] (aI @lit_add oT) oT) ?_
       refine nmZ ?_
       refine ⟨_, _, id, ?_,
        leQ5
        , ⟨i + 1, _, by omega, hov', rfl, rfl⟩⟩
       omega
  ·obtain rfl : i = cl := by omega
   refine AX.sR (rgAV [1, 2, 5, 8, 9, 47, 48, 49, 50]) ?_
   refine AX.seq ?_
   refine AX.condF ?_
   refine AX.exit ?_
   refine nmZ ?_
   refine ⟨by first | exact trivial | rfl, i, y, by omega, hy,
    leQ5
    ⟩
 ·rintro st ⟨t, y, ht8, hy, hle⟩
  refine AX.weaken id hle ?_
  clear hle
  have hgy : ∀ i j, i < n → j < m → rL (y i j) ≤ 4900080 := fun i' j' hi' hj' => by
   have h1 := hy.len i' j' hi' hj'
   have h2 : t * 600010 ≤ 8 * 600010 := Nat.mul_le_mul_right _ ht8
   omega
  have cM := hcM y hgy
  have cA := hcA y hgy
  have cS := hcS y hgy
  have eS : mcells m (addM (mulM n A y) B) K = mcells m y K := by
   rw [← hK]
   exact mcells_congr fun a b ha hb => (hy.eq a b ha hb).symm
  rw [eS] at cA
  have q1 := qlen m n y
  have q2 : True := trivial
  have ck := chunks_q (mcells m y K)
  rw [mcells_length] at ck
  rw [hK] at q1
  have tk : List.take (K * 3) (qrow (mcells m y K)) = qrow (mcells m y K) := by rw [← q1]; exact List.take_length
  have csg : ∀ p, p < K → PCall Tryz.prog 31 [.agg [.b (decide ((eachM n m A B (p / m) (p % m)).num < 0)), dg (digits (eachM n m A B (p / m) (p % m)).num.natAbs), dg (digits (eachM n m A B (p / m) (p % m)).den)]] (.i .i64 (sgnR (eachM n m A B (p / m) (p % m)))) [] := fun p hp => psign_ok (IsQ.of (hX _ _ (hpi p hp).1 (hpi p hp).2.1)) (by decide)
  have ccm : ∀ p, p < K → PCall Tryz.prog 38 [.agg [.b (decide ((eachM n m A B (p / m) (p % m)).num < 0)), dg (digits (eachM n m A B (p / m) (p % m)).num.natAbs), dg (digits (eachM n m A B (p / m) (p % m)).den)], .agg [.b (decide ((y (p / m) (p % m)).num < 0)), dg (digits (y (p / m) (p % m)).num.natAbs), dg (digits (y (p / m) (p % m)).den)]] (.i .i64 (cmpR (eachM n m A B (p / m) (p % m)) (y (p / m) (p % m)))) [] := fun p hp => pcmp_ok (L := 4900080) (IsQ.of (Nat.le_trans (hX _ _ (hpi p hp).1 (hpi p hp).2.1) (by decide))) (IsQ.of (hgy _ _ (hpi p hp).1 (hpi p hp).2.1)) (by decide) (by decide)
  have n1 : ∀ p, p < K → ¬ sgnR (eachM n m A B (p / m) (p % m)) < 0 := fun p hp => sgnR_ge (hX0 _ _ (hpi p hp).1 (hpi p hp).2.1)
  have n2 : ∀ p, p < K → ¬ 0 < cmpR (eachM n m A B (p / m) (p % m)) (y (p / m) (p % m)) := fun p hp => cmpR_not_gt (hy.le _ _ (hpi p hp).1 (hpi p hp).2.1)
  clear hcM hcA hcS hgy hy hov hX hX0 eS hnext cin cin2 cat hsl hcn hlg hlm hpi hm0 q2
  obtain ⟨My, hMy⟩ : ∃ v, (mcells m (mulM n A y) K).map rV = v := ⟨_, rfl⟩
  rw [hMy] at cM cA
  have hyl : (mcells m y K).length = K := mcells_length _ _ _
  have ixy := fun (p : Nat) (hp : p < n * m) => fun a b => effIxM (n := n) (w := m) (x := a) (y := b) y (hpi' p hp).1 (hpi' p hp).2.1 (hpi' p hp).2.2
  rw [hK] at ixy
  generalize mcells m y K = ys at *
  obtain ⟨Yc, hYc⟩ : ∃ v, ys.map rV = v := ⟨_, rfl⟩
  rw [hYc] at cM cA cS ck ixy
  have okf : okFrz 0 K 3 (qrow ys) = true := by rw [← hyl]; exact okFrz_q ys
  have ckf : chunks 3 K ((List.drop 0 (qrow ys)).take (K * 3)) = Yc := by rw [List.drop_zero, tk, ck]
  refine AX.fz 3 (fr' := [(9, .ptr 4 0), (5, .ptr 1 0), (2, .ptr 0 0)]) (hp' := [(4, ⟨32, [.i .i64 n, .i .i64 m, .sl Yc]⟩), (1, ⟨24, [.i .i64 n, .i .i64 m, .sl Xc]⟩), (0, ⟨26, [.i .i64 n, .i .i64 n, .sl Ac, .i .i64 n, .i .i64 m, .sl Bc]⟩)]) rfl (hf_q ys) (.cons rfl .same (.cons rfl .same (.cons rfl .same .nil))) (.cons (by decide) rfl rfl rfl (fun t ht => ?_) (.keep (by decide) rfl (.keep (by decide) rfl .nil))) ?_
  ·have : t = 0 ∨ t = 1 ∨ t = 2 := by simp at ht; omega
   rcases this with rfl | rfl | rfl
   ·exact .same
   ·exact .same
   ·exact .own okf ckf
  refine AX.sR (rgCV [2, 5, 9, 16] (aI cM oT)) ?_
  refine AX.sR (rgCV [5, 9, 18] (aI cA oT)) ?_
  refine AX.seq ?_
  refine AX.sR (rgCV [5, 9, 124] (aI cS oT)) ?_
  refine AX.condF ?_
  refine AX.keepA [5, 9] ?_
  refine AX.skip ?_
  refine nmZ ?_
  refine AX.seq ?_
  refine AX.sR (rgWV [5, 9, 127, 128] (aI @hXlen oT) oT) ?_
  refine AX.weaken id (st' := ⟨[(128, .i .i64 (0 : Nat)), (127, .i .i64 K), (9, .ptr 4 0), (5, .ptr 1 0)], [(4, ⟨32, [.i .i64 n, .i .i64 m, .sl Yc]⟩), (1, ⟨24, [.i .i64 n, .i .i64 m, .sl Xc]⟩)], 5⟩)
   leQ5
   ?_
  refine AX.block ?_
  refine AX.loop (fun N st => ∃ p : Nat, p ≤ K ∧ N = K - p ∧ st = ⟨[(128, .i .i64 p), (127, .i .i64 K), (9, .ptr 4 0), (5, .ptr 1 0)], [(4, ⟨32, [.i .i64 n, .i .i64 m, .sl Yc]⟩), (1, ⟨24, [.i .i64 n, .i .i64 m, .sl Xc]⟩)], 5⟩) K ⟨0, Nat.zero_le _, rfl, rfl⟩ ?_
  rintro N st ⟨p, hp, rfl, rfl⟩
  by_cases h3 : p < K
  ·have k1 := csg p h3
   have k2 := ccm p h3
   have k3 := n1 p h3
   have k4 := n2 p h3
   have k5 := hix p h3
   have k6 := ixy p h3
   clear csg ccm n1 n2 hix ixy
   generalize sgnR (eachM n m A B (p / m) (p % m)) = sg at *
   generalize cmpR (eachM n m A B (p / m) (p % m)) (y (p / m) (p % m)) = cg at *
   generalize eachM n m A B (p / m) (p % m) = w1 at *
   generalize y (p / m) (p % m) = w2 at *
   refine AX.sR (rgAV [5, 9, 127, 128, 129]) ?_
   refine AX.seq ?_
   refine AX.condT ?_
   refine AX.keepA [5, 9, 127, 128] ?_
   refine AX.skip ?_
   refine nmZ ?_
   refine AX.seq ?_
   refine AX.block ?_
   refine AX.sR (rgAV [5, 9, 20, 127, 128]) ?_
   refine AX.sD (rgDEV [5, 9, 127, 128, 151] (aI @k3 (aI @k4 oT)) (aI k1 (aI k2 oT)) (aI k5 (aI k6 oT))) ?_
   refine AX.condF ?_
   refine AX.keepA [5, 9, 127, 128] ?_
   refine AX.skip ?_
   refine nmZ ?_
   refine AX.rR (rgWV [5, 9, 127, 128] (aI @lit_add oT) oT) ?_
   refine nmZ ?_
   refine ⟨_, _, id, ?_,
    leQ5
    , ⟨p + 1, by omega, rfl, rfl⟩⟩
   omega
  ·obtain rfl : K = p := by omega
   refine AX.sR (rgAV [5, 9, 127, 128, 129]) ?_
   refine AX.seq ?_
   refine AX.condF ?_
   refine AX.exit ?_
   refine nmZ ?_
   refine AX.sR (rgCV [4] (aI cal oT)) ?_
   refine AX.ret ⟨.inl rfl, ?_⟩
   exact Done.one rfl rfl rfl rfl
theorem chainLeast_ok (R1 C1 R2 C2 : Int) (xs ys ts : List RT) (h1 : bd R1) (h2 : bd C1) (h3 : bd R2) (h4 : bd C2) (hx : okRT xs) (hy : okRT ys) (ht : okRT ts) (lx : xs.length < 2 ^ 62) (ly : ys.length < 2 ^ 62) (lt : ts.length < 2 ^ 62) :
  PCall Tryz.prog 5 [.agg [.i .i64 R1, .i .i64 C1, .sl (xs.map fR), .i .i64 R2, .i .i64 C2, .sl (ys.map fR)], .sl (ts.map fR)] (.b true) [] := by
 obtain ⟨c', S', cf, hf, s1, s2, s3⟩ := few_all R1 C1 R2 C2 xs ys [] h1 h2 h3 h4 hx hy (fun x h => nomatch h) lx ly (by decide)
 cases hf with
 | shape R1' C1' R2' C2' xs' ys' g1 g2 g3 g4 gx gy kx ky hno => exact least_not _ _ R1 C1 R2 C2 _ _ _ rfl R1' C1' R2' C2' _ _ cf (cright_not R1' C1' R2' C2' xs' ys' g1 g2 g3 g4 gx gy (by omega) (by omega) hno)
 | rows n m A B hn hm hA hB hC =>
  have c1 := cright_ok n m 3 hn hm A B hA hB (by decide) (by decide)
  rw [hC] at c1
  exact least_not _ _ R1 C1 R2 C2 _ _ _ rfl n n n m _ _ cf c1
 | ok n m A B hn hm hA hB hC => exact least_ok _ _ R1 C1 R2 C2 _ _ rfl n m A B hn hm hA hB hC ts ht lt cf
end Go.Proofs.YtepkjfnffbdcoaaGreat
