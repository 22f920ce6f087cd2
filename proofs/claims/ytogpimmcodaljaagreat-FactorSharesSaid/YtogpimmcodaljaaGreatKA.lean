/- Factors: the reference's Restrict; Total; what is alive. -/
import Derived.Test.YtogpimmcodaljaaGreatFaG2
set_option linter.unusedVariables false
set_option maxRecDepth 20000
set_option linter.unusedSimpArgs false
namespace Go.Proofs.YtogpimmcodaljaaGreat
open Go Go.Proofs.YtogpimmcodaljaaGreat.Lift
attribute [local irreducible] Lift.PCall Lift.HCall
theorem woX_two {a : Nat} {f : Nat → Rat} : ∀ k, a < k → woX 2 (a : Int) f k = f a
 | 0, h => absurd h (Nat.not_lt_zero _)
 | k + 1, h => by
  show (if k = 0 ∨ 2 = 2 ∧ (k : Int) = (a : Int) then f k else if 2 = 0 then woX 2 (a : Int) f k + f k else if 2 = 1 ∧ woX 2 (a : Int) f k < f k then f k else woX 2 (a : Int) f k) = f a
  by_cases e : k = a
  ·rw [if_pos (.inr ⟨rfl, by omega⟩), e]
  ·rw [if_neg (by omega), if_neg (by decide), if_neg (fun h => absurd h.1 (by decide))]
   exact woX_two k (by omega)
theorem woQ_two {t : Nat → Nat} {q : Nat → Rat} {w a : Nat} (ha : a < t w) (n : Nat) : woQ t q w 2 (a : Int) n = q (enT t (updT (deT (updT t w 0) n) w a)) := woX_two _ ha
set_option maxHeartbeats 8000000 in
theorem frestrict26_ok (t : Nat → Nat) (q : Nat → Rat) (ht : okT t) (L : Nat) (hq : ∀ k, k < szT t → rL (q k) ≤ L) (hL : 64 * (L + 1) + 1 ≤ 2 ^ 29) (v : Nat) (hv : v < 64) (h0 : t v ≠ 0) (a : Nat) (ha : a < t v) :
  PCall Tryz.prog 11 [FV t q, .i .i64 v, .i .i64 a] (.tup [FV (updT t v 0) (woQ t q v 2 a), .i .i64 0]) [] := by
 have hm := vsT_len t
 have hk64 := ht.1 v
 have cr := fright26_ok (ci (vsT t)) (ci (asT t)) (xsT t q) (by rw [ci_length]; omega) (by rw [ci_length, asT_len]; omega) (by rw [xsT_length]; have := ht.2; omega) (xsT_okY fun k hk => by have := hq k hk; omega).x
 rw [isF_T ht q] at cr
 have ca := fun X => farms_ok t X ht.1 v (by omega)
 have etz : tz t v = t v := by
  unfold tz
  rw [if_pos ⟨by omega, by omega⟩, Int.toNat_natCast]
 rw [etz] at ca
 have cw := fwo_some t q ht L hq hL v hv h0 2 (by decide) a (by omega)
 have cw : PCall Tryz.prog 26 [FV t q, .i .i64 v, .i .i64 2, .i .i64 a] (.tup [FV (updT t v 0) (woQ t q v 2 a), .i .i64 0]) [] := cw
 unfold FV fV at *
 generalize zl (ci (vsT t)) = Vs at *
 generalize zl (ci (asT t)) = As at *
 generalize (xsT t q).map fR = X at *
 generalize zl (ci (vsT (updT t v 0))) = V1 at *
 generalize zl (ci (asT (updT t v 0))) = A1 at *
 generalize (xsT (updT t v 0) (woQ t q v 2 a)).map fR = X1 at *
 have ca := ca X
 generalize t v = k at *
 refine PCall.of_ax Tryz.call11 Tryz.func11 rfl (by simp [Tryz.ntmps11]) fun O w0 => ?_
 simp only [Tryz.ntmps11, Tryz.results11, argFr]
 refine AX.sR (rgAV [1, 2, 3, 6]) ?_
 refine AX.seq ?_
 refine AX.sR (rgCV [1, 2, 3, 6, 11] (aI cr oT)) ?_
 refine AX.condF ?_
 refine AX.keepA [1, 2, 3, 6] ?_
 refine AX.skip ?_
 refine nmZ ?_
 refine AX.seq ?_
 refine AX.sR (rgCV [1, 2, 3, 6, 8] (aI ca oT)) ?_
 refine AX.sR (rgAV [1, 2, 3, 6, 26]) ?_
 refine AX.condF ?_
 refine AX.keepA [1, 2, 3, 6] ?_
 refine AX.skip ?_
 refine nmZ ?_
 refine AX.sR (rgCV [6, 7] (aI cw oT)) ?_
 refine AX.ret ⟨.inl rfl, ?_⟩
 exact dnQ3
end Go.Proofs.YtogpimmcodaljaaGreat
/- Factors: few, in plain words: the last variable is restricted until 64 cells are left. -/
set_option linter.unusedVariables false
set_option linter.unusedSimpArgs false
namespace Go.Proofs.YtogpimmcodaljaaGreat
open Go Go.Proofs.YtogpimmcodaljaaGreat.Lift
attribute [local irreducible] Lift.PCall Lift.HCall
def lastT (t : Nat → Nat) : Nat := (vsT t).getD ((vsT t).length - 1) 0
theorem vsT_pos {t : Nat → Nat} (h : 1 < szT t) : 0 < (vsT t).length := by
 refine Nat.pos_of_ne_zero fun e => ?_
 unfold szT at h
 rw [e] at h
 exact Nat.lt_irrefl 1 h
theorem lastT_ok {t : Nat → Nat} (h : 1 < szT t) : lastT t < 64 ∧ t (lastT t) ≠ 0 := vsT_get (by have := vsT_pos h; omega)
theorem vsT_del_len {t : Nat → Nat} {v : Nat} (hv : v < 64) (h0 : t v ≠ 0) : (vsT (updT t v 0)).length < (vsT t).length := by
 have e : vsT (updT t v 0) = (vsT t).filter fun u => decide (u ≠ v) := by
  unfold vsT
  rw [List.filter_filter]
  refine List.filter_congr fun u hu => ?_
  by_cases h : u = v
  ·rw [h, updT_same]; simp
  ·rw [updT_ne _ _ h]; simp [h]
 rw [e]
 exact List.length_filter_lt_length_iff_exists.2 ⟨v, vsT_mem.2 ⟨hv, h0⟩, by simp⟩
inductive Fw : (Nat → Nat) → (Nat → Rat) → (Nat → Nat) → (Nat → Rat) → Prop
 | stop {t : Nat → Nat} {q : Nat → Rat} : ¬ 64 < szT t → Fw t q t q
 | step {t : Nat → Nat} {q : Nat → Rat} {t' : Nat → Nat} {q' : Nat → Rat} : 64 < szT t → Fw (updT t (lastT t) 0) (woQ t q (lastT t) 2 ((0 : Nat) : Int)) t' q' → Fw t q t' q'
theorem Fw.inv {t : Nat → Nat} {q : Nat → Rat} {t' : Nat → Nat} {q' : Nat → Rat} (h : Fw t q t' q') : (¬ 64 < szT t ∧ t' = t ∧ q' = q) ∨ (64 < szT t ∧ Fw (updT t (lastT t) 0) (woQ t q (lastT t) 2 ((0 : Nat) : Int)) t' q') := by
 cases h with
 | stop h => exact .inl ⟨h, rfl, rfl⟩
 | step h g => exact .inr ⟨h, g⟩
theorem fw_q {t : Nat → Nat} {q : Nat → Rat} {L : Nat} (ht : okT t) (hq : ∀ k, k < szT t → rL (q k) ≤ L) {v : Nat} (h0 : t v ≠ 0) : ∀ k, rL (woQ t q v 2 ((0 : Nat) : Int) k) ≤ L := fun k => by
 rw [woQ_two (by omega)]
 exact hq _ (enT_lt (inT_upd (by omega)))
theorem Fw.ex {L : Nat} : ∀ (n : Nat) (t : Nat → Nat) (q : Nat → Rat), (vsT t).length ≤ n → okT t → (∀ k, k < szT t → rL (q k) ≤ L) → ∃ t' q', Fw t q t' q' ∧ okT t' ∧ szT t' ≤ 64 ∧ ∀ k, k < szT t' → rL (q' k) ≤ L
 | n, t, q, hn, ht, hq => by
  by_cases h : 64 < szT t
  ·obtain ⟨h1, h2⟩ := lastT_ok (t := t) (by omega)
   have h3 := vsT_del_len h1 h2
   match n, hn with
   | 0, hn => omega
   | n + 1, hn =>
    obtain ⟨t', q', a, b⟩ := Fw.ex n (updT t (lastT t) 0) _ (by omega) (okT_del ht _) fun k _ => fw_q ht hq h2 k
    exact ⟨t', q', .step h a, b⟩
  ·exact ⟨t, q, .stop h, ht, by omega, hq⟩
end Go.Proofs.YtogpimmcodaljaaGreat
