/- trim, Add, Sub, Mul, whose results are the caller's own. -/
import Derived.Test.YtmhjcmochemndaaGM
import Derived.Test.YtmhjcmochemndaaGB
set_option linter.unusedVariables false
set_option linter.unusedSimpArgs false
namespace Go.Proofs.Ytmhjcmochemndaa
open Go Go.Proofs.Ytmhjcmochemndaa.Lift
attribute [local irreducible] Lift.PCall Lift.HCall
def padD : Nat → Nat → List Nat
 | 0, _ => []
 | k + 1, v => v % 4294967296 :: padD k (v / 4294967296)
theorem padD_of : ∀ {l : List Nat}, Dg l → l = padD l.length (val l)
 | [], _ => rfl
 | x :: l, h => by
  rw [Dg_cons] at h
  have ih := padD_of h.2
  show x :: l = (x + 4294967296 * val l) % 4294967296 :: padD l.length ((x + 4294967296 * val l) / 4294967296)
  rw [Nat.add_mul_mod_self_left, Nat.mod_eq_of_lt h.1, Nat.add_mul_div_left _ _ (by decide), Nat.div_eq_of_lt h.1, Nat.zero_add, ← ih]
theorem Lift.DoneG.own1 {P : Program} {st : St} {t : Tmp} {k : Nat} {l : List Nat} {T : TypeId} (h1 : lkp st.fr t = some (.own 0 0 k 1)) (h2 : lkp st.hp 0 = some ⟨T, l.map u⟩) : DoneG P #[.tmp t] (.own 0 0 k 1) [⟨T, l.map u⟩] st := by
 refine ⟨[.own 0 0 k 1], by simp [resVs, resV, h1], rfl, rfl, rfl, fun n hn => ?_⟩
 have h0 : n = 0 := by simp at hn; exact hn
 subst h0
 exact ⟨h2, ltL_u _ _, renL_u _ _⟩
theorem tr_len (l : List Nat) : (trim l).length = tr l l.length := by
 unfold trim
 rw [List.length_take]
 have := tr_le l l.length
 omega
theorem trim_g (l : List Nat) (hl : l.length < 2 ^ 40) : GCall Try.prog 80 [.own 0 0 l.length 1] [⟨49, l.map u⟩] [⟨49, l.map u⟩] (.own 0 0 (trim l).length 1) := by
 rw [tr_len]
 refine GCall.of_ax rfl Try.call80 Try.func80 rfl (by simp [Try.ntmps80]) fun O M w G => ?_
 simp only [Try.ntmps80, Try.results80, argFr, rowsFr, List.length_cons, List.length_nil, Nat.zero_add, Nat.reduceAdd]
 refine AX.sR (rgA [0]) ?_
 refine AX.sR (rgA [0, 3]) ?_
 refine AX.seq (AX.block ?_)
 refine AX.loop (fun n st => ∃ k : Nat, k ≤ l.length ∧ n = k ∧ tr l l.length = tr l k ∧ st = ⟨[(3, .i .i64 k), (0, .own 0 0 l.length 1)], [(0, ⟨49, l.map u⟩)], 1⟩) l.length ⟨l.length, Nat.le_refl _, rfl, rfl, rfl⟩ ?_
 rintro n st ⟨k, hk, rfl, htr, rfl⟩
 refine AX.seq ?_
 cases n with
 | zero =>
  refine AX.sR (rgA [0, 3, 15]) ?_
  refine AX.condF ?_
  refine AX.exit ?_
  simp only [zn3, zn8, zn6, if_true, zn1]
  refine AX.sR (rgA [2]) ?_
  refine AX.ret ⟨.inl rfl, ?_⟩
  rw [htr, tr]
  exact DoneG.own1 rfl rfl
 | succ k =>
  have hk1 : ((k + 1 : Nat) : Int) - 1 = k := by omega
  by_cases hz : l.getD k 0 = 0
  ·refine AX.sR (rgW [0, 3, 15] (aI @hk1 (aI @hz oT)) oT) ?_
   refine AX.condT ?_
   refine AX.skip ?_
   simp only [zn1]
   refine AX.block ?_
   refine AX.rR (rgW [0, 3] (aI @hk1 oT) oT) ?_
   simp only [zn4]
   refine ⟨k, _, id, Nat.lt_succ_self k,
    leA
    , ⟨k, by omega, rfl, by rw [htr, tr, if_pos hz], rfl⟩⟩
  ·refine AX.sR (rgW [0, 3, 15] (aI @hk1 oT) oT) ?_
   refine AX.condF ?_
   refine AX.exit ?_
   simp only [zn3, zn8, zn6, if_true, zn1]
   refine AX.sR (rgA [2]) ?_
   refine AX.ret ⟨.inl rfl, ?_⟩
   rw [htr, tr, if_neg hz]
   exact DoneG.own1 rfl rfl
end Go.Proofs.Ytmhjcmochemndaa
