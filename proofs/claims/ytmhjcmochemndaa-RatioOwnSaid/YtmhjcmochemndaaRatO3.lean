/- The sum of one fraction, its digits the caller's own. -/
import Derived.Test.YtmhjcmochemndaaRatO2
import Derived.Test.YtmhjcmochemndaaGS
set_option linter.unusedVariables false
set_option linter.unusedSimpArgs false
namespace Go.Proofs.Ytmhjcmochemndaa
open Go Go.Proofs.Ytmhjcmochemndaa.Lift
attribute [local irreducible] Lift.PCall Lift.HCall
set_option maxRecDepth 20000 in
set_option maxHeartbeats 4000000 in
theorem sum1_qo (s : Bool) (a b : List Nat) (ha : Dg a) (hb : Dg b) (hla : a.length < 2 ^ 32) (hlb : b.length < 2 ^ 32) : QO 44 [.sl [rR s a b]] := by
 have c1 : PCall Try.prog 22 [] (rR (decide ((0 : Rat).num < 0)) (digits (0 : Rat).num.natAbs) (digits (0 : Rat).den)) [] := zero_ok
 obtain ⟨z, r1, r2, n1, n2, h1, h2, h3, h4, cA⟩ := add_qo (decide ((0 : Rat).num < 0)) (digits (0 : Rat).num.natAbs) (digits (0 : Rat).den) (Dg_digits _) (Dg_digits _) (by decide +kernel) (by decide +kernel) s a b ha hb (by omega) (by omega)
 refine ⟨z, r1, r2, n1, n2, h1, h2, h3, h4, ?_⟩
 generalize decide ((0 : Rat).num < 0) = z0 at *
 generalize digits (0 : Rat).num.natAbs = za at *
 generalize digits (0 : Rat).den = zb at *
 have hix := fun x y => effIxR (x := x) (y := y) (els := [rR s a b]) (j := 0) (s := s) (a := a) (b := b) (Nat.zero_lt_succ 0) rfl
 have hl : [rR s a b].length = 1 := rfl
 refine PCall.of_ax Try.call44 Try.func44 rfl (by simp [Try.ntmps44]) fun O w => ?_
 simp only [Try.ntmps44, Try.results44, argFr]
 obtain ⟨E, hE⟩ : ∃ E, [rR s a b] = E := ⟨_, rfl⟩
 rw [hE] at hix hl ⊢
 refine AX.sR (rgAV [0, 2]) ?_
 refine AX.sR (rgCV [0, 2, 3] (aI c1 oT)) ?_
 refine AX.seq ?_
 refine AX.sR (rgWV [7, 2, 3, 8, 9] (aI @hl oT) oT) ?_
 refine AX.weaken id (st' := ⟨[(9, .i .i64 (0 : Nat)), (8, .i .i64 (1 : Nat)), (7, .sl E), (3, .ptr 1 0), (2, .ptr 0 0)], [(1, ⟨25, [.b z0, dg za, dg zb]⟩), (0, ⟨25, [.b false, .nl, .nl]⟩)], 2⟩)
  leQ0
  ?_
 refine AX.block ?_
 refine AX.loop (fun N st => (N = 1 ∧ st = ⟨[(9, .i .i64 (0 : Nat)), (8, .i .i64 (1 : Nat)), (7, .sl E), (3, .ptr 1 0), (2, .ptr 0 0)], [(1, ⟨25, [.b z0, dg za, dg zb]⟩), (0, ⟨25, [.b false, .nl, .nl]⟩)], 2⟩) ∨ (N = 0 ∧ st = ⟨[(9, .i .i64 (1 : Nat)), (8, .i .i64 (1 : Nat)), (7, .sl E), (3, .ptr 1 0), (2, .ptr 0 0)], [(4, ⟨49, r2.map u⟩), (3, ⟨49, r1.map u⟩), (1, ⟨25, [.b z, .own 3 0 n1 1, .own 4 0 n2 1]⟩), (0, ⟨25, [.b false, .nl, .nl]⟩)], 5⟩)) 1 (.inl ⟨rfl, rfl⟩) ?_
 rintro N st (⟨rfl, rfl⟩ | ⟨rfl, rfl⟩)
 ·refine AX.sR (rgAV [2, 3, 7, 8, 9, 10]) ?_
  refine AX.seq ?_
  refine AX.condT ?_
  refine AX.keepA [2, 3, 7, 8, 9] ?_
  refine AX.skip ?_
  refine nmZ ?_
  refine AX.seq ?_
  refine AX.block ?_
  refine AX.sR (rgEV [2, 3, 5, 7, 8, 9] oT oT (aI hix oT)) ?_
  refine AX.rR (rgCV [2, 3, 7, 8, 9] (aI cA oT)) ?_
  refine nmZ ?_
  refine AX.rR (rgWV [2, 3, 7, 8, 9] (aI @lit_add oT) oT) ?_
  refine nmZ ?_
  refine ⟨0, _, id, by omega,
   leQ0
   , .inr ⟨rfl, rfl⟩⟩
 ·refine AX.sR (rgAV [2, 3, 7, 8, 9, 10]) ?_
  refine AX.seq ?_
  refine AX.condF ?_
  refine AX.keepA [2, 3] ?_
  refine AX.exit ?_
  refine nmZ ?_
  refine AX.sR (rgAV [2]) ?_
  refine AX.ret ⟨.inl rfl, ?_⟩
  exact Done.cellQ rfl rfl rfl rfl (by decide)
end Go.Proofs.Ytmhjcmochemndaa
