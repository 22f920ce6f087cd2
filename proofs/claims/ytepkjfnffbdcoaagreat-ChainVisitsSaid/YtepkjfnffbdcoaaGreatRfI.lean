/- The reference's matrices: Add. -/
import Derived.Test.YtepkjfnffbdcoaaGreatHB
import Derived.Test.YtepkjfnffbdcoaaGreatHJ
set_option linter.unusedVariables false
set_option maxRecDepth 20000
set_option linter.unusedSimpArgs false
namespace Go.Proofs.YtepkjfnffbdcoaaGreat
open Go Go.Proofs.YtepkjfnffbdcoaaGreat.Lift
attribute [local irreducible] Lift.PCall Lift.HCall
theorem Lift.Done.matS {st : St} {t t' : Tmp} {h h2 : Nat} {T T' T2 : TypeId} {z : List V} {K : Nat} {xs : List Rat} {k1 k2 : IntKind} {n1 n2 e : Int} (hL : lay Tryz.prog T' = some ⟨3, true, 40, z⟩) (h1 : lkp st.fr t = some (.ptr h 0)) (g1 : lkp st.hp h = some ⟨T, [.i k1 n1, .i k2 n2, .own h2 0 K 3]⟩) (g2 : lkp st.hp h2 = some ⟨T2, qrow xs⟩) (g3 : lkp st.fr t' = some (.i .i64 e)) (hK : K = xs.length) :
  Done Tryz.prog #[.cell t T', .tmp t'] (.tup [.agg [.i k1 n1, .i k2 n2, .sl (xs.map rV)], .i .i64 e]) [] st := by
 subst hK
 refine Done.of (vs := [.agg [.i k1 n1, .i k2 n2, .own h2 0 xs.length 3], .i .i64 e]) (hp := dlt st.hp h2) ?_ ?_ rfl ?_ ?_
 ·simp only [resVs, resV, h1, g1, hL, g3]; rfl
 ·simp only [packV, frz, frzL, g2, List.not_mem_nil, if_false, take_q, flat_q, hf_q, qrow_length, Nat.zero_add, Nat.le_refl, and_self, if_true, chunks_q, Nat.zero_lt_succ, true_and]
 ·simp only [V.lt, V.ltL]; rfl
 ·simp only [V.ren, V.renL]
end Go.Proofs.YtepkjfnffbdcoaaGreat
