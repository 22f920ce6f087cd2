/- From the contract of a law to what a row asks of its walk. -/
import Derived.Test.YtlhobedecoeohaaGF
import Derived.Below
import Derived.ProofKit
import Derived.OpenShut
import Derived.SizedLaws
import Derived.Deep.Slices
import Derived.Deep.Strs
import Derived.DataReads
import Derived.ChangeArms
import Derived.WideShapes
import Derived.KernelRfl
set_option linter.unusedVariables false
set_option linter.unusedSimpArgs false
namespace Go.Proofs.Ytlhobedecoeohaa
open Go Go.RowKit Go.Proofs.Ytlhobedecoeohaa.Lift
theorem gate {f : FuncId} {args : List V} {xs : Array Value} {w : World} (h : PCall Try.prog f args (.b true) []) (hsz : xs.size = args.length) (hr : ∀ k, k < args.length → Rep (fun _ => False) w (fun _ => none) (fun _ => False) (xs.getD k undef) (args.getD k .junk)) :
  Calls Try.prog f xs w fun e w' => e = .returned (.bool true) ∧ Below w.heap.size w w' := by
 unfold PCall at h
 refine (h.2 (fun _ => False) w xs (fun b hb => hb.elim) hsz hr).mono ?_
 rintro e w' ⟨x, rfl, hst, env, _, _, _, hx⟩
 refine ⟨by rw [hx.b_inv], hst.os, hst.tape, hst.output, hst.size, fun k hk => hst.keep k hk (fun f => f)⟩
theorem rep_row {w : World} {a : Option Addr} {len cap : Nat} {zs : List Int} (h : (a = none ∧ len = 0 ∧ cap = 0 ∧ zs = []) ∨
  ∃ x, a = some x ∧ len ≤ cap ∧ len < 2 ^ 62 ∧ zs.length = cap ∧ (∀ i, i < zs.length → w.cell? (x.add i) = some (.int .u32 (zs.getD i 0))) ∧ ∀ n ∈ zs, (Lit.int .u32 n).wf = true) :
  ∃ l : List Nat, Dg l ∧ l.length < 2 ^ 62 ∧ Rep (fun _ => False) w (fun _ => none) (fun _ => False) (.slice a len cap) (dg l) := by
 rcases h with ⟨rfl, rfl, rfl, rfl⟩ | ⟨x, rfl, hl, hm, hz, hc, hwf⟩
 ·exact ⟨[], Dg_nil, by decide, .sl0⟩
 ·by_cases h0 : len = 0
  ·subst h0
   exact ⟨[], Dg_nil, by decide, .sl0⟩
  have hx : x = ⟨x.block, x.off, none⟩ := by
   have := hc 0 (by omega)
   unfold World.cell? at this
   simp only [Addr.add] at this
   obtain ⟨b, o, sp⟩ := x
   simp only at this
   cases sp with
   | none => rfl
   | some s =>
    split at this
    ·simp at this
    ·cases this
  have hb : ∀ n ∈ zs, 0 ≤ n ∧ n < 4294967296 := by
   intro n hn
   have := bounds_u32 (hwf n hn)
   omega
  have hg : ∀ i, i < zs.length → 0 ≤ zs.getD i 0 ∧ zs.getD i 0 < 4294967296 := by
   intro i hi
   rw [List.getD_eq_getElem?_getD, List.getElem?_eq_getElem hi]
   exact hb _ (List.getElem_mem hi)
  let l : List Nat := (zs.take len).map Int.toNat
  have hll : l.length = len := by simp [l]; omega
  have hlg : ∀ i, i < len → l.getD i 0 = (zs.getD i 0).toNat := by
   intro i hi
   simp [l, List.getD_eq_getElem?_getD, List.getElem?_take, hi, show i < zs.length by omega]
  refine ⟨l, ?_, by omega, ?_⟩
  ·intro y hy
   obtain ⟨n, hn, rfl⟩ := List.mem_map.1 hy
   have := hb n (List.mem_of_mem_take hn)
   omega
  ·rw [hx]
   have hlm : (l.map u).length = len := by simp [hll]
   have hne : l.map u ≠ [] := by
    intro e
    rw [e] at hlm
    exact h0 hlm.symm
   have hsome := hc 0 (by omega)
   have key := Rep.sl (F := fun _ => False) (w := w) (env := fun _ => none) (D := fun _ => False) (blk := x.block) (off := x.off) (cap := cap) (E := 1) (els := l.map u) (fun k => .int .u32 (zs.getD k 0)) hne (by omega) (by omega) (fun f => f) ?_ ?_ ?_ ?_
   ·rw [hlm] at key
    exact key
   ·unfold World.cell? at hsome
    split at hsome
    ·rename_i c _ _ hh
     exact lt_of_heap hh
    ·cases hsome
   ·intro e he
    obtain ⟨n, _, rfl⟩ := List.mem_map.1 he
    rfl
   ·intro k hk
    have := hc k (by omega)
    rw [hx] at this
    rw [← this, add_eq]
   ·intro j k hj hk
    obtain rfl : k = 0 := by omega
    have e1 : (l.map u).getD j .junk = V.i .u32 ((l.getD j 0 : Nat) : Int) := getD_u l j (by omega)
    rw [e1, hlg j (by omega)]
    have h3 := hg j (by omega)
    have e2 : (((zs.getD j 0).toNat : Nat) : Int) = zs.getD j 0 := by omega
    rw [e2]
    show Rep _ _ _ _ (Value.int .u32 (zs.getD (j * 1 + 0) 0)) (V.i .u32 (zs.getD j 0))
    rw [Nat.mul_one, Nat.add_zero]
    refine .i ⟨?_, ?_⟩
    ·show (0 : Int) ≤ _
     exact h3.1
    ·show _ ≤ (4294967295 : Int)
     omega
end Go.Proofs.Ytlhobedecoeohaa
/- Arguments of every kind as abstract values. -/
set_option linter.unusedVariables false
set_option linter.unusedSimpArgs false
namespace Go.Proofs.Ytlhobedecoeohaa
open Go Go.RowKit Go.Proofs.Ytlhobedecoeohaa.Lift
abbrev Rep0 (W : World) (x : Value) (v : V) : Prop := Rep (fun _ => False) W (fun _ => none) (fun _ => False) x v
def Opens (P : Program) (t : TypeId) (Q : List V → Prop) : Prop :=
 ∀ (H : Type) (enc : TypeId × Value → H) (W : World) (n : Nat) (cs : List Value) (d : DataW H) (p : List MemPlace), DataW.trod enc P W 0 (fun _ => true) true n t cs = some (d, p) → (d.weights P t).all (· ≤ reachBytes) = true →
  cs.length = P.cellsOf t ∧ ∃ vs : List V, vs.length = cs.length ∧ Q vs ∧ ∀ k, k < cs.length → Rep0 W (cs.getD k undef) (vs.getD k .junk)
theorem Opens.mono {P : Program} {t : TypeId} {Q Q' : List V → Prop} (h : Opens P t Q) (hq : ∀ vs, Q vs → Q' vs) : Opens P t Q' := by
 intro H enc W n cs d p hf hw
 obtain ⟨h1, vs, h2, h3, h4⟩ := h H enc W n cs d p hf hw
 exact ⟨h1, vs, h2, hq vs h3, h4⟩
end Go.Proofs.Ytlhobedecoeohaa
/- Fractions as arguments. -/
set_option linter.unusedVariables false
set_option linter.unusedSimpArgs false
namespace Go.Proofs.Ytlhobedecoeohaa
open Go Go.RowKit Go.Proofs.Ytlhobedecoeohaa.Lift
end Go.Proofs.Ytlhobedecoeohaa
