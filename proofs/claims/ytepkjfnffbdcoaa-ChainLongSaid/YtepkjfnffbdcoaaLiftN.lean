/- A nil slice in a row's cell taken for an empty row of its own; results of every kind. -/
import Derived.Test.YtepkjfnffbdcoaaLiftG
set_option linter.unusedVariables false
set_option linter.unusedSimpArgs false
namespace Go.Proofs.Ytepkjfnffbdcoaa.Lift
open Go

theorem AX.own0c {P : Program} {C : Ctx} {st : St} {Q : Exit → St → Prop} (n k : Nat) (T : TypeId) (E : Nat) {r : Row} {c : Code} (hr : lkp st.hp n = some r) (hk : r.cells.getD k .junk = .nl) (hlt : k < r.cells.length)
    (h : AX P C c ⟨st.fr, (st.nx, ⟨T, []⟩) :: setL st.hp n ⟨r.T, r.cells.set k (.own st.nx 0 0 E)⟩, st.nx + 1⟩ Q) : AX P C c st Q := by
  intro env a w hs
  have h1 := hs.newVirtual (n := st.nx) (Nat.lt_irrefl _) T
  have hn : n < st.nx := (hs.row n r hr).1
  have hD : (fun m => m < st.nx ∨ m = st.nx) = (· < st.nx + 1) := by
    funext m
    simp only [eq_iff_iff]
    omega
  rw [hD] at h1
  have hne : n ≠ st.nx := by omega
  have hrn : upd (lkp st.hp) st.nx (some ⟨T, []⟩) n = some r := by rw [upd_ne _ _ hne]; exact hr
  have hcomm : upd (upd (lkp st.hp) n (some ⟨r.T, r.cells.set k (.own st.nx 0 0 E)⟩)) st.nx (some ⟨T, []⟩) = upd (upd (lkp st.hp) st.nx (some ⟨T, []⟩)) n (some ⟨r.T, r.cells.set k (.own st.nx 0 0 E)⟩) := by
    funext m
    unfold upd
    by_cases e1 : m = n
    · subst e1; simp [hne]
    · simp [e1]
  refine h (upd env st.nx none) a w ?_
  show Sim C (upd env st.nx none) (lkp st.fr) (lkp ((st.nx, ⟨T, []⟩) :: setL st.hp n ⟨r.T, r.cells.set k (.own st.nx 0 0 E)⟩)) (· < st.nx + 1) a w
  rw [lkp_cons, lkp_set, hcomm]
  have hiff : ∀ m, (upd (upd (lkp st.hp) st.nx (some ⟨T, []⟩)) n (some ⟨r.T, r.cells.set k (.own st.nx 0 0 E)⟩) m).isSome = true ↔ (upd (lkp st.hp) st.nx (some ⟨T, []⟩) m).isSome = true := by
    intro m
    by_cases e : m = n
    · subst e; rw [upd_same, hrn]; simp
    · rw [upd_ne _ _ e]
  have hFd : ∀ b, Fd C (upd env st.nx none) (upd (upd (lkp st.hp) st.nx (some ⟨T, []⟩)) n (some ⟨r.T, r.cells.set k (.own st.nx 0 0 E)⟩)) b → Fd C (upd env st.nx none) (upd (lkp st.hp) st.nx (some ⟨T, []⟩)) b := by
    rintro b (ho | ⟨m, hm, he⟩)
    · exact .inl ho
    · exact .inr ⟨m, (hiff m).1 hm, he⟩
  refine ⟨h1.sz, h1.df, fun t v hv => ⟨(h1.tm t v hv).1, (h1.tm t v hv).2.sub hFd⟩, ?_, fun m b hm he => h1.old m b ((hiff m).1 hm) he, fun m m' b hm hm' e e' => h1.inj m m' b ((hiff m).1 hm) ((hiff m').1 hm') e e', h1.st, h1.ob, h1.gv⟩
  intro m q hq
  by_cases e : m = n
  · subst e
    rw [upd_same] at hq
    cases hq
    obtain ⟨g1, g2⟩ := h1.row m r hrn
    refine ⟨g1, ?_⟩
    rcases g2 with ⟨blk, c, e1, e2, e3, e4⟩ | ⟨e1, e2⟩
    · refine .inl ⟨blk, c, e1, e2, by simpa using e3, fun j hj => ?_⟩
      have hj' : j < r.cells.length := by simpa using hj
      have h4 := e4 j hj'
      by_cases ej : j = k
      · subst ej
        rw [hk] at h4
        have e5 : (r.cells.set j (.own st.nx 0 0 E)).getD j .junk = .own st.nx 0 0 E := by simp [List.getD_eq_getElem?_getD, hlt]
        show Rep _ _ _ _ _ ((r.cells.set j (.own st.nx 0 0 E)).getD j .junk)
        rw [e5]
        generalize c.getD j undef = X at h4 ⊢
        cases h4 with
        | nl => exact .own0 (Nat.lt_succ_self _)
      · have e5 : (r.cells.set k (.own st.nx 0 0 E)).getD j .junk = r.cells.getD j .junk := by
          simp only [List.getD_eq_getElem?_getD]
          rw [List.getElem?_set_ne (fun h => ej h.symm)]
        show Rep _ _ _ _ _ ((r.cells.set k (.own st.nx 0 0 E)).getD j .junk)
        rw [e5]
        exact h4.sub hFd
    · rw [e2] at hlt
      exact absurd hlt (Nat.not_lt_zero _)
  · rw [upd_ne _ _ e] at hq
    obtain ⟨g1, g2⟩ := h1.row m q hq
    exact ⟨g1, g2.sub hFd⟩

end Go.Proofs.Ytepkjfnffbdcoaa.Lift
