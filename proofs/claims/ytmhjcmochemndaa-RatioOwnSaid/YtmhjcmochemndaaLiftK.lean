/- Calls that give two rows away, in drawn regions. -/
import Derived.Test.YtmhjcmochemndaaGB
set_option linter.unusedVariables false
set_option linter.unusedSimpArgs false
namespace Go.Proofs.Ytmhjcmochemndaa.Lift
open Go
theorem TrOk.callOwn2 {P : Program} {ops : Array Oper} {i : Nat} {o : Oper} (hi : ops[i]? = some o) {N : Nat} {st st1 : St} {f : FuncId} {caps args : List V} {r : V} {q p : Row} (h0 : isCall o.op = true) (h1 : guardP st.fr (match o.guard with
  | none => none
  | some (j, w) => some (gslot ops j, w)) = some true) (h2 : valsOf st.fr (opsOf o.op) = some (.fn f caps :: args)) (h3 : V.hfL (args ++ caps) = true) (h4 : PCall P f (cnlL (args ++ caps)) r [q, p]) (h5 : putSt N o.dst (r.ren (st.nx + ·)) st.fr ((st.nx, q.ren (st.nx + ·)) :: (st.nx + 1, p.ren (st.nx + ·)) :: st.hp) (st.nx + 2) = some st1) :
  TrOk P ops N i ⟨o.dst, slotsOf (opsOf o.op) ++ gSlot (match o.guard with
  | none => none
  | some (j, w) => some (gslot ops j, w)), r.ren (st.nx + ·), [], [(st.nx + 1, some (p.ren (st.nx + ·))), (st.nx, some (q.ren (st.nx + ·)))], [st.nx, st.nx + 1]⟩ (lkp st.fr) (lkp st.hp) := by
 intro C env fr hpf D a w hN hs hfr hhp hnn hex K Q hk
 subst hN
 unfold wpOp
 simp only [hi]
 rw [if_pos (guard_sim hs h1 (fun t ht => hfr t (List.mem_append.2 (.inr ht))))]
 refine .inl ?_
 obtain ⟨hl, hr⟩ := valsOf_sim hs h2 (fun t ht => hfr t (List.mem_append.2 (.inl ht)))
 rw [opsOf_eq] at hl hr
 have hdst := (putSt_dst h5).1
 obtain ⟨hcf, hcalls⟩ := h4
 cases hop : o.op with
 | call c =>
  rw [hop] at h0 hl hr
  simp only [isCall] at h0
  split at h0
  ·rename_i g hcal
   have hops : (Op.call c).operands.toList = g :: c.args.toList := by simp [Op.operands, Call.operands, hcal]
   rw [hops] at hl hr
   have hg0 : Rep _ w env _ (a.eval g) (.fn f caps) := hr 0 (by simp)
   generalize hgv : a.eval g = gv at hg0
   cases hg0 with
   | fn hsz hcr =>
    rename_i xcaps
    have hrun : (execOp a.eval o).run P w = .ok (.enter f (c.args.map a.eval ++ xcaps)) w := by
     unfold execOp
     rw [hop]
     simp only [Sem.run_bind]
     have h1 : (resolve a.eval c o.type).run P w = .ok { target := .fn (.func f) xcaps, args := c.args.map a.eval } w := by
      unfold resolve
      simp only [hcal, hgv, Deferred.ofValue, Array.empty_append]
      rfl
     rw [h1]
     simp only [Result.andThen_ok, invoke]
     exact hcf _ _
    unfold Oper.wp
    rw [hrun, Oper.upon_enter]
    have hlen : args.length = c.args.size := by simpa using hl
    have hrep0 : ∀ k, k < (args ++ caps).length → Rep (Fd C env hpf) w env D ((c.args.map a.eval ++ xcaps).getD k undef) ((args ++ caps).getD k .junk) := by
     intro k hk
     by_cases hka : k < args.length
     ·have h1 := hr (k + 1) (by simp; omega)
      simp only [List.getD_cons_succ] at h1
      have e1 : (c.args.map a.eval ++ xcaps).getD k undef = a.eval (c.args.toList.getD k (.const undef)) := by
       rw [Array.getD_eq_getD_getElem?, Array.getElem?_append_left (by simp; omega)]
       simp [List.getD_eq_getElem?_getD, show k < c.args.size by omega]
      have e2 : (args ++ caps).getD k .junk = args.getD k .junk := by
       rw [List.getD_eq_getElem?_getD, List.getElem?_append_left hka, ← List.getD_eq_getElem?_getD]
      rw [e1, e2]
      exact h1
     ·have e1 : (c.args.map a.eval ++ xcaps).getD k undef = xcaps.getD (k - args.length) undef := by
       rw [Array.getD_eq_getD_getElem?, Array.getElem?_append_right (by simp; omega), Array.getD_eq_getD_getElem?]
       simp [hlen]
      have e2 : (args ++ caps).getD k .junk = caps.getD (k - args.length) .junk := by
       rw [List.getD_eq_getElem?_getD, List.getElem?_append_right (by omega), ← List.getD_eq_getElem?_getD]
      rw [e1, e2]
      exact hcr _ (by simp at hk; omega)
    refine (hcalls (Fd C env hpf) w (c.args.map a.eval ++ xcaps) (fun b hb => hs.fd_lt hb) (by rw [cnlL_length]; simp [hlen, hsz]) (fun k hk => ?_)).mono ?_
    ·rw [cnlL_length] at hk
     rw [cnlL_getD]
     exact ((hrep0 k hk).hf (hfL_getD h3 k)).cnl
    ·rintro e w' ⟨x, rfl, hcame⟩
     show K (a.put o.dst x) w'
     obtain ⟨env', hs1, hx⟩ := hs.join hcame (n := st.nx) (fun j hj => by
      have hj2 : j < 2 := by simpa using hj
      have : j = 0 ∨ j = 1 := by omega
      rcases this with rfl | rfl
      ·exact hnn st.nx (by simp)
      ·exact hnn (st.nx + 1) (by simp))
     have e2 : (fun m => D m ∨ (st.nx ≤ m ∧ m < st.nx + [q, p].length)) = fun m => D m ∨ m ∈ [st.nx, st.nx + 1] := by
      funext m
      simp only [List.length_cons, List.length_nil, List.mem_cons, List.not_mem_nil, or_false, eq_iff_iff]
      constructor
      ·rintro (h | h)
       ·exact .inl h
       ·exact .inr (by omega)
      ·rintro (h | h)
       ·exact .inl h
       ·exact .inr (by omega)
     have e3 : (fun m => if st.nx ≤ m ∧ m < st.nx + [q, p].length then ([q, p][m - st.nx]?).map (Row.ren (st.nx + ·)) else hpf m) = wrt hpf [(st.nx + 1, some (p.ren (st.nx + ·))), (st.nx, some (q.ren (st.nx + ·)))] := by
      funext m
      simp only [List.length_cons, List.length_nil, wrt]
      by_cases e : m = st.nx
      ·subst e
       rw [if_pos (by omega), Nat.sub_self, if_pos rfl]
       rfl
      ·by_cases e1 : m = st.nx + 1
       ·subst e1
        rw [if_pos (by omega), if_neg e, if_pos rfl, show st.nx + 1 - st.nx = 1 by omega]
        rfl
       ·rw [if_neg (by omega), if_neg e, if_neg e1]
     rw [e2, e3] at hs1 hx
     exact hk env' _ w' (put_sim (T := ⟨o.dst, slotsOf (opsOf o.op) ++ gSlot (match o.guard with
      | none => none
      | some (j, w) => some (gslot ops j, w)), r.ren (st.nx + ·), [], [(st.nx + 1, some (p.ren (st.nx + ·))), (st.nx, some (q.ren (st.nx + ·)))], [st.nx, st.nx + 1]⟩) hs1 hdst hx)
  ·cases h0
 | _ => rw [hop] at h0; simp [isCall] at h0
theorem cons_wrt2 (hp : List (Nat × Row)) (n m : Nat) (q p : Row) : lkp ((n, q) :: (m, p) :: hp) = wrt (lkp hp) [(m, some p), (n, some q)] := by
 funext k
 rw [lkp_cons, lkp_cons]
 rfl
theorem RunD.callOwn2 {P : Program} {N : Nat} {o : PO} {l : List PO} {Ts : List Tr} {st st1 st2 : St} {f : FuncId} {caps args : List V} {r v : V} {q q' p p' : Row} {T : Tr} (h0 : isCall o.op = true) (h1 : guardP st.fr o.g = some true) (h2 : valsOf st.fr (opsOf o.op) = some (.fn f caps :: args)) (h3 : V.hfL (args ++ caps) = true) (h4 : PCall P f (cnlL (args ++ caps)) r [q, p])
  (hv : r.ren (st.nx + ·) = v) (hq : q.ren (st.nx + ·) = q') (hp : p.ren (st.nx + ·) = p') (h5 : putSt N o.dst v st.fr ((st.nx, q') :: (st.nx + 1, p') :: st.hp) (st.nx + 2) = some st1) (hT : T = ⟨o.dst, slotsOf (opsOf o.op) ++ gSlot o.g, v, [], [(st.nx + 1, some p'), (st.nx, some q')], [st.nx, st.nx + 1]⟩) (hk : RunD P N l st1 Ts st2) : RunD P N (o :: l) st (T :: Ts) st2 := by
 subst hT hv hq hp
 obtain ⟨hd, hfw, hph, _⟩ := putSt_dst h5
 refine .tr ?_ ?_ ?_ hk
 ·intro ops i o' hi he
  subst he
  exact TrOk.callOwn2 hi h0 h1 h2 h3 h4 h5
 ·exact hfw
 ·rw [hph]
  exact cons_wrt2 _ _ _ _ _
end Go.Proofs.Ytmhjcmochemndaa.Lift
