/- copy: onto a row of the call's own, from a list of the same length. -/
import Derived.Test.YtepkjfnffbdcoaaLiftN
set_option linter.unusedVariables false
set_option linter.unusedSimpArgs false
namespace Go.Proofs.Ytepkjfnffbdcoaa.Lift
open Go

/-- What copy does to a row. -/
def copyE (h off len E : Nat) (els : List V) : Eff := .wr h fun r => if off + len * E ≤ r.cells.length then some (⟨r.T, setR r.cells off (flatCells els)⟩, .i .i64 (len : Int)) else none

theorem run_copy_op {P : Program} {w w' : World} {a : Act} {t ty : TypeId} {x y : Operand} {z : Value} (h : (Builtin.copy_ #[t, t] ty #[a.eval x, a.eval y]).run P w = .ok z w') :
    (execOp a.eval ⟨none, .call ⟨.builtin .copy, #[x, y], #[t, t]⟩, ty, "", #[], none⟩).run P w = .ok (.value z) w' := by
  have : (execOp a.eval ⟨none, .call ⟨.builtin .copy, #[x, y], #[t, t]⟩, ty, "", #[], none⟩) = (do pure (Next.value (← Builtin.copy_ #[t, t] ty #[a.eval x, a.eval y])) : Sem Next) := by
    simp only [execOp, resolve, invoke, builtin, List.map_toArray, List.map_cons, List.map_nil]
    rfl
  rw [this]
  exact run_value h

theorem copy_some {P : Program} {w w' : World} {t ty e : TypeId} {i : TypeInfo} (ht : P.underlying t = some (.slice e)) (hi : P.info? e = some i) {ad : Addr} {n cap c : Nat} {A : Option Addr} {new : Array Value}
    (hf : (Builtin.firstCells i.size n (.slice A n c)).run P w = .ok new w) (hst : (storeCells ad new.toList).run P w = .ok () w') :
    (Builtin.copy_ #[t, t] ty #[.slice (some ad) n cap, .slice A n c]).run P w = .ok (goInt n) w' := by
  simp [Builtin.copy_, run_underlying ht, sizeOf, typeInfo, hi, Builtin.lenOf, hf, hst]
theorem copy_none {P : Program} {w : World} {t ty e : TypeId} {i : TypeInfo} (ht : P.underlying t = some (.slice e)) (hi : P.info? e = some i) {c : Nat} {A : Option Addr} {new : Array Value}
    (hf : (Builtin.firstCells i.size 0 (.slice A 0 c)).run P w = .ok new w) :
    (Builtin.copy_ #[t, t] ty #[.slice none 0 0, .slice A 0 c]).run P w = .ok (goInt (0 : Nat)) w := by
  simp [Builtin.copy_, run_underlying ht, sizeOf, typeInfo, hi, Builtin.lenOf, hf]

theorem good_copy {P : Program} {t ty e : TypeId} {x y : Operand} {L : Lay} (hu : P.underlying t = some (.slice e)) (hL : lay P e = some L) (hpos : 0 < L.size) {h off len : Nat} {els : List V} (hlen : els.length = len) (hE : (els.getD 0 .junk).cells.length = L.size ∨ els = [])
    (hfl : (flatCells els).length = len * L.size) (hflat : (flatCells els).all V.flat = true) : Good P (.call ⟨.builtin .copy, #[x, y], #[t, t]⟩) ty [.own h off len L.size, .sl els] (copyE h off len L.size els) := by
  intro C env fr hp D a w hs hv m hm v' hp' used he
  simp only [copyE, Eff.run] at he
  split at he
  · rename_i r hr
    split at he
    · rename_i r' v'' hk
      cases he
      split at hk
      · rename_i hle
        cases hk
        obtain ⟨i, d, z, hi, hd, hz, rfl⟩ := lay_inv hL
        simp only at hE hfl hle hpos
        have h0 : Rep (Fd C env hp) w env D (a.eval x) (.own h off len i.size) := hv.2 0 (by simp)
        have h1 : Rep (Fd C env hp) w env D (a.eval y) (.sl els) := hv.2 1 (by simp)
        obtain ⟨A, m', capY, news, hY, hnl, hnews, hm62, hA, hcells, hreps, hone⟩ := src_sl h1 hE hflat
        obtain rfl : len = m' := Nat.eq_of_mul_eq_mul_right hpos (hfl.symm.trans hnl)
        have hff := app_first (P := P) (w := w) (E := i.size) (cap := capY) hnews hA hcells
        rw [dd_false]
        have hint : ∀ F w', Rep F w' env D (goInt len) (.i .i64 (len : Int)) := fun F w' => .i ⟨by show (-9223372036854775808 : Int) ≤ _; omega, by show _ ≤ (9223372036854775807 : Int); omega⟩
        generalize hX : a.eval x = X at h0
        cases h0 with
        | own a1 a2 a3 a4 a5 =>
          rename_i cap blk
          obtain ⟨c, hw, hl, hc⟩ := good_loadRow hs hr a2
          have hst := r_storeCells (P := P) news w c off 0 hw (by omega) hone
          rw [Nat.add_zero] at hst
          have hrun := copy_some (P := P) (ty := ty) (cap := cap) hu hi hff hst
          have hsz := setRange_size news c off
          refine ⟨env, _, _, _, run_copy_op (by rw [hX, hY]; exact hrun), hs.write hr a2 hw rfl hsz rfl (by simp only [setR_length]; rw [hsz]; exact hl) ?_, hint _ _, .inl rfl⟩
          intro k hk
          simp only [setR_length] at hk
          show Rep _ _ _ _ _ ((setR r.cells off (flatCells els)).getD k .junk)
          rw [setRange_get _ _ _ _ (by omega), setR_get _ _ _ _ (by omega), hnews, hfl]
          by_cases hin : off ≤ k ∧ k < off + len * i.size
          · rw [if_pos hin, if_pos hin]
            exact hreps _ (by omega)
          · rw [if_neg hin, if_neg hin]
            exact hc _ hk
        | own0 a1 =>
          have hnil : flatCells els = [] := List.eq_nil_of_length_eq_zero (by rw [hfl, Nat.zero_mul])
          have hrun := copy_none (P := P) (ty := ty) (w := w) hu hi hff
          have hself : upd hp h (some ⟨r.T, setR r.cells 0 (flatCells els)⟩) = hp := by
            rw [hnil]
            funext k
            unfold upd
            split
            · rename_i e1
              subst e1
              rw [hr]
              rfl
            · rfl
          rw [hself]
          exact ⟨env, w, _, _, run_copy_op (by rw [hX, hY]; exact hrun), hs, hint _ _, .inl rfl⟩
      · cases hk
    · cases he
  · cases he

/-- An operation whose effect is proved apart. -/
theorem TrOk.good {P : Program} {ops : Array Oper} {i : Nat} {o : Oper} (hi : ops[i]? = some o) {N : Nat} {st st1 : St} {vs : List V} {e : Eff} {v : V} {hp : List (Nat × Row)} {u : Bool} (h1 : guardP st.fr (match o.guard with
    | none => none
    | some (j, w) => some (gslot ops j, w)) = some true) (h2 : valsOf st.fr (opsOf o.op) = some vs) (h3 : ∀ ty, Good P o.op ty vs e) (h4 : e.runL st.nx st.hp = some (v, hp, u)) (h5 : putSt N o.dst v st.fr hp (if u = true then st.nx + 1 else st.nx) = some st1) :
    TrOk P ops N i ⟨o.dst, slotsOf (opsOf o.op) ++ gSlot (match o.guard with
    | none => none
    | some (j, w) => some (gslot ops j, w)), v, e.rds, e.wws st.nx hp, if u = true then [st.nx] else []⟩ (lkp st.fr) (lkp st.hp) := by
  intro C env fr hpf D a w hN hs hfr hhp hnn hex K Q hk
  subst hN
  unfold wpOp
  simp only [hi]
  rw [if_pos (guard_sim hs h1 (fun t ht => hfr t (List.mem_append.2 (.inr ht))))]
  refine .inl ?_
  obtain ⟨hl, hr⟩ := valsOf_sim hs h2 (fun t ht => hfr t (List.mem_append.2 (.inl ht)))
  rw [opsOf_eq] at hl hr
  have hrun := run_local h4 (s := hpf) (fun k hk => hhp k hk)
  have hdst := (putSt_dst h5).1
  obtain ⟨m, hm, hrun', hDD⟩ : ∃ m, ¬ D m ∧ e.run m hpf = some (v, wrt hpf (e.wws st.nx hp), u) ∧ DD D m u = fun k => D k ∨ k ∈ (if u = true then [st.nx] else []) := by
    cases u with
    | true => exact ⟨st.nx, hnn st.nx (by simp), hrun, by funext k; simp [DD]⟩
    | false =>
      obtain ⟨m, hm⟩ := hex
      exact ⟨m, hm, run_indep hrun m, by funext k; simp [DD]⟩
  obtain ⟨env', w', nx, x, g1, g2, g3, g4⟩ := h3 o.type C env fr hpf D a w hs ⟨by simpa using hl, fun j hj => by
    have := hr j hj
    have e1 : o.op.operands.toList.getD j (.const undef) = o.op.operands.getD j (.const undef) := by
      simp [List.getD_eq_getElem?_getD, Array.getD_eq_getD_getElem?]
    rw [e1] at this
    exact this⟩ m hm v (wrt hpf (e.wws st.nx hp)) u hrun'
  rw [hDD] at g2 g3
  exact wp_of_value g1 g4 (hk env' _ w' (put_sim (T := ⟨o.dst, slotsOf (opsOf o.op) ++ gSlot (match o.guard with
    | none => none
    | some (j, w) => some (gslot ops j, w)), v, e.rds, e.wws st.nx hp, if u = true then [st.nx] else []⟩) g2 hdst g3))
/-- copy in a drawn region. -/
theorem RunD.copy {P : Program} {N : Nat} {o : PO} {l : List PO} {Ts : List Tr} {st st1 st2 : St} {e : TypeId} {t : TypeId} {x y : Operand} {L : Lay} {T : Tr} {h off len : Nat} {els : List V} {v : V} {hp : List (Nat × Row)} (ho : o.op = .call ⟨.builtin .copy, #[x, y], #[t, t]⟩) (hg : guardP st.fr o.g = some true)
    (hv : valsOf st.fr (opsOf o.op) = some [.own h off len L.size, .sl els]) (hu : P.underlying t = some (.slice e)) (hL : lay P e = some L) (hpos : 0 < L.size) (hlen : els.length = len) (hE : (els.getD 0 .junk).cells.length = L.size ∨ els = [])
    (hfl : (flatCells els).length = len * L.size) (hflat : (flatCells els).all V.flat = true) (hr : (copyE h off len L.size els).runL st.nx st.hp = some (v, hp, false)) (hp1 : putSt N o.dst v st.fr hp st.nx = some st1)
    (hT : T = ⟨o.dst, slotsOf (opsOf o.op) ++ gSlot o.g, v, (copyE h off len L.size els).rds, (copyE h off len L.size els).wws st.nx hp, []⟩) (hk : RunD P N l st1 Ts st2) : RunD P N (o :: l) st (T :: Ts) st2 := by
  subst hT
  obtain ⟨hd, hfw, hph, _⟩ := putSt_dst hp1
  refine .tr ?_ ?_ ?_ hk
  · intro ops i o' hi he
    subst he
    exact TrOk.good hi hg hv (fun ty => by
      show Good P o'.op ty _ _
      have ho' : o'.op = .call ⟨.builtin .copy, #[x, y], #[t, t]⟩ := ho
      rw [ho']
      exact good_copy hu hL hpos hlen hE hfl hflat) hr hp1
  · exact hfw
  · rw [hph]
    exact wws_hp hr

/-- A call that gives a row away, in a drawn region. -/
theorem TrOk.callOwn {P : Program} {ops : Array Oper} {i : Nat} {o : Oper} (hi : ops[i]? = some o) {N : Nat} {st st1 : St} {f : FuncId} {caps args : List V} {r : V} {q : Row} (h0 : isCall o.op = true) (h1 : guardP st.fr (match o.guard with
    | none => none
    | some (j, w) => some (gslot ops j, w)) = some true) (h2 : valsOf st.fr (opsOf o.op) = some (.fn f caps :: args)) (h3 : V.hfL (args ++ caps) = true) (h4 : PCall P f (cnlL (args ++ caps)) r [q]) (h5 : putSt N o.dst (r.ren (st.nx + ·)) st.fr ((st.nx, q.ren (st.nx + ·)) :: st.hp) (st.nx + 1) = some st1) :
    TrOk P ops N i ⟨o.dst, slotsOf (opsOf o.op) ++ gSlot (match o.guard with
    | none => none
    | some (j, w) => some (gslot ops j, w)), r.ren (st.nx + ·), [], [(st.nx, some (q.ren (st.nx + ·)))], [st.nx]⟩ (lkp st.fr) (lkp st.hp) := by
  intro C env fr hpf D a w hN hs hfr hhp hnn hex K Q hk
  subst hN
  unfold wpOp
  simp only [hi]
  rw [if_pos (guard_sim hs h1 (fun t ht => hfr t (List.mem_append.2 (.inr ht))))]
  refine .inl ?_
  obtain ⟨hl, hr⟩ := valsOf_sim hs h2 (fun t ht => hfr t (List.mem_append.2 (.inl ht)))
  rw [opsOf_eq] at hl hr
  have hdst := (putSt_dst h5).1
  obtain ⟨hcf, hcalls⟩ := h4
  cases hop : o.op with
  | call c =>
    rw [hop] at h0 hl hr
    simp only [isCall] at h0
    split at h0
    · rename_i g hcal
      have hops : (Op.call c).operands.toList = g :: c.args.toList := by simp [Op.operands, Call.operands, hcal]
      rw [hops] at hl hr
      have hg0 : Rep _ w env _ (a.eval g) (.fn f caps) := hr 0 (by simp)
      generalize hgv : a.eval g = gv at hg0
      cases hg0 with
      | fn hsz hcr =>
        rename_i xcaps
        have hrun : (execOp a.eval o).run P w = .ok (.enter f (c.args.map a.eval ++ xcaps)) w := by
          unfold execOp
          rw [hop]
          simp only [Sem.run_bind]
          have h1 : (resolve a.eval c o.type).run P w = .ok { target := .fn (.func f) xcaps, args := c.args.map a.eval } w := by
            unfold resolve
            simp only [hcal, hgv, Deferred.ofValue, Array.empty_append]
            rfl
          rw [h1]
          simp only [Result.andThen_ok, invoke]
          exact hcf _ _
        unfold Oper.wp
        rw [hrun, Oper.upon_enter]
        have hlen : args.length = c.args.size := by simpa using hl
        have hrep0 : ∀ k, k < (args ++ caps).length → Rep (Fd C env hpf) w env D ((c.args.map a.eval ++ xcaps).getD k undef) ((args ++ caps).getD k .junk) := by
          intro k hk
          by_cases hka : k < args.length
          · have h1 := hr (k + 1) (by simp; omega)
            simp only [List.getD_cons_succ] at h1
            have e1 : (c.args.map a.eval ++ xcaps).getD k undef = a.eval (c.args.toList.getD k (.const undef)) := by
              rw [Array.getD_eq_getD_getElem?, Array.getElem?_append_left (by simp; omega)]
              simp [List.getD_eq_getElem?_getD, show k < c.args.size by omega]
            have e2 : (args ++ caps).getD k .junk = args.getD k .junk := by
              rw [List.getD_eq_getElem?_getD, List.getElem?_append_left hka, ← List.getD_eq_getElem?_getD]
            rw [e1, e2]
            exact h1
          · have e1 : (c.args.map a.eval ++ xcaps).getD k undef = xcaps.getD (k - args.length) undef := by
              rw [Array.getD_eq_getD_getElem?, Array.getElem?_append_right (by simp; omega), Array.getD_eq_getD_getElem?]
              simp [hlen]
            have e2 : (args ++ caps).getD k .junk = caps.getD (k - args.length) .junk := by
              rw [List.getD_eq_getElem?_getD, List.getElem?_append_right (by omega), ← List.getD_eq_getElem?_getD]
            rw [e1, e2]
            exact hcr _ (by simp at hk; omega)
        refine (hcalls (Fd C env hpf) w (c.args.map a.eval ++ xcaps) (fun b hb => hs.fd_lt hb) (by rw [cnlL_length]; simp [hlen, hsz]) (fun k hk => ?_)).mono ?_
        · rw [cnlL_length] at hk
          rw [cnlL_getD]
          exact ((hrep0 k hk).hf (hfL_getD h3 k)).cnl
        · rintro e w' ⟨x, rfl, hcame⟩
          show K (a.put o.dst x) w'
          obtain ⟨env', hs1, hx⟩ := hs.join hcame (n := st.nx) (fun j hj => by
            have : j = 0 := by simpa using hj
            subst this
            exact hnn st.nx (by simp))
          have e2 : (fun m => D m ∨ (st.nx ≤ m ∧ m < st.nx + [q].length)) = fun m => D m ∨ m ∈ [st.nx] := by
            funext m
            simp only [List.length_singleton, List.mem_singleton, eq_iff_iff]
            constructor
            · rintro (h | h)
              · exact .inl h
              · exact .inr (by omega)
            · rintro (h | h)
              · exact .inl h
              · exact .inr (by omega)
          have e3 : (fun m => if st.nx ≤ m ∧ m < st.nx + [q].length then ([q][m - st.nx]?).map (Row.ren (st.nx + ·)) else hpf m) = wrt hpf [(st.nx, some (q.ren (st.nx + ·)))] := by
            funext m
            simp only [List.length_singleton, wrt]
            by_cases e : m = st.nx
            · subst e
              rw [if_pos ⟨Nat.le_refl _, Nat.lt_succ_self _⟩, Nat.sub_self, if_pos rfl]
              rfl
            · rw [if_neg (by omega), if_neg e]
          rw [e2, e3] at hs1 hx
          exact hk env' _ w' (put_sim (T := ⟨o.dst, slotsOf (opsOf o.op) ++ gSlot (match o.guard with
            | none => none
            | some (j, w) => some (gslot ops j, w)), r.ren (st.nx + ·), [], [(st.nx, some (q.ren (st.nx + ·)))], [st.nx]⟩) hs1 hdst hx)
    · cases h0
  | _ => rw [hop] at h0; simp [isCall] at h0
theorem cons_wrt (hp : List (Nat × Row)) (n : Nat) (q : Row) : lkp ((n, q) :: hp) = wrt (lkp hp) [(n, some q)] := by
  rw [lkp_cons]
  rfl
theorem RunD.callOwn {P : Program} {N : Nat} {o : PO} {l : List PO} {Ts : List Tr} {st st1 st2 : St} {f : FuncId} {caps args : List V} {r v : V} {q q' : Row} {T : Tr} (h0 : isCall o.op = true) (h1 : guardP st.fr o.g = some true) (h2 : valsOf st.fr (opsOf o.op) = some (.fn f caps :: args)) (h3 : V.hfL (args ++ caps) = true) (h4 : PCall P f (cnlL (args ++ caps)) r [q])
    (hv : r.ren (st.nx + ·) = v) (hq : q.ren (st.nx + ·) = q') (h5 : putSt N o.dst v st.fr ((st.nx, q') :: st.hp) (st.nx + 1) = some st1) (hT : T = ⟨o.dst, slotsOf (opsOf o.op) ++ gSlot o.g, v, [], [(st.nx, some q')], [st.nx]⟩) (hk : RunD P N l st1 Ts st2) : RunD P N (o :: l) st (T :: Ts) st2 := by
  subst hT hv hq
  obtain ⟨hd, hfw, hph, _⟩ := putSt_dst h5
  refine .tr ?_ ?_ ?_ hk
  · intro ops i o' hi he
    subst he
    exact TrOk.callOwn hi h0 h1 h2 h3 h4 h5
  · exact hfw
  · rw [hph]
    exact cons_wrt _ _ _

end Go.Proofs.Ytepkjfnffbdcoaa.Lift
