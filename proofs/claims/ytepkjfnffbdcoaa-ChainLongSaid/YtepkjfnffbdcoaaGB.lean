/- Addresses, fields, indexes, slice expressions, append, bytes to a string: their effects, and that the model's runs come to them. -/
import Derived.Test.YtepkjfnffbdcoaaGA
set_option linter.unusedVariables false
set_option maxRecDepth 20000
set_option linter.unusedSimpArgs false
namespace Go.Proofs.Ytepkjfnffbdcoaa.Lift
open Go

/-! ### fieldAddr, field -/
def fieldOff (P : Program) (t : TypeId) (f : Nat) : Option (Nat × TypeId) :=
  match P.underlying t with
  | some (.struct fs) => match fs[f]? with
    | some fd => match P.info? fd.type with
      | some i => if i.size = 0 then none else some (fd.offset, fd.type)
      | none => none
    | none => none
  | _ => none

def effFieldAddr (P : Program) (t : TypeId) (f : Nat) : List V → Option Eff
  | [.ptr h off] => match fieldOff P t f with
    | some (o, _) => some (.val (.ptr h (off + o)))
    | none => none
  | [.rp cs] => match fieldOff P t f with
    | some (o, _) => some (.val (.rp (cs.drop o)))
    | none => none
  | _ => none

theorem run_fieldAt {P : Program} {w : World} {t : TypeId} {f o : Nat} {ft : TypeId} (h : fieldOff P t f = some (o, ft)) (blk off : Nat) :
    (Instr.fieldAt t (.pointer (some ⟨blk, off, none⟩)) f).run P w = .ok (.pointer (some ⟨blk, off + o, none⟩)) w := by
  unfold fieldOff at h
  split at h
  · rename_i fs hu
    split at h
    · rename_i fd hf
      split at h
      · rename_i i hi
        split at h
        · cases h
        · rename_i hsz
          cases h
          unfold Instr.fieldAt
          simp only [Sem.run_bind, r_under hu, Result.andThen_ok, hf, Instr.sureAddr]
          have : (fieldPlace ⟨blk, off, none⟩ fd).run P w = .ok ⟨blk, off + fd.offset, none⟩ w := by
            unfold fieldPlace
            simp only [Sem.run_bind, r_size hi, Result.andThen_ok]
            rw [if_neg hsz, add_eq]
            rfl
          have h2 : (pure ⟨blk, off, none⟩ : Sem Addr).run P w = .ok ⟨blk, off, none⟩ w := rfl
          simp only [h2, Result.andThen_ok, this]
          rfl
      · cases h
    · cases h
  · cases h

theorem Rep.rp_drop {F : Nat → Prop} {w : World} {env : Env} {D : Nat → Prop} {blk off o : Nat} {cs : List V} (h : Rep F w env D (.pointer (some ⟨blk, off, none⟩)) (.rp cs)) : Rep F w env D (.pointer (some ⟨blk, off + o, none⟩)) (.rp (cs.drop o)) := by
  cases h with
  | rp y hF hb hy hr =>
    refine .rp (fun k => y (o + k)) hF hb (fun k hk => ?_) (fun k hk => ?_)
    · rw [Nat.add_assoc]
      exact hy _ (by simp at hk; omega)
    · have := hr (o + k) (by simp at hk; omega)
      rw [show (cs.drop o).getD k .junk = cs.getD (o + k) .junk by simp [List.getD_eq_getElem?_getD]]
      exact this

theorem good_fieldAddr {P : Program} {t ty : TypeId} {x : Operand} {f : Nat} {vs : List V} {e : Eff} (h : effFieldAddr P t f vs = some e) : Good P (.fieldAddr t x f) ty vs e := by
  unfold effFieldAddr at h
  split at h
  · rename_i n off
    split at h
    · rename_i o ft hf
      cases h
      refine Good.pure fun F env D a w hl hv => ?_
      obtain ⟨blk, e0, he, hD⟩ := (show Rep F w env D (a.eval x) (.ptr n off) from hv 0 (by simp)).ptr_inv
      refine ⟨_, ?_, .ptr hD he⟩
      simp only [execOp, e0]
      exact run_value (run_fieldAt hf blk off)
    · cases h
  · rename_i cs
    split at h
    · rename_i o ft hf
      cases h
      refine Good.pure fun F env D a w hl hv => ?_
      have h0 : Rep F w env D (a.eval x) (.rp cs) := hv 0 (by simp)
      generalize hX : a.eval x = X at h0
      have h0' := h0
      cases h0 with
      | rp y hF hb hy hr =>
        refine ⟨_, ?_, h0'.rp_drop (o := o)⟩
        simp only [execOp, hX]
        exact run_value (run_fieldAt hf _ _)
    · cases h
  · cases h

def effField (P : Program) (t : TypeId) (f : Nat) : List V → Option Eff
  | [.agg cs] => match fieldOff P t f with
    | some (o, ft) => match lay P ft with
      | some L => match readAt L cs o with
        | some v => some (.val v)
        | none => none
      | none => none
    | none => none
  | _ => none

theorem run_part {P : Program} {w : World} {t : TypeId} {L : Lay} (hL : lay P t = some L) {F : Nat → Prop} {env : Env} {D : Nat → Prop} {cs : List V} {xs : Array Value} {off : Nat} {v : V} (h : readAt L cs off = some v)
    (hsz : xs.size = cs.length) (hr : ∀ k, k < cs.length → Rep F w env D (xs.getD k undef) (cs.getD k .junk)) : ∃ x, (part t xs off).run P w = .ok x w ∧ Rep F w env D x v := by
  obtain ⟨i, d, z, hi, hd, hz, rfl⟩ := lay_inv hL
  unfold readAt at h
  simp only at h
  unfold part
  simp only [Sem.run_bind, r_agg hd, Result.andThen_ok]
  split at h
  · rename_i ha
    split at h
    · rename_i hle
      cases h
      simp only [ha, if_true, Sem.run_bind, r_size hi, Result.andThen_ok]
      refine ⟨_, rfl, .agg (by simp; omega) fun k hk => ?_⟩
      have hk' : k < i.size := by simp at hk; omega
      have e1 : (xs.extract off (off + i.size)).getD k undef = xs.getD (off + k) undef := by
        rw [Array.getD_eq_getD_getElem?, Array.getD_eq_getD_getElem?, Array.getElem?_extract, if_pos (by omega)]
      have e2 : ((cs.drop off).take i.size).getD k .junk = cs.getD (off + k) .junk := by
        simp [List.getD_eq_getElem?_getD, List.getElem?_take, hk']
      rw [e1, e2]
      exact hr _ (by omega)
    · cases h
  · rename_i ha
    split at h
    · rename_i hlt
      cases h
      have ha' : aggD d = false := by simpa using ha
      have : xs[off]? = some (xs.getD off undef) := by simp [Array.getD_eq_getD_getElem?, hsz, hlt]
      simp only [ha', Bool.false_eq_true, if_false, this]
      exact ⟨_, rfl, hr _ hlt⟩
    · cases h

theorem good_field {P : Program} {t ty : TypeId} {x : Operand} {f : Nat} {vs : List V} {e : Eff} (h : effField P t f vs = some e) : Good P (.field t x f) ty vs e := by
  unfold effField at h
  split at h
  · rename_i cs
    split at h
    · rename_i o ft hf
      split at h
      · rename_i L hL
        split at h
        · rename_i v hv
          cases h
          refine Good.pure fun F env D a w hl hr => ?_
          obtain ⟨xs, e0, hsz, hrr⟩ := (show Rep F w env D (a.eval x) (.agg cs) from hr 0 (by simp)).agg_inv
          obtain ⟨z, hz, hzr⟩ := run_part (P := P) hL hv hsz hrr
          refine ⟨z, ?_, hzr⟩
          have : (Instr.field t (.agg xs) f).run P w = .ok z w := by
            unfold fieldOff at hf
            split at hf
            · rename_i fs hu
              split at hf
              · rename_i fd hfd
                split at hf
                · split at hf
                  · cases hf
                  · cases hf
                    unfold Instr.field
                    simp only [Sem.run_bind, r_under hu, Result.andThen_ok, hfd]
                    have h2 : (asAgg (.agg xs)).run P w = .ok xs w := rfl
                    simp only [h2, Result.andThen_ok]
                    exact hz
                · cases hf
              · cases hf
            · cases hf
          simp only [execOp, e0]
          exact run_value this
        · cases h
      · cases h
    · cases h
  · cases h

/-! ### indexAddr, index -/
def effIndexAddr (P : Program) (t : TypeId) : List V → Option Eff
  | [.sl els, .i _ j] => match P.underlying t with
    | some (.slice e) => match lay P e with
      | some L => if 0 ≤ j ∧ j < els.length ∧ (els.getD j.toNat .junk).cells.length = L.size then some (.val (.rp (els.getD j.toNat .junk).cells)) else none
      | none => none
    | _ => none
  | [.own h off len E, .i _ j] => match P.underlying t with
    | some (.slice e) => match lay P e with
      | some L => if E = L.size ∧ 0 ≤ j ∧ j < len then some (.val (.ptr h (off + j.toNat * E))) else none
      | none => none
    | _ => none
  | [.ptr h off, .i _ j] => match P.underlying t with
    | some (.array n e) => match lay P e with
      | some L => if 0 ≤ j ∧ j < n then some (.val (.ptr h (off + j.toNat * L.size))) else none
      | none => none
    | _ => none
  | [.rp cs, .i _ j] => match P.underlying t with
    | some (.array n e) => match lay P e with
      | some L => if 0 ≤ j ∧ j < n then some (.val (.rp (cs.drop (j.toNat * L.size)))) else none
      | none => none
    | _ => none
  | _ => none

theorem run_indexSlice {P : Program} {w : World} {t e : TypeId} {i : TypeInfo} (hu : P.underlying t = some (.slice e)) (hi : P.info? e = some i) (blk off len cap : Nat) (k : IntKind) (j : Int) (h0 : 0 ≤ j) (h1 : j < len) :
    (Instr.indexAt t (.slice (some ⟨blk, off, none⟩) len cap) (.int k j)).run P w = .ok (.pointer (some ⟨blk, off + j.toNat * i.size, none⟩)) w := by
  unfold Instr.indexAt
  have h2 : (asIntOf (.int k j)).run P w = .ok (k, j) w := rfl
  simp only [Sem.run_bind, h2, Result.andThen_ok, r_under hu]
  have h3 : ∀ (x : Option Addr × Nat × TypeId), (pure x : Sem _).run P w = .ok x w := fun _ => rfl
  simp only [h3, Result.andThen_ok, Sem.run_bind, r_under hu, h0, h1, and_self, if_true, r_size hi, add_eq]
  rfl

theorem run_indexArr {P : Program} {w : World} {t e : TypeId} {n : Nat} {i : TypeInfo} (hu : P.underlying t = some (.array n e)) (hi : P.info? e = some i) (blk off : Nat) (k : IntKind) (j : Int) (h0 : 0 ≤ j) (h1 : j < n) :
    (Instr.indexAt t (.pointer (some ⟨blk, off, none⟩)) (.int k j)).run P w = .ok (.pointer (some ⟨blk, off + j.toNat * i.size, none⟩)) w := by
  unfold Instr.indexAt
  have h2 : (asIntOf (.int k j)).run P w = .ok (k, j) w := rfl
  have h4 : (Instr.sureAddr (.pointer (some ⟨blk, off, none⟩))).run P w = .ok ⟨blk, off, none⟩ w := rfl
  simp only [Sem.run_bind, h2, Result.andThen_ok, r_under hu, h4]
  have h3 : ∀ (x : Option Addr × Nat × TypeId), (pure x : Sem _).run P w = .ok x w := fun _ => rfl
  simp only [h3, Result.andThen_ok, Sem.run_bind, r_under hu, h0, h1, and_self, if_true, r_size hi, add_eq]
  rfl

theorem getD_mem {l : List V} {k : Nat} (h : k < l.length) : l.getD k .junk ∈ l := by
  rw [List.getD_eq_getElem?_getD, List.getElem?_eq_getElem h]
  exact List.getElem_mem _

theorem Rep.sl_rp {F : Nat → Prop} {w : World} {env : Env} {D : Nat → Prop} {X : Value} {els : List V} {j : Nat} {E : Nat} (h : Rep F w env D X (.sl els)) (hj : j < els.length) (hE : (els.getD j .junk).cells.length = E) :
    ∃ blk off cap, X = .slice (some ⟨blk, off, none⟩) els.length cap ∧ ∀ env' D', Rep F w env' D' (.pointer (some ⟨blk, off + j * E, none⟩)) (.rp (els.getD j .junk).cells) := by
  cases h with
  | sl0 => simp at hj
  | sl y hne hc hl hF hb hEs hy hr =>
    rename_i blk off cap E'
    have : E = E' := by rw [← hE]; exact hEs _ (getD_mem hj)
    subst this
    refine ⟨blk, off, cap, rfl, fun env' D' => ?_⟩
    refine .rp (fun k => y (j * E + k)) hF hb (fun k hk => ?_) (fun k hk => hr j k hj (by omega))
    rw [Nat.add_assoc]
    refine hy _ ?_
    have h1 : (j + 1) * E ≤ els.length * E := Nat.mul_le_mul_right _ hj
    rw [Nat.succ_mul] at h1
    omega

theorem good_indexAddr {P : Program} {t ty : TypeId} {x y : Operand} {vs : List V} {e : Eff} (h : effIndexAddr P t vs = some e) : Good P (.indexAddr t x y) ty vs e := by
  unfold effIndexAddr at h
  split at h
  · rename_i els k j
    split at h
    · rename_i el hu
      split at h
      · rename_i L hL
        split at h
        · rename_i hc
          obtain ⟨h0, h1, h2⟩ := hc
          cases h
          obtain ⟨i, d, z, hi, hd, hz, rfl⟩ := lay_inv hL
          refine Good.pure fun F env D a w hl hv => ?_
          have e1 : a.eval y = .int k j := (show Rep F w env D (a.eval y) (.i k j) from hv 1 (by simp)).int_inv.1
          obtain ⟨blk, off, cap, e0, hr⟩ := (show Rep F w env D (a.eval x) (.sl els) from hv 0 (by simp)).sl_rp (j := j.toNat) (by omega) h2
          refine ⟨_, ?_, hr env D⟩
          simp only [execOp, e0, e1]
          exact run_value (run_indexSlice hu hi blk off _ cap k j h0 h1)
        · cases h
      · cases h
    · cases h
  · rename_i n off len E k j
    split at h
    · rename_i el hu
      split at h
      · rename_i L hL
        split at h
        · rename_i hc
          obtain ⟨h2, h0, h1⟩ := hc
          cases h
          obtain ⟨i, d, z, hi, hd, hz, rfl⟩ := lay_inv hL
          refine Good.pure fun F env D a w hl hv => ?_
          have e1 : a.eval y = .int k j := (show Rep F w env D (a.eval y) (.i k j) from hv 1 (by simp)).int_inv.1
          have hx : Rep F w env D (a.eval x) (.own n off len E) := hv 0 (by simp)
          generalize hX : a.eval x = X at hx
          cases hx with
          | own a1 a2 a3 a4 a5 =>
            rename_i cap blk
            refine ⟨_, ?_, .ptr a1 a2⟩
            simp only [execOp, hX, e1]
            rw [h2]
            exact run_value (run_indexSlice hu hi blk off _ cap k j h0 h1)
          | own0 a1 => omega
        · cases h
      · cases h
    · cases h
  · rename_i n off k j
    split at h
    · rename_i m el hu
      split at h
      · rename_i L hL
        split at h
        · rename_i hc
          obtain ⟨h0, h1⟩ := hc
          cases h
          obtain ⟨i, d, z, hi, hd, hz, rfl⟩ := lay_inv hL
          refine Good.pure fun F env D a w hl hv => ?_
          have e1 : a.eval y = .int k j := (show Rep F w env D (a.eval y) (.i k j) from hv 1 (by simp)).int_inv.1
          obtain ⟨blk, e0, he, hD⟩ := (show Rep F w env D (a.eval x) (.ptr n off) from hv 0 (by simp)).ptr_inv
          refine ⟨_, ?_, .ptr hD he⟩
          simp only [execOp, e0, e1]
          exact run_value (run_indexArr hu hi blk off k j h0 h1)
        · cases h
      · cases h
    · cases h
  · rename_i cs k j
    split at h
    · rename_i m el hu
      split at h
      · rename_i L hL
        split at h
        · rename_i hc
          obtain ⟨h0, h1⟩ := hc
          cases h
          obtain ⟨i, d, z, hi, hd, hz, rfl⟩ := lay_inv hL
          refine Good.pure fun F env D a w hl hv => ?_
          have e1 : a.eval y = .int k j := (show Rep F w env D (a.eval y) (.i k j) from hv 1 (by simp)).int_inv.1
          have hx : Rep F w env D (a.eval x) (.rp cs) := hv 0 (by simp)
          generalize hX : a.eval x = X at hx
          have hx' := hx
          cases hx with
          | rp y1 hF hb hy hr =>
            refine ⟨_, ?_, hx'.rp_drop (o := j.toNat * i.size)⟩
            simp only [execOp, hX, e1]
            exact run_value (run_indexArr hu hi _ _ k j h0 h1)
        · cases h
      · cases h
    · cases h
  · cases h

def byteAt (s : ByteArray) (j : Nat) : Int := ((s.data.getD j 0).toNat : Int)
def effIndex (P : Program) (t : TypeId) : List V → Option Eff
  | [.s s, .i _ j] => match P.underlying t with
    | some .string => if 0 ≤ j ∧ j < s.size then some (.val (.i .u8 (byteAt s j.toNat))) else none
    | _ => none
  | [.agg cs, .i _ j] => match P.underlying t with
    | some (.array n e) => match lay P e with
      | some L => if 0 ≤ j ∧ j < n then (match readAt L cs (j.toNat * L.size) with
        | some v => some (.val v)
        | none => none) else none
      | none => none
    | _ => none
  | _ => none

theorem byteAt_range (s : ByteArray) (j : Nat) : IntKind.u8.min ≤ byteAt s j ∧ byteAt s j ≤ IntKind.u8.max := by
  have := (s.data.getD j 0).toNat_lt
  unfold byteAt
  generalize (s.data.getD j 0).toNat = m at *
  simp only [IntKind.min, IntKind.max, IntKind.bits, IntKind.signed]
  simp
  omega

theorem good_index {P : Program} {t ty : TypeId} {x y : Operand} {vs : List V} {e : Eff} (h : effIndex P t vs = some e) : Good P (.index t x y) ty vs e := by
  unfold effIndex at h
  split at h
  · rename_i s k j
    split at h
    · rename_i hu
      split at h
      · rename_i hc
        obtain ⟨h0, h1⟩ := hc
        cases h
        refine Good.pure fun F env D a w hl hv => ?_
        have e0 : a.eval x = .string s := (show Rep F w env D (a.eval x) (.s s) from hv 0 (by simp)).s_inv.1
        have e1 : a.eval y = .int k j := (show Rep F w env D (a.eval y) (.i k j) from hv 1 (by simp)).int_inv.1
        refine ⟨.int .u8 (byteAt s j.toNat), ?_, .i (byteAt_range ..)⟩
        have hlt : j.toNat < s.size := by omega
        have hg : s[j.toNat]? = some (s.data.getD j.toNat 0) := by
          rw [getElem?_pos s j.toNat hlt]
          congr 1
          have : j.toNat < s.data.size := hlt
          have e2 : s.data.getD j.toNat 0 = s.data[j.toNat] := by rw [Array.getD_eq_getD_getElem?, Array.getElem?_eq_getElem this]; rfl
          rw [e2]
          rfl
        have : (Instr.index t (.string s) (.int k j)).run P w = .ok (.int .u8 (byteAt s j.toNat)) w := by
          unfold Instr.index
          have h2 : (asIntOf (.int k j)).run P w = .ok (k, j) w := rfl
          simp only [Sem.run_bind, h2, Result.andThen_ok, r_under hu, h0, if_true, hg]
          rfl
        simp only [execOp, e0, e1]
        exact run_value this
      · cases h
    · cases h
  · rename_i cs k j
    split at h
    · rename_i n el hu
      split at h
      · rename_i L hL
        split at h
        · rename_i hc
          obtain ⟨h0, h1⟩ := hc
          split at h
          · rename_i v hv
            cases h
            refine Good.pure fun F env D a w hl hr => ?_
            obtain ⟨xs, e0, hsz, hrr⟩ := (show Rep F w env D (a.eval x) (.agg cs) from hr 0 (by simp)).agg_inv
            have e1 : a.eval y = .int k j := (show Rep F w env D (a.eval y) (.i k j) from hr 1 (by simp)).int_inv.1
            obtain ⟨z, hz, hzr⟩ := run_part (P := P) hL hv hsz hrr
            refine ⟨z, ?_, hzr⟩
            obtain ⟨i, d, z', hi, hd, hz', rfl⟩ := lay_inv hL
            have : (Instr.index t (.agg xs) (.int k j)).run P w = .ok z w := by
              unfold Instr.index
              have h2 : (asIntOf (.int k j)).run P w = .ok (k, j) w := rfl
              simp only [Sem.run_bind, h2, Result.andThen_ok, r_under hu, h0, h1, and_self, if_true, r_size hi]
              exact hz
            simp only [execOp, e0, e1]
            exact run_value this
          · cases h
        · cases h
      · cases h
    · cases h
  · cases h

/-! ### Slice expressions -/
def bound : Option V → Int → Option Int
  | none, d => some d
  | some (.i _ n), _ => some n
  | _, _ => none
/-- The operands behind the first: low and high, as the operation has them. -/
def lowHigh (lo hi : Bool) (vs : List V) : Option (Option V × Option V) :=
  match lo, hi, vs with
  | false, false, [] => some (none, none)
  | true, false, [l] => some (some l, none)
  | false, true, [h] => some (none, some h)
  | true, true, [l, h] => some (some l, some h)
  | _, _, _ => none

def sliceV (P : Program) (t : TypeId) (x : V) (l h : Option V) : Option V :=
  match x with
  | .s s => match P.underlying t with
    | some .string => match bound l 0, bound h s.size with
      | some a, some b => if 0 ≤ a ∧ a ≤ b ∧ b ≤ s.size then some (.s (s.extract a.toNat b.toNat)) else none
      | _, _ => none
    | _ => none
  | .sl els => match P.underlying t with
    | some (.slice e) => match lay P e with
      | some L => match bound l 0, bound h els.length with
        | some a, some b => if 0 ≤ a ∧ a ≤ b ∧ b ≤ els.length ∧ (els.getD 0 .junk).cells.length = L.size then some (.sl ((els.take b.toNat).drop a.toNat)) else
            (if els.length = 0 ∧ a = 0 ∧ b = 0 then some (.sl []) else none)
        | _, _ => none
      | none => none
    | _ => none
  | .nl => match P.underlying t with
    | some (.slice e) => match lay P e with
      | some L => match bound l 0, bound h 0 with
        | some a, some b => if a = 0 ∧ b = 0 then some .nl else none
        | _, _ => none
      | none => none
    | _ => none
  | .own n off len E => match P.underlying t with
    | some (.slice e) => match lay P e with
      | some L => match bound l 0, bound h len with
        | some a, some b => if E = L.size ∧ 0 ≤ a ∧ a ≤ b ∧ b ≤ len ∧ (a = 0 ∨ a < len) ∧ (off = 0 ∨ 0 < len) then some (.own n (off + a.toNat * E) (b.toNat - a.toNat) E) else none
        | _, _ => none
      | none => none
    | _ => none
  | _ => none

def effSlice (P : Program) (t : TypeId) (lo hi mx : Bool) : List V → Option Eff
  | x :: rest => match mx, lowHigh lo hi rest with
    | false, some (l, h) => match sliceV P t x l h with
      | some v => some (.val v)
      | none => none
    | _, _ => none
  | _ => none

theorem run_sliceBound {P : Program} {w : World} {k : IntKind} {i : Int} {y : Nat} {code : BoundsCode} (h0 : 0 ≤ i) (h1 : i ≤ y) : (Instr.sliceBound (.int k i) y code).run P w = .ok i.toNat w := by
  unfold Instr.sliceBound
  have h2 : (asIntOf (.int k i)).run P w = .ok (k, i) w := rfl
  simp only [Sem.run_bind, h2, Result.andThen_ok, h0, h1, and_self, if_true]
  rfl

/-- What an optional bound's operand holds. -/
def BoundIs (v : Option Value) (d n : Int) : Prop := (v = none ∧ n = d) ∨ ∃ k, v = some (.int k n)

theorem run_sliceBounds {P : Program} {w : World} {isSlice : Bool} {len cap : Nat} {low high : Option Value} {a b : Int} (hl : BoundIs low 0 a) (hh : BoundIs high len b) (h0 : 0 ≤ a) (h1 : a ≤ b) (h2 : b ≤ cap) (h3 : high = none → len ≤ cap) :
    (Instr.sliceBounds isSlice len cap low high none).run P w = .ok (a.toNat, b.toNat, cap) w := by
  unfold Instr.sliceBounds
  have hp : ∀ {α : Type} (x : α), (pure x : Sem α).run P w = .ok x w := fun _ => rfl
  rcases hh with ⟨rfl, rfl⟩ | ⟨kh, rfl⟩
  · rcases hl with ⟨rfl, rfl⟩ | ⟨kl, rfl⟩
    · simp only [Sem.run_bind, hp, Result.andThen_ok, Int.toNat_natCast]
      rfl
    · simp only [Sem.run_bind, hp, Result.andThen_ok, run_sliceBound h0 h1, Int.toNat_natCast]
  · rcases hl with ⟨rfl, rfl⟩ | ⟨kl, rfl⟩
    · simp only [Sem.run_bind, hp, Result.andThen_ok, run_sliceBound (Int.le_trans h0 h1) h2]
      rfl
    · simp only [Sem.run_bind, hp, Result.andThen_ok, run_sliceBound (Int.le_trans h0 h1) h2]
      rw [run_sliceBound h0 (by omega)]
      simp only [Result.andThen_ok, hp]

theorem Rep.take_drop {F : Nat → Prop} {w : World} {env : Env} {D : Nat → Prop} {blk off cap : Nat} {els : List V} {E m n : Nat} (h : Rep F w env D (.slice (some ⟨blk, off, none⟩) els.length cap) (.sl els)) (hE : (els.getD 0 .junk).cells.length = E)
    (hm : m < n) (hn : n ≤ els.length) : Rep F w env D (.slice (some ⟨blk, off + m * E, none⟩) (n - m) (cap - m)) (.sl ((els.take n).drop m)) := by
  generalize hX : Value.slice (some ⟨blk, off, none⟩) els.length cap = X at h
  cases h with
  | sl0 => simp at hn; omega
  | sl y hne hc hl hF hb hEs hy hr =>
    cases hX
    rename_i E'
    have : E = E' := by rw [← hE]; exact hEs _ (getD_mem (by omega))
    subst this
    have hlen : ((els.take n).drop m).length = n - m := by simp; omega
    rw [← hlen]
    refine .sl (fun k => y (m * E + k)) (by intro h; rw [h] at hlen; simp at hlen; omega) (by omega) (by omega) hF hb (fun e he => hEs e (List.mem_of_mem_take (List.mem_of_mem_drop he))) (fun k hk => ?_) (fun j k hj hk => ?_)
    · rw [Nat.add_assoc]
      refine hy _ ?_
      rw [hlen] at hk
      have h1 : m * E + (n - m) * E = n * E := by rw [← Nat.add_mul]; congr 1; omega
      have h2 : n * E ≤ els.length * E := Nat.mul_le_mul_right _ hn
      omega
    · have e1 : ((els.take n).drop m).getD j .junk = els.getD (m + j) .junk := by
        simp [List.getD_eq_getElem?_getD, List.getElem?_take, show m + j < n by omega]
      rw [e1]
      have := hr (m + j) k (by omega) hk
      rw [Nat.add_mul, Nat.add_assoc] at this
      exact this

theorem slice_core {P : Program} {t : TypeId} {u v : V} {l h : Option V} (hv : sliceV P t u l h = some v) {F : Nat → Prop} {w : World} {env : Env} {D : Nat → Prop} {X : Value} (h0 : Rep F w env D X u) {low high : Option Value}
    (hl : ∀ d n, bound l d = some n → BoundIs low d n) (hh : ∀ d n, bound h d = some n → BoundIs high d n) : ∃ z, (Instr.sliceAt t X low high none).run P w = .ok z w ∧ Rep F w env D z v := by
  unfold sliceV at hv
  split at hv
  · rename_i s
    split at hv
    · rename_i hu
      split at hv
      · rename_i a b ha hb
        split at hv
        · rename_i hc
          obtain ⟨c0, c1, c2⟩ := hc
          cases hv
          obtain ⟨rfl, hsz⟩ := h0.s_inv
          refine ⟨.string (s.extract a.toNat b.toNat), ?_, .s (by simp [ByteArray.size_extract]; omega)⟩
          have hb2 := run_sliceBounds (P := P) (w := w) (isSlice := false) (len := s.size) (cap := s.size) (hl _ _ ha) (hh _ _ hb) c0 c1 c2 (fun _ => Nat.le_refl _)
          unfold Instr.sliceAt
          simp only [Sem.run_bind, r_under hu, Result.andThen_ok]
          unfold Instr.slice
          simp only [Sem.run_bind, r_under hu, Result.andThen_ok, Option.isSome_none, Bool.false_eq_true, if_false]
          have hp : (pure PUnit.unit : Sem PUnit).run P w = .ok PUnit.unit w := rfl
          simp only [hp, Result.andThen_ok, hb2]
          rfl
        · cases hv
      · cases hv
    · cases hv
  · rename_i els
    split at hv
    · rename_i el hu
      split at hv
      · rename_i L hL
        obtain ⟨i, d, z', hi, hd, hz', rfl⟩ := lay_inv hL
        split at hv
        · rename_i a b ha hb
          have key : ∀ (A : Option Addr) (cap : Nat), X = .slice A els.length cap → els.length ≤ cap ∨ els.length = 0 → 0 ≤ a → a ≤ b → b ≤ els.length → b ≤ cap → (high = none → els.length ≤ cap) →
              (Instr.sliceAt t X low high none).run P w = .ok (.slice (if cap = a.toNat then A else A.map (·.add (a.toNat * i.size))) (b.toNat - a.toNat) (cap - a.toNat)) w := by
            rintro A cap rfl hcap c0 c1 c2 c3 c4
            have hb2 := run_sliceBounds (P := P) (w := w) (isSlice := true) (len := els.length) (cap := cap) (hl _ _ ha) (hh _ _ hb) c0 c1 c3 c4
            unfold Instr.sliceAt
            simp only [Sem.run_bind, r_under hu, Result.andThen_ok]
            unfold Instr.slice
            simp only [Sem.run_bind, r_under hu, Result.andThen_ok, hb2, r_size hi]
            rfl
          split at hv
          · rename_i hc
            obtain ⟨c0, c1, c2, c3⟩ := hc
            cases hv
            cases h0 with
            | sl0 =>
              rename_i A cap
              simp at c2
              obtain rfl : b = 0 := by omega
              obtain rfl : a = 0 := by omega
              refine ⟨_, key A cap rfl (.inr rfl) (by omega) (by omega) (by simp) (by omega) (fun _ => by simp), ?_⟩
              simp only [List.take_nil, List.drop_nil, Int.toNat_zero, Nat.sub_zero]
              exact .sl0
            | sl y hne hc hl2 hF hbb hEs hy hr =>
              rename_i blk off cap E
              refine ⟨_, key _ cap rfl (.inl hc) c0 c1 c2 (by omega) (fun _ => hc), ?_⟩
              by_cases hab : a = b
              · subst hab
                rw [Nat.sub_self]
                have : (els.take a.toNat).drop a.toNat = [] := by simp
                rw [this]
                exact .sl0
              · rw [if_neg (by omega)]
                have h1 := Rep.take_drop (m := a.toNat) (n := b.toNat) (Rep.sl (D := D) (env := env) y hne hc hl2 hF hbb hEs hy hr) c3 (by omega) (by omega)
                simp only [Option.map_some, add_eq]
                exact h1
          · split at hv
            · rename_i hc
              obtain ⟨c0, rfl, rfl⟩ := hc
              cases hv
              have hnil : els = [] := List.eq_nil_of_length_eq_zero c0
              subst hnil
              cases h0 with
              | sl0 =>
                refine ⟨_, key _ _ rfl (.inr rfl) (by omega) (by omega) (by simp) (by omega) (fun _ => by simp), ?_⟩
                simp only [Int.toNat_zero, Nat.sub_zero]
                exact .sl0
              | sl y hne => exact absurd rfl hne
            · cases hv
        · cases hv
      · cases hv
    · cases hv
  · split at hv
    · rename_i el hu
      split at hv
      · rename_i L hL
        obtain ⟨i, d, z', hi, hd, hz', rfl⟩ := lay_inv hL
        split at hv
        · rename_i a b ha hb
          split at hv
          · rename_i hc
            obtain ⟨rfl, rfl⟩ := hc
            cases hv
            cases h0 with
            | nl =>
              have hb2 := run_sliceBounds (P := P) (w := w) (isSlice := true) (len := 0) (cap := 0) (hl _ _ ha) (hh _ _ hb) (by omega) (by omega) (by omega) (fun _ => Nat.le_refl _)
              refine ⟨.slice none 0 0, ?_, .nl⟩
              unfold Instr.sliceAt
              simp only [Sem.run_bind, r_under hu, Result.andThen_ok]
              unfold Instr.slice
              simp only [Sem.run_bind, r_under hu, Result.andThen_ok, hb2, r_size hi]
              rfl
          · cases hv
        · cases hv
      · cases hv
    · cases hv
  · rename_i n off len E
    split at hv
    · rename_i el hu
      split at hv
      · rename_i L hL
        obtain ⟨i, d, z', hi, hd, hz', rfl⟩ := lay_inv hL
        split at hv
        · rename_i a b ha hb
          split at hv
          · rename_i hc
            obtain ⟨rfl, c0, c1, c2, c3, c4⟩ := hc
            cases hv
            cases h0 with
            | own a1 a2 a3 a4 a5 =>
              rename_i cap blk
              have hb2 := run_sliceBounds (P := P) (w := w) (isSlice := true) (len := len) (cap := cap) (hl _ _ ha) (hh _ _ hb) c0 c1 (by omega) (fun _ => a3)
              have hrun : (Instr.sliceAt t (.slice (some ⟨blk, off, none⟩) len cap) low high none).run P w = .ok (.slice (if cap = a.toNat then some ⟨blk, off, none⟩ else (some ⟨blk, off, none⟩ : Option Addr).map (·.add (a.toNat * i.size))) (b.toNat - a.toNat) (cap - a.toNat)) w := by
                unfold Instr.sliceAt
                simp only [Sem.run_bind, r_under hu, Result.andThen_ok]
                unfold Instr.slice
                simp only [Sem.run_bind, r_under hu, Result.andThen_ok, hb2, r_size hi]
                rfl
              refine ⟨_, hrun, ?_⟩
              obtain ⟨c, T, z, hw, hsz⟩ := a5
              have hcapE : off + a.toNat * i.size + (cap - a.toNat) * i.size ≤ c.size := by
                have h1 : a.toNat * i.size + (cap - a.toNat) * i.size = cap * i.size := by rw [← Nat.add_mul]; congr 1; omega
                simp only at hsz
                omega
              rcases c3 with rfl | c3
              · have e1 : (if cap = (0 : Int).toNat then some (⟨blk, off, none⟩ : Addr) else (some ⟨blk, off, none⟩ : Option Addr).map (·.add ((0 : Int).toNat * i.size))) = some ⟨blk, off + (0 : Int).toNat * i.size, none⟩ := by
                  split
                  · simp
                  · simp [Addr.add]
                rw [e1]
                exact .own a1 a2 (by omega) (by omega) ⟨c, T, z, hw, hcapE⟩
              · rw [if_neg (by omega)]
                simp only [Option.map_some, add_eq]
                exact .own a1 a2 (by omega) (by omega) ⟨c, T, z, hw, hcapE⟩
            | own0 a1 =>
              obtain rfl : b = 0 := by omega
              obtain rfl : a = 0 := by omega
              have hb2 := run_sliceBounds (P := P) (w := w) (isSlice := true) (len := 0) (cap := 0) (hl _ _ ha) (hh _ _ hb) (by omega) (by omega) (by omega) (fun _ => Nat.le_refl _)
              refine ⟨.slice none 0 0, ?_, by simp only [Int.toNat_zero, Nat.zero_mul, Nat.add_zero, Nat.sub_zero]; exact .own0 a1⟩
              unfold Instr.sliceAt
              simp only [Sem.run_bind, r_under hu, Result.andThen_ok]
              unfold Instr.slice
              simp only [Sem.run_bind, r_under hu, Result.andThen_ok, hb2, r_size hi]
              rfl
          · cases hv
        · cases hv
      · cases hv
    · cases hv
  · cases hv

theorem good_slice {P : Program} {t ty : TypeId} {x : Operand} {lo hi mx : Option Operand} {vs : List V} {e : Eff} (h : effSlice P t lo.isSome hi.isSome mx.isSome vs = some e) : Good P (.slice t x lo hi mx) ty vs e := by
  cases vs with
  | nil => simp [effSlice] at h
  | cons u rest =>
    unfold effSlice at h
    cases mx with
    | some m =>
      simp at h
    | none =>
      have fin : ∀ {l hh : Option V} {v : V}, sliceV P t u l hh = some v → (∀ (F : Nat → Prop) (env : Env) (D : Nat → Prop) (a : Act) (w : World), (u :: rest).length = (Op.slice t x lo hi none).operands.size → (∀ j, j < (u :: rest).length → Rep F w env D (a.eval ((Op.slice t x lo hi none).operands.getD j (.const undef))) ((u :: rest).getD j .junk)) →
          (∀ d n, bound l d = some n → BoundIs (lo.map a.eval) d n) ∧ (∀ d n, bound hh d = some n → BoundIs (hi.map a.eval) d n)) → Good P (.slice t x lo hi none) ty (u :: rest) (.val v) := by
        intro l hh v hv hbd
        refine Good.pure fun F env D a w hlen hr => ?_
        obtain ⟨b1, b2⟩ := hbd F env D a w hlen hr
        have h0 : Rep F w env D (a.eval x) u := by
          have := hr 0 (by simp)
          cases lo <;> cases hi <;> exact this
        obtain ⟨z, hz, hzr⟩ := slice_core hv h0 b1 b2
        exact ⟨z, run_value hz, hzr⟩
      have conv : ∀ {F : Nat → Prop} {w : World} {env : Env} {D : Nat → Prop} {X : Value} {u : V}, Rep F w env D X u → ∀ d n, bound (some u) d = some n → BoundIs (some X) d n := by
        intro F w env D X u hX d n hb
        unfold bound at hb
        split at hb
        · rename_i hq; cases hq
        · rename_i hq
          cases hq
          cases hb
          exact .inr ⟨_, by rw [hX.int_inv.1]⟩
        · cases hb
      have none_ : ∀ d n, bound none d = some n → BoundIs none d n := by
        intro d n hb
        cases hb
        exact .inl ⟨rfl, rfl⟩
      cases lo with
      | none =>
        cases hi with
        | none =>
          cases rest with
          | nil =>
            simp only [lowHigh, Option.isSome_none] at h
            split at h
            · rename_i v hv
              cases h
              exact fin hv fun F env D a w hlen hr => ⟨none_, none_⟩
            · cases h
          | cons r1 rest => simp [lowHigh] at h
        | some hx =>
          cases rest with
          | nil => simp [lowHigh] at h
          | cons r1 rest =>
            cases rest with
            | nil =>
              simp only [lowHigh, Option.isSome_none, Option.isSome_some] at h
              split at h
              · rename_i v hv
                cases h
                exact fin hv fun F env D a w hlen hr => ⟨none_, conv (hr 1 (by simp))⟩
              · cases h
            | cons r2 rest => simp [lowHigh] at h
      | some lx =>
        cases hi with
        | none =>
          cases rest with
          | nil => simp [lowHigh] at h
          | cons r1 rest =>
            cases rest with
            | nil =>
              simp only [lowHigh, Option.isSome_none, Option.isSome_some] at h
              split at h
              · rename_i v hv
                cases h
                exact fin hv fun F env D a w hlen hr => ⟨conv (hr 1 (by simp)), none_⟩
              · cases h
            | cons r2 rest => simp [lowHigh] at h
        | some hx =>
          cases rest with
          | nil => simp [lowHigh] at h
          | cons r1 rest =>
            cases rest with
            | nil => simp [lowHigh] at h
            | cons r2 rest =>
              cases rest with
              | nil =>
                replace h : (match sliceV P t u (some r1) (some r2) with
                  | some v => some (Eff.val v)
                  | none => none) = some e := h
                split at h
                · rename_i v hv
                  cases h
                  exact fin hv fun F env D a w hlen hr => ⟨conv (hr 1 (by simp)), conv (hr 2 (by simp))⟩
                · cases h
              | cons r3 rest => simp [lowHigh] at h

/-! ### append -/
/-- A row takes another name. -/
theorem Sim.move {C : Ctx} {env : Env} {fr : Nat → Option V} {hp : Nat → Option Row} {D : Nat → Prop} {a : Act} {w : World} (h : Sim C env fr hp D a w) {m n : Nat} {r : Row} (hr : hp m = some r) (hn : ¬ D n) :
    Sim C (upd env n (env m)) fr (upd (upd hp m none) n (some r)) (fun k => D k ∨ k = n) a w := by
  have hm : D m := (h.row m r hr).1
  have hmn : m ≠ n := fun e => hn (e ▸ hm)
  have hne : ∀ k, D k → k ≠ n := fun k hk e => hn (e ▸ hk)
  have hsome : (hp m).isSome = true := by simp [hr]
  have hsub : ∀ k, k ≠ n → ((upd (upd hp m none) n (some r)) k).isSome = true → (hp k).isSome = true ∧ k ≠ m := by
    intro k e hk
    rw [upd_ne _ _ e] at hk
    by_cases e2 : k = m
    · subst e2; simp at hk
    · rw [upd_ne _ _ e2] at hk; exact ⟨hk, e2⟩
  have hFd : ∀ b, Fd C (upd env n (env m)) (upd (upd hp m none) n (some r)) b → Fd C env hp b := by
    rintro b (ho | ⟨k, hk, he⟩)
    · exact .inl ho
    · by_cases e : k = n
      · subst e
        rw [upd_same] at he
        exact .inr ⟨m, hsome, he⟩
      · rw [upd_ne _ _ e] at he
        exact .inr ⟨k, (hsub k e hk).1, he⟩
  have dom : ∀ k, D k → (D k ∨ k = n) ∧ upd env n (env m) k = env k := fun k hk => ⟨.inl hk, upd_ne _ _ (hne k hk)⟩
  have lift : ∀ {x : Value} {v : V}, Rep (Fd C env hp) w env D x v → Rep (Fd C (upd env n (env m)) (upd (upd hp m none) n (some r))) w (upd env n (env m)) (fun k => D k ∨ k = n) x v :=
    fun hx => hx.mono (fun b _ hF => ⟨fun h => hF (hFd b h), rfl⟩) (fun _ c _ _ h => ⟨c, rfl, h⟩) (Nat.le_refl _) dom
  have rowLift : ∀ {k : Nat} {q : Row}, RowAt (Fd C env hp) w env D k q → ∀ {k' : Nat}, upd env n (env m) k' = env k → RowAt (Fd C (upd env n (env m)) (upd (upd hp m none) n (some r))) w (upd env n (env m)) (fun k => D k ∨ k = n) k' q := by
    rintro k q (⟨blk, c, he, hw, hl, hc⟩ | ⟨he, hv⟩) k' hk'
    · exact .inl ⟨blk, c, hk'.trans he, hw, hl, fun j hj => lift (hc j hj)⟩
    · exact .inr ⟨hk'.trans he, hv⟩
  exact {
    sz := h.sz
    df := h.df
    tm := fun t v ht => ⟨(h.tm t v ht).1, lift (h.tm t v ht).2⟩
    row := by
      intro k q hq
      by_cases e : k = n
      · subst e
        rw [upd_same] at hq
        cases hq
        exact ⟨.inr rfl, rowLift (h.row m r hr).2 (upd_same ..)⟩
      · rw [upd_ne _ _ e] at hq
        by_cases e2 : k = m
        · subst e2; simp at hq
        · rw [upd_ne _ _ e2] at hq
          exact ⟨.inl (h.row k q hq).1, rowLift (h.row k q hq).2 (upd_ne _ _ e)⟩
    old := by
      intro k b hk he
      by_cases e : k = n
      · subst e
        rw [upd_same] at he
        exact h.old m b hsome he
      · rw [upd_ne _ _ e] at he
        exact h.old k b (hsub k e hk).1 he
    inj := by
      intro k k' b hk hk' he he'
      by_cases e : k = n
      · by_cases e' : k' = n
        · rw [e, e']
        · subst e
          rw [upd_same] at he
          rw [upd_ne _ _ e'] at he'
          exact absurd (h.inj m k' b hsome (hsub k' e' hk').1 he he') (fun e3 => (hsub k' e' hk').2 e3.symm)
      · by_cases e' : k' = n
        · subst e'
          rw [upd_same] at he'
          rw [upd_ne _ _ e] at he
          exact absurd (h.inj k m b (hsub k e hk).1 hsome he he') (hsub k e hk).2
        · rw [upd_ne _ _ e] at he
          rw [upd_ne _ _ e'] at he'
          exact h.inj k k' b (hsub k e hk).1 (hsub k' e' hk').1 he he'
    st := h.st
    ob := h.ob
    gv := fun k hk => ⟨.inl (h.gv k hk).1, (dom k (h.gv k hk).1).2.trans (h.gv k hk).2⟩ }

/-- What is appended: where its cells lie, and what they read as. -/
def Src (F : Nat → Prop) (env : Env) (D : Nat → Prop) (w : World) (X : Value) (E : Nat) (new : List V) : Prop :=
  ∃ (A : Option Addr) (n cap : Nat) (news : List Value), X = .slice A n cap ∧ new.length = n * E ∧ news.length = n * E ∧ n < 2 ^ 62 ∧ (A = none → n = 0) ∧
    (∀ ad, A = some ad → ∀ j u, news[j]? = some u → w.cell? (ad.add j) = some u) ∧ (∀ k, k < new.length → Rep F w env D (news.getD k undef) (new.getD k .junk)) ∧ (∀ u ∈ news, oneV u = true)

theorem oneV_eq (v : Value) : v.oneCell' = oneV v := by cases v <;> rfl

theorem flat_all {F : Nat → Prop} {w : World} {env : Env} {D : Nat → Prop} {news : List Value} {new : List V} (hl : news.length = new.length) (hr : ∀ k, k < new.length → Rep F w env D (news.getD k undef) (new.getD k .junk)) (hf : new.all V.flat = true) :
    ∀ u ∈ news, oneV u = true := by
  intro u hu
  obtain ⟨k, hk, rfl⟩ := List.getElem_of_mem hu
  have h1 := hr k (by omega)
  have h2 : (new.getD k .junk).flat = true := by
    rw [List.all_eq_true] at hf
    exact hf _ (getD_mem (by omega))
  have := h1.flat_one h2
  rw [List.getD_eq_getElem?_getD, List.getElem?_eq_getElem hk] at this
  exact this

def toValues (y : Nat → Value) (n : Nat) : List Value := (List.range n).map y
theorem toValues_get (y : Nat → Value) {n k : Nat} (h : k < n) : (toValues y n).getD k undef = y k := by
  simp [toValues, List.getD_eq_getElem?_getD, h]
theorem toValues_get? (y : Nat → Value) {n j : Nat} {u : Value} (h : (toValues y n)[j]? = some u) : j < n ∧ y j = u := by
  unfold toValues at h
  rw [List.getElem?_map] at h
  by_cases hj : j < n
  · rw [List.getElem?_range hj] at h
    exact ⟨hj, by simpa using h⟩
  · rw [List.getElem?_eq_none (by simp; omega)] at h
    simp at h

def flatCells (els : List V) : List V := els.flatMap V.cells
theorem flatCells_length {els : List V} {E : Nat} (h : ∀ e ∈ els, e.cells.length = E) : (flatCells els).length = els.length * E := by
  induction els with
  | nil => simp [flatCells]
  | cons e es ih =>
    have : flatCells (e :: es) = e.cells ++ flatCells es := rfl
    rw [this, List.length_append, ih (fun x hx => h x (by simp [hx])), h e (by simp), List.length_cons, Nat.succ_mul, Nat.add_comm]
theorem flatCells_get {els : List V} {E : Nat} (h : ∀ e ∈ els, e.cells.length = E) : ∀ (j k : Nat), j < els.length → k < E → (flatCells els).getD (j * E + k) .junk = ((els.getD j .junk).cells).getD k .junk := by
  induction els with
  | nil => intro j k hj; simp at hj
  | cons e es ih =>
    intro j k hj hk
    have e1 : flatCells (e :: es) = e.cells ++ flatCells es := rfl
    have he := h e (by simp)
    rw [e1]
    cases j with
    | zero =>
      rw [Nat.zero_mul, Nat.zero_add, List.getD_eq_getElem?_getD, List.getElem?_append_left (by omega), ← List.getD_eq_getElem?_getD]
      rfl
    | succ j =>
      rw [List.getD_eq_getElem?_getD, List.getElem?_append_right (by rw [he, Nat.succ_mul]; omega), ← List.getD_eq_getElem?_getD, he,
        show (j + 1) * E + k - E = j * E + k by rw [Nat.succ_mul]; omega, ih (fun x hx => h x (by simp [hx])) j k (by simpa using hj) hk]
      rfl

theorem src_sl {F : Nat → Prop} {env : Env} {D : Nat → Prop} {w : World} {X : Value} {els : List V} {E : Nat} (h : Rep F w env D X (.sl els)) (hE : (els.getD 0 .junk).cells.length = E ∨ els = []) (hflat : (flatCells els).all V.flat = true) : Src F env D w X E (flatCells els) := by
  cases h with
  | sl0 => exact ⟨_, 0, _, [], rfl, by simp [flatCells], by simp, by omega, fun _ => rfl, by simp, by simp [flatCells], by simp⟩
  | sl y hne hc hl hF hb hEs hy hr =>
    rename_i blk off cap E'
    have hpos : 0 < els.length := List.length_pos_iff.2 hne
    have : E = E' := by
      rcases hE with hE | hE
      · rw [← hE]; exact hEs _ (getD_mem hpos)
      · exact absurd hE hne
    subst this
    have hfl := flatCells_length hEs
    have hreps : ∀ k, k < (flatCells els).length → Rep F w env D ((toValues y (els.length * E)).getD k undef) ((flatCells els).getD k .junk) := by
      intro k hk
      rw [hfl] at hk
      have hE0 : 0 < E := by
        rcases Nat.eq_zero_or_pos E with h0 | h0
        · rw [h0] at hk; simp at hk
        · exact h0
      have hj : k / E < els.length := (Nat.div_lt_iff_lt_mul hE0).2 hk
      have hk2 : k % E < E := Nat.mod_lt _ hE0
      have hdm : k / E * E + k % E = k := by rw [Nat.mul_comm]; exact Nat.div_add_mod k E
      have h1 := hr (k / E) (k % E) hj hk2
      have h2 := flatCells_get hEs (k / E) (k % E) hj hk2
      rw [hdm] at h1 h2
      rw [toValues_get _ hk, h2]
      exact h1.mono (fun b _ hF => ⟨hF, rfl⟩) (fun _ c _ _ h => ⟨c, rfl, h⟩) (Nat.le_refl _) (fun _ f => f.elim)
    refine ⟨_, els.length, cap, toValues y (els.length * E), rfl, hfl, by simp [toValues], hl, by simp, ?_, hreps, flat_all (by rw [hfl]; simp [toValues]) hreps hflat⟩
    intro ad had j u hu
    cases had
    obtain ⟨hj, rfl⟩ := toValues_get? y hu
    rw [add_eq]
    exact hy j hj

theorem src_own {C : Ctx} {env : Env} {fr : Nat → Option V} {hp : Nat → Option Row} {D : Nat → Prop} {a : Act} {w : World} (hs : Sim C env fr hp D a w) {X : Value} {n off len E : Nat} {r : Row} (h : Rep (Fd C env hp) w env D X (.own n off len E)) (hr : hp n = some r)
    (hle : off + len * E ≤ r.cells.length) (hflat : ((r.cells.drop off).take (len * E)).all V.flat = true) : Src (Fd C env hp) env D w X E ((r.cells.drop off).take (len * E)) := by
  cases h with
  | own a1 a2 a3 a4 a5 =>
    rename_i cap blk
    obtain ⟨c, hw, hl, hc⟩ := good_loadRow hs hr a2
    have hlen : ((r.cells.drop off).take (len * E)).length = len * E := by simp; omega
    have hreps : ∀ k, k < ((r.cells.drop off).take (len * E)).length → Rep (Fd C env hp) w env D ((toValues (fun k => c.getD (off + k) undef) (len * E)).getD k undef) (((r.cells.drop off).take (len * E)).getD k .junk) := by
      intro k hk
      rw [hlen] at hk
      rw [toValues_get _ hk]
      have e2 : ((r.cells.drop off).take (len * E)).getD k .junk = r.cells.getD (off + k) .junk := by
        simp [List.getD_eq_getElem?_getD, List.getElem?_take, hk]
      rw [e2]
      exact hc _ (by omega)
    refine ⟨_, len, cap, toValues (fun k => c.getD (off + k) undef) (len * E), rfl, hlen, by simp [toValues], a4, by simp, ?_, hreps, flat_all (by rw [hlen]; simp [toValues]) hreps hflat⟩
    intro ad had j u hu
    cases had
    obtain ⟨hj, rfl⟩ := toValues_get? _ hu
    rw [add_eq]
    exact cell_row hw (by omega)
  | own0 a1 => exact ⟨none, 0, 0, [], rfl, by simp, by simp, by omega, fun _ => rfl, by simp, by simp, by simp⟩

section
variable {P : Program} {w : World}
theorem app_first {E n : Nat} {A : Option Addr} {cap : Nat} {news : List Value} (hl : news.length = n * E) (hA : A = none → n = 0) (hc : ∀ ad, A = some ad → ∀ j u, news[j]? = some u → w.cell? (ad.add j) = some u) :
    (Builtin.firstCells E n (.slice A n cap)).run P w = .ok news.toArray w := by
  cases A with
  | none =>
    obtain rfl := hA rfl
    have : news = [] := List.eq_nil_of_length_eq_zero (by simpa using hl)
    subst this
    rfl
  | some ad => exact run_firstCells_some (P := P) w E n ad n cap news hl (hc ad rfl)

theorem app_room {t ty e : TypeId} {i : TypeInfo} (ht : P.underlying t = some (.slice e)) (hi : P.info? e = some i) {ad : Addr} {sLen sCap m c : Nat} {A : Option Addr} {new : Array Value} {w' : World}
    (hf : (Builtin.firstCells i.size m (.slice A m c)).run P w = .ok new w) (hst : (storeCells (ad.add (sLen * i.size)) new.toList).run P w = .ok () w') (hroom : sLen + m ≤ sCap) :
    (Builtin.append_ #[t, t] ty #[.slice (some ad) sLen sCap, .slice A m c]).run P w = .ok (.slice (some ad) (sLen + m) sCap) w' := by
  simp [Builtin.append_, run_underlying ht, sizeOf, typeInfo, hi, Builtin.lenOf, hroom, hf, hst]

theorem app_none {t ty e : TypeId} {i : TypeInfo} (ht : P.underlying t = some (.slice e)) (hi : P.info? e = some i) {c : Nat} {A : Option Addr} {new : Array Value}
    (hf : (Builtin.firstCells i.size 0 (.slice A 0 c)).run P w = .ok new w) :
    (Builtin.append_ #[t, t] ty #[.slice none 0 0, .slice A 0 c]).run P w = .ok (.slice none 0 0) w := by
  simp [Builtin.append_, run_underlying ht, sizeOf, typeInfo, hi, Builtin.lenOf, hf]

theorem app_grow {t ty e : TypeId} {i : TypeInfo} {z : Value} (ht : P.underlying t = some (.slice e)) (hi : P.info? e = some i) (hz : i.zero = some z) {base : Option Addr} {sLen sCap m c : Nat} {A : Option Addr} {old new : Array Value}
    (hfo : (Builtin.firstCells i.size sLen (.slice base sLen sCap)).run P w.drew = .ok old w.drew) (hf : (Builtin.firstCells i.size m (.slice A m c)).run P w.drew = .ok new w.drew)
    (hg : sCap < sLen + m) (h63 : ((sLen + m : Nat) : Int) ≤ 9223372036854775807) (hfit : Builtin.nextslicecap (sLen + m) sCap * i.bytes ≤ 281474976710656) :
    ∃ rest cap', sLen + m ≤ cap' ∧ rest = Builtin.zeroCells z.cells (cap' - (sLen + m)) ∧ (Builtin.append_ #[t, t] ty #[.slice base sLen sCap, .slice A m c]).run P w = .ok (.slice (some ⟨w.heap.size, 0, none⟩) (sLen + m) cap') (w.drew.alloc (.cells (old ++ new ++ rest) e)) := by
  have hn : ¬ (sLen + m ≤ sCap) := by omega
  have h63' : ¬ (9223372036854775807 < ((sLen : Int) + (m : Int))) := by omega
  have h48' : ¬ (281474976710656 < Builtin.nextslicecap (sLen + m) sCap * i.bytes) := by omega
  refine ⟨_, grownCap w (sLen + m) sCap e, ?_, rfl, ?_⟩
  · unfold grownCap Question.cut
    simp only
    omega
  · simp [Builtin.append_, run_underlying ht, sizeOf, typeInfo, zeroValue, hi, hz, Builtin.lenOf, hn, h63', h48', Question.forced, hf, hfo, newRow, grownCap]
end

theorem step_drew (w : World) : Step (fun _ => False) w w.drew := step_drawn w _

/-- append onto a row of the call's own, or onto nothing. -/
theorem append_core {P : Program} {t ty e : TypeId} {i : TypeInfo} {z : Value} (ht : P.underlying t = some (.slice e)) (hi : P.info? e = some i) (hz : i.zero = some z) (hzs : z.cells.size = i.size)
    {C : Ctx} {env : Env} {fr : Nat → Option V} {hp : Nat → Option Row} {D : Nat → Prop} {a : Act} {w : World} (hs : Sim C env fr hp D a w) {h : Nat} {r : Row} (hr : hp h = some r) {X : Value} {len : Nat} (hX : Rep (Fd C env hp) w env D X (.own h 0 len i.size))
    (hlen : r.cells.length = len * i.size) (hT : r.T = e) {Y : Value} {new : List V} {m : Nat} (hm : new.length = m * i.size) (hpos : 0 < i.size) (hsrc : Src (Fd C env hp) env D w Y i.size new) (hlim : len + m ≤ 2 ^ 40) (hby : i.bytes ≤ 2 ^ 7) {n : Nat} (hn : ¬ D n) :
    ∃ (env' : Env) (w' : World) (x : Value), (Builtin.append_ #[t, t] ty #[X, Y]).run P w = .ok x w' ∧ Sim C env' fr (upd (upd hp h none) n (some ⟨e, r.cells ++ new⟩)) (fun k => D k ∨ k = n) a w' ∧
      Rep (Fd C env' (upd (upd hp h none) n (some ⟨e, r.cells ++ new⟩))) w' env' (fun k => D k ∨ k = n) x (.own n 0 (len + m) i.size) := by
  obtain ⟨A, m', capY, news, rfl, hnl, hnews, hm62, hA, hcells, hreps, hone⟩ := hsrc
  obtain rfl : m = m' := Nat.eq_of_mul_eq_mul_right hpos (hm.symm.trans hnl)
  have hcatlen : (r.cells ++ new).length = (len + m) * i.size := by rw [List.length_append, hlen, hm, Nat.add_mul]
  have hcat : ∀ k, (r.cells ++ new).getD k .junk = if k < r.cells.length then r.cells.getD k .junk else new.getD (k - r.cells.length) .junk := by
    intro k
    by_cases hk : k < r.cells.length
    · rw [if_pos hk, List.getD_eq_getElem?_getD, List.getElem?_append_left hk, ← List.getD_eq_getElem?_getD]
    · rw [if_neg hk, List.getD_eq_getElem?_getD, List.getElem?_append_right (by omega), ← List.getD_eq_getElem?_getD]
  have hfit : ∀ sCap, sCap < len + m → Builtin.nextslicecap (len + m) sCap * i.bytes ≤ 281474976710656 := fun sCap hlt => growslice_fits hlt (by
    have : (len + m) * i.bytes ≤ 2 ^ 40 * 2 ^ 7 := Nat.mul_le_mul hlim hby
    omega)
  -- a new row
  have grow : ∀ (base : Option Addr) (sCap : Nat) (old : Array Value), X = .slice base len sCap → sCap < len + m → (Builtin.firstCells i.size len (.slice base len sCap)).run P w.drew = .ok old w.drew → old.size = len * i.size →
      (∀ k, k < r.cells.length → Rep (Fd C env hp) w env D (old.getD k undef) (r.cells.getD k .junk)) →
      ∃ (env' : Env) (w' : World) (x : Value), (Builtin.append_ #[t, t] ty #[X, .slice A m capY]).run P w = .ok x w' ∧ Sim C env' fr (upd (upd hp h none) n (some ⟨e, r.cells ++ new⟩)) (fun k => D k ∨ k = n) a w' ∧
        Rep (Fd C env' (upd (upd hp h none) n (some ⟨e, r.cells ++ new⟩))) w' env' (fun k => D k ∨ k = n) x (.own n 0 (len + m) i.size) := by
    rintro base sCap old rfl hlt hfo hos hor
    have hfn := app_first (P := P) (w := w.drew) (E := i.size) (cap := capY) hnews hA (fun ad had j u hu => hcells ad had j u hu)
    obtain ⟨rest, cap', hcap, hrest, hrun⟩ := app_grow (P := P) (ty := ty) ht hi hz hfo hfn hlt (by omega) (hfit sCap hlt)
    have hsz : (old ++ news.toArray ++ rest).size = cap' * i.size := by
      rw [Array.size_append, Array.size_append, hos, hrest]
      simp only [List.size_toArray, hnews, Builtin.zeroCells, Array.size_map, Array.size_range, hzs]
      rw [← Nat.add_mul, ← Nat.add_mul]
      congr 1
      omega
    have hs1 := hs.world (step_drew w)
    have hget : ∀ k, k < (r.cells ++ new).length → Rep (Fd C env hp) w.drew env D ((old ++ news.toArray ++ rest).getD k undef) ((r.cells ++ new).getD k .junk) := by
      intro k hk
      rw [hcatlen, Nat.add_mul] at hk
      rw [hcat]
      by_cases hkl : k < r.cells.length
      · rw [if_pos hkl]
        have : (old ++ news.toArray ++ rest).getD k undef = old.getD k undef := by
          rw [Array.getD_eq_getD_getElem?, Array.getD_eq_getD_getElem?, Array.getElem?_append_left (by simp [hos, hnews]; omega), Array.getElem?_append_left (by omega)]
        rw [this]
        exact (hor k hkl).world (step_drew w)
      · rw [if_neg hkl]
        have : (old ++ news.toArray ++ rest).getD k undef = news.getD (k - r.cells.length) undef := by
          rw [Array.getD_eq_getD_getElem?, Array.getElem?_append_left (by simp [hos, hnews]; omega), Array.getElem?_append_right (by omega), hos, ← hlen, List.getD_eq_getElem?_getD, List.getElem?_toArray]
        rw [this]
        exact (hreps _ (by omega)).world (step_drew w)
    have hs2 := hs1.new (r := ⟨e, r.cells ++ new⟩) hn (c := old ++ news.toArray ++ rest) (by
      show (r.cells ++ new).length ≤ _
      rw [hcatlen, hsz]
      exact Nat.mul_le_mul_right _ hcap) hget
    have hs3 := hs2.drop h
    have hhn : h ≠ n := fun e => hn (e ▸ (hs.row h r hr).1)
    have hcomm : upd (upd hp n (some ⟨e, r.cells ++ new⟩)) h none = upd (upd hp h none) n (some ⟨e, r.cells ++ new⟩) := by
      funext k
      unfold upd
      by_cases e1 : k = h
      · subst e1; simp [hhn]
      · simp [e1]
    rw [hcomm] at hs3
    refine ⟨_, _, _, hrun, hs3, ?_⟩
    refine .own (.inr rfl) (upd_same ..) hcap (by omega) ⟨old ++ news.toArray ++ rest, e, (0, 0), (by show (w.drew.heap.push _)[w.drew.heap.size]? = _; rw [Array.getElem?_push_size]), by rw [hsz]; omega⟩
  cases hX with
  | own a1 a2 a3 a4 a5 =>
    rename_i cap blk
    obtain ⟨c, hw, hl, hc⟩ := good_loadRow hs hr a2
    by_cases hroom : len + m ≤ cap
    · obtain ⟨c2, T2, z2, hw2, hsz2⟩ := a5
      have hcc : c2 = c := by rw [hw] at hw2; cases hw2; rfl
      subst hcc
      have hfit2 : (len + m) * i.size ≤ c2.size := Nat.le_trans (Nat.mul_le_mul_right _ hroom) (by omega)
      rw [Nat.add_mul] at hfit2
      have hst := r_storeCells (P := P) news w c2 (len * i.size) 0 hw (by omega) hone
      rw [Nat.add_zero] at hst
      have hrun := app_room (P := P) (ty := ty) (c := capY) (sLen := len) (sCap := cap) (ad := ⟨blk, 0, none⟩) ht hi (app_first hnews hA hcells) (by rw [add_eq, Nat.zero_add]; exact hst) hroom
      have hs1 := hs.write (r' := ⟨r.T, r.cells ++ new⟩) hr a2 hw rfl (setRange_size news c2 (len * i.size)) rfl (by
        show (r.cells ++ new).length ≤ _
        rw [hcatlen, setRange_size, Nat.add_mul]
        exact hfit2) (by
        intro k hk
        have hk' : k < (len + m) * i.size := by rw [← hcatlen]; exact hk
        rw [Nat.add_mul] at hk'
        show Rep _ _ _ _ _ ((r.cells ++ new).getD k .junk)
        rw [hcat, setRange_get _ _ _ _ (by omega)]
        by_cases hkl : k < r.cells.length
        · rw [if_pos hkl, if_neg (by omega)]
          exact hc k hkl
        · rw [if_neg hkl, if_pos (by omega), show k - len * i.size = k - r.cells.length by omega]
          exact hreps _ (by omega))
      have hs2 := hs1.move (m := h) (n := n) (r := ⟨r.T, r.cells ++ new⟩) (by rw [upd_same]) hn
      have hcomm : upd (upd (upd hp h (some ⟨r.T, r.cells ++ new⟩)) h none) n (some ⟨r.T, r.cells ++ new⟩) = upd (upd hp h none) n (some ⟨e, r.cells ++ new⟩) := by
        subst hT
        funext k
        unfold upd
        by_cases e1 : k = h <;> simp [e1]
      rw [hcomm] at hs2
      refine ⟨_, _, _, hrun, hs2, ?_⟩
      refine .own (.inr rfl) (by rw [upd_same]; exact a2) hroom (by omega) ⟨_, r.T, (0, 0), putRow_heap _ _ (lt_of_heap hw), by rw [setRange_size]; omega⟩
    · refine grow _ cap ((Array.range (len * i.size)).map (fun k => c.getD k undef)) rfl (by omega) ?_ (by simp) ?_
      · show (Builtin.firstCells i.size len (.slice (some ⟨blk, 0, none⟩) len cap)).run P w.drew = _
        exact r_loadCells (P := P) (w := w.drew) (o := 0) (n := len * i.size) (y := fun k => c.getD k undef) (fun k hk => by
          rw [Nat.zero_add]
          exact cell_row (w := w.drew) (c := c) (T := r.T) (z := (0, 0)) hw (by omega))
      · intro k hk
        rw [range_map_getD _ (by omega)]
        exact hc k hk
  | own0 a1 =>
    by_cases hroom : m = 0
    · subst hroom
      have hnil : new = [] := List.eq_nil_of_length_eq_zero (by simpa using hm)
      subst hnil
      have hrun := app_none (P := P) (w := w) (ty := ty) (c := capY) ht hi (app_first hnews hA hcells)
      have hs2 := hs.move (m := h) (n := n) hr hn
      have hcomm : upd (upd hp h none) n (some r) = upd (upd hp h none) n (some ⟨e, r.cells ++ []⟩) := by
        subst hT
        rw [List.append_nil]
      rw [hcomm] at hs2
      exact ⟨_, _, _, hrun, hs2, .own0 (.inr rfl)⟩
    · refine grow none 0 #[] rfl (by omega) rfl (by simp) ?_
      intro k hk
      omega

/-- The new cells of an append's row, and how many elements come. -/
def appRow (L : Lay) (e : TypeId) (len : Nat) (new : List V) (m : Nat) (r : Row) : Option Row :=
  if r.cells.length = len * L.size ∧ r.T = e ∧ new.length = m * L.size ∧ new.all V.flat = true then some ⟨e, r.cells ++ new⟩ else none

def effAppend (P : Program) (t : TypeId) : List V → Option Eff
  | [x, y] => match P.underlying t with
    | some (.slice e) => match lay P e with
      | some L => if L.zero.length = L.size ∧ 0 < L.size ∧ L.bytes ≤ 2 ^ 7 then
          match x, y with
          | .nl, .nl => some (.val .nl)
          | .nl, .sl els => if els.length ≤ 2 ^ 40 ∧ ((els.getD 0 .junk).cells.length = L.size ∨ els = []) ∧ (flatCells els).length = els.length * L.size ∧ (flatCells els).all V.flat = true then some (.new ⟨e, flatCells els⟩ (fun n => .own n 0 els.length L.size)) else none
          | .nl, .own h2 off2 m E2 => if E2 = L.size ∧ m ≤ 2 ^ 40 then
              some (.new2 h2 (fun r2 => if off2 + m * L.size ≤ r2.cells.length ∧ ((r2.cells.drop off2).take (m * L.size)).all V.flat = true then some ⟨e, (r2.cells.drop off2).take (m * L.size)⟩ else none) (fun n => .own n 0 m L.size)) else none
          | .own h 0 len E, .nl => if E = L.size ∧ len ≤ 2 ^ 40 then some (.grow h (appRow L e len [] 0) (fun n => .own n 0 len L.size)) else none
          | .own h 0 len E, .sl els => if E = L.size ∧ len + els.length ≤ 2 ^ 40 ∧ ((els.getD 0 .junk).cells.length = L.size ∨ els = []) then some (.grow h (appRow L e len (flatCells els) els.length) (fun n => .own n 0 (len + els.length) L.size)) else none
          | .own h 0 len E, .own h2 off2 m E2 => if E = L.size ∧ E2 = L.size ∧ len + m ≤ 2 ^ 40 then
              some (.grow2 h h2 (fun r r2 => if off2 + m * L.size ≤ r2.cells.length then appRow L e len ((r2.cells.drop off2).take (m * L.size)) m r else none) (fun n => .own n 0 (len + m) L.size)) else none
          | _, _ => none
        else none
      | none => none
    | _ => none
  | _ => none

theorem src_nl {F : Nat → Prop} {env : Env} {D : Nat → Prop} {w : World} {E : Nat} : Src F env D w (.slice none 0 0) E [] :=
  ⟨none, 0, 0, [], rfl, by simp, by simp, by omega, fun _ => rfl, by simp, by simp, by simp⟩

/-- append onto nothing: a row of its own. -/
theorem append_nil {P : Program} {t ty e : TypeId} {i : TypeInfo} {z : Value} (ht : P.underlying t = some (.slice e)) (hi : P.info? e = some i) (hz : i.zero = some z) (hzs : z.cells.size = i.size)
    {C : Ctx} {env : Env} {fr : Nat → Option V} {hp : Nat → Option Row} {D : Nat → Prop} {a : Act} {w : World} (hs : Sim C env fr hp D a w) {Y : Value} {new : List V} {m : Nat} (hm : new.length = m * i.size) (hpos : 0 < i.size)
    (hsrc : Src (Fd C env hp) env D w Y i.size new) (hlim : m ≤ 2 ^ 40) (hby : i.bytes ≤ 2 ^ 7) {n : Nat} (hn : ¬ D n) :
    ∃ (env' : Env) (w' : World) (x : Value), (Builtin.append_ #[t, t] ty #[.slice none 0 0, Y]).run P w = .ok x w' ∧ Sim C env' fr (upd hp n (some ⟨e, new⟩)) (fun k => D k ∨ k = n) a w' ∧
      Rep (Fd C env' (upd hp n (some ⟨e, new⟩))) w' env' (fun k => D k ∨ k = n) x (.own n 0 m i.size) := by
  obtain ⟨A, m', capY, news, rfl, hnl, hnews, hm62, hA, hcells, hreps, hone⟩ := hsrc
  obtain rfl : m = m' := Nat.eq_of_mul_eq_mul_right hpos (hm.symm.trans hnl)
  by_cases h0 : m = 0
  · subst h0
    have hnil : new = [] := List.eq_nil_of_length_eq_zero (by simpa using hm)
    subst hnil
    have hrun := app_none (P := P) (w := w) (ty := ty) (c := capY) ht hi (app_first hnews hA hcells)
    exact ⟨_, _, _, hrun, hs.newVirtual hn e, .own0 (.inr rfl)⟩
  · have hfn := app_first (P := P) (w := w.drew) (E := i.size) (cap := capY) hnews hA (fun ad had j u hu => hcells ad had j u hu)
    obtain ⟨rest, cap', hcap, hrest, hrun⟩ := app_grow (P := P) (ty := ty) (base := none) (sLen := 0) (sCap := 0) (old := #[]) ht hi hz rfl hfn (by omega) (by omega) (growslice_fits (by omega) (by
      have : (0 + m) * i.bytes ≤ 2 ^ 40 * 2 ^ 7 := Nat.mul_le_mul (by omega) hby
      omega))
    rw [Nat.zero_add] at hcap hrest hrun
    have hsz : (#[] ++ news.toArray ++ rest).size = cap' * i.size := by
      rw [Array.size_append, Array.size_append, hrest]
      simp only [List.size_toArray, List.length_nil, hnews, Builtin.zeroCells, Array.size_map, Array.size_range, hzs, Nat.zero_add]
      rw [← Nat.add_mul]
      congr 1
      omega
    have hs1 := hs.world (step_drew w)
    have hs2 := hs1.new (r := ⟨e, new⟩) hn (c := #[] ++ news.toArray ++ rest) (by
      show new.length ≤ _
      rw [hm, hsz]
      exact Nat.mul_le_mul_right _ hcap) (by
      intro k hk
      have hk' : k < m * i.size := by rw [← hm]; exact hk
      have : (#[] ++ news.toArray ++ rest).getD k undef = news.getD k undef := by
        rw [Array.empty_append, Array.getD_eq_getD_getElem?, Array.getElem?_append_left (by simp [hnews]; omega), List.getD_eq_getElem?_getD, List.getElem?_toArray]
      rw [this]
      exact (hreps _ (by omega)).world (step_drew w))
    refine ⟨_, _, _, hrun, hs2, ?_⟩
    exact .own (.inr rfl) (upd_same ..) hcap (by omega) ⟨#[] ++ news.toArray ++ rest, e, (0, 0), (by show (w.drew.heap.push _)[w.drew.heap.size]? = _; rw [Array.getElem?_push_size]), by rw [hsz]; omega⟩

theorem run_append_op {P : Program} {w w' : World} {a : Act} {t ty : TypeId} {x y : Operand} {z : Value} (h : (Builtin.append_ #[t, t] ty #[a.eval x, a.eval y]).run P w = .ok z w') :
    (execOp a.eval ⟨none, .call ⟨.builtin .append, #[x, y], #[t, t]⟩, ty, "", #[], none⟩).run P w = .ok (.value z) w' := by
  have : (execOp a.eval ⟨none, .call ⟨.builtin .append, #[x, y], #[t, t]⟩, ty, "", #[], none⟩) = (do pure (Next.value (← Builtin.append_ #[t, t] ty #[a.eval x, a.eval y])) : Sem Next) := by
    simp only [execOp, resolve, invoke, builtin, List.map_toArray, List.map_cons, List.map_nil]
    rfl
  rw [this]
  exact run_value h

theorem good_append {P : Program} {t ty : TypeId} {x y : Operand} {vs : List V} {e : Eff} (h : effAppend P t vs = some e) : Good P (.call ⟨.builtin .append, #[x, y], #[t, t]⟩) ty vs e := by
  unfold effAppend at h
  split at h
  · rename_i u v
    split at h
    · rename_i el hu
      split at h
      · rename_i L hL
        split at h
        · rename_i hcond
          obtain ⟨hz1, hpos, hby⟩ := hcond
          obtain ⟨i, d, z, hi, hd, hz, rfl⟩ := lay_inv hL
          simp only at hz1 hpos hby h
          have hzs : z.cells.size = i.size := by simpa using hz1
          have ops : ∀ {C : Ctx} {env : Env} {hp : Nat → Option Row} {D : Nat → Prop} {a : Act} {w : World}, Vals C env hp D a w (.call ⟨.builtin .append, #[x, y], #[t, t]⟩) [u, v] → Rep (Fd C env hp) w env D (a.eval x) u ∧ Rep (Fd C env hp) w env D (a.eval y) v :=
            fun hv => ⟨hv.2 0 (by simp), hv.2 1 (by simp)⟩
          split at h
          · cases h
            refine Good.pure fun F env D a w hl hr => ?_
            have h0 : Rep F w env D (a.eval x) .nl := hr 0 (by simp)
            have h1 : Rep F w env D (a.eval y) .nl := hr 1 (by simp)
            refine ⟨.slice none 0 0, run_append_op ?_, .nl⟩
            generalize a.eval x = X at h0
            generalize a.eval y = Y at h1
            cases h0
            cases h1
            exact app_none hu hi (app_first (news := []) (by simp) (fun _ => rfl) (by simp))
          · rename_i els
            split at h
            · rename_i hc
              obtain ⟨c1, c2, c3, c4⟩ := hc
              cases h
              intro C env fr hp D a w hs hv n hn v' hp' used he
              simp only [Eff.run, Option.some.injEq, Prod.mk.injEq] at he
              obtain ⟨rfl, rfl, rfl⟩ := he
              obtain ⟨h0, h1⟩ := ops hv
              generalize hX : a.eval x = X at h0
              cases h0
              obtain ⟨env', w', z', hrun, hs', hr'⟩ := append_nil (P := P) (ty := ty) (m := els.length) hu hi hz hzs hs c3 hpos (src_sl h1 c2 c4) c1 hby hn
              rw [dd_true]
              exact ⟨env', w', _, z', run_append_op (by rw [hX]; exact hrun), hs', hr', .inl rfl⟩
            · cases h
          · rename_i h2 off2 m E2
            split at h
            · rename_i hc
              obtain ⟨rfl, c1⟩ := hc
              cases h
              intro C env fr hp D a w hs hv n hn v' hp' used he
              simp only [Eff.run] at he
              split at he
              · rename_i r2 hr2
                split at he
                · rename_i r' hk
                  cases he
                  split at hk
                  · rename_i hc2
                    obtain ⟨c2, c3⟩ := hc2
                    cases hk
                    obtain ⟨h0, h1⟩ := ops hv
                    generalize hX : a.eval x = X at h0
                    cases h0
                    obtain ⟨env', w', z', hrun, hs', hr'⟩ := append_nil (P := P) (ty := ty) (m := m) hu hi hz hzs hs (by simp; omega) hpos (src_own hs h1 hr2 c2 c3) c1 hby hn
                    rw [dd_true]
                    exact ⟨env', w', _, z', run_append_op (by rw [hX]; exact hrun), hs', hr', .inl rfl⟩
                  · cases hk
                · cases he
              · cases he
            · cases h
          · rename_i h1 len E
            split at h
            · rename_i hc
              obtain ⟨rfl, c1⟩ := hc
              cases h
              intro C env fr hp D a w hs hv n hn v' hp' used he
              simp only [Eff.run] at he
              split at he
              · rename_i r hr
                split at he
                · rename_i r' hk
                  cases he
                  unfold appRow at hk
                  split at hk
                  · rename_i hc2
                    obtain ⟨c2, c3, c4, c5⟩ := hc2
                    cases hk
                    obtain ⟨h0, h1'⟩ := ops hv
                    generalize hY : a.eval y = Y at h1'
                    cases h1'
                    obtain ⟨env', w', z', hrun, hs', hr'⟩ := append_core (P := P) (ty := ty) (m := 0) hu hi hz hzs hs hr h0 c2 c3 c4 hpos src_nl (by omega) hby hn
                    rw [dd_true]
                    exact ⟨env', w', _, z', run_append_op (by rw [hY]; exact hrun), hs', hr', .inl rfl⟩
                  · cases hk
                · cases he
              · cases he
            · cases h
          · rename_i h1 len E els
            split at h
            · rename_i hc
              obtain ⟨rfl, c1, c6⟩ := hc
              cases h
              intro C env fr hp D a w hs hv n hn v' hp' used he
              simp only [Eff.run] at he
              split at he
              · rename_i r hr
                split at he
                · rename_i r' hk
                  cases he
                  unfold appRow at hk
                  split at hk
                  · rename_i hc2
                    obtain ⟨c2, c3, c4, c5⟩ := hc2
                    cases hk
                    obtain ⟨h0, h1'⟩ := ops hv
                    obtain ⟨env', w', z', hrun, hs', hr'⟩ := append_core (P := P) (ty := ty) (m := els.length) hu hi hz hzs hs hr h0 c2 c3 c4 hpos (src_sl h1' c6 c5) c1 hby hn
                    rw [dd_true]
                    exact ⟨env', w', _, z', run_append_op hrun, hs', hr', .inl rfl⟩
                  · cases hk
                · cases he
              · cases he
            · cases h
          · rename_i h1 len E h2 off2 m E2
            split at h
            · rename_i hc
              obtain ⟨rfl, rfl, c1⟩ := hc
              cases h
              intro C env fr hp D a w hs hv n hn v' hp' used he
              simp only [Eff.run] at he
              split at he
              · rename_i r r2 hr hr2
                split at he
                · rename_i r' hk
                  cases he
                  split at hk
                  · rename_i hle
                    unfold appRow at hk
                    split at hk
                    · rename_i hc2
                      obtain ⟨c2, c3, c4, c5⟩ := hc2
                      cases hk
                      obtain ⟨h0, h1'⟩ := ops hv
                      obtain ⟨env', w', z', hrun, hs', hr'⟩ := append_core (P := P) (ty := ty) (m := m) hu hi hz hzs hs hr h0 c2 c3 c4 hpos (src_own hs h1' hr2 hle c5) c1 hby hn
                      rw [dd_true]
                      exact ⟨env', w', _, z', run_append_op hrun, hs', hr', .inl rfl⟩
                    · cases hk
                  · cases hk
                · cases he
              · cases he
            · cases h
          · cases h
        · cases h
      · cases h
    · cases h
  · cases h

end Go.Proofs.Ytepkjfnffbdcoaa.Lift

/- The remaining operations, names that are changed, slices that are given away, calls by contract. -/
set_option linter.unusedVariables false
set_option linter.unusedSimpArgs false
namespace Go.Proofs.Ytepkjfnffbdcoaa.Lift
open Go

/-! ### Bytes to a string, min and max -/
def numsOf (k : IntKind) : List V → Option (List Int)
  | [] => some []
  | .i k' n :: r => if k' = k then (match numsOf k r with
    | some l => some (n :: l)
    | none => none) else none
  | _ => none
theorem numsOf_map (k : IntKind) (l : List Int) : numsOf k (l.map (V.i k)) = some l := by
  induction l with
  | nil => rfl
  | cons n l ih => simp [numsOf, ih]
theorem numsOf_inv {k : IntKind} : ∀ {cs : List V} {l : List Int}, numsOf k cs = some l → cs = l.map (V.i k) := by
  intro cs
  induction cs with
  | nil => intro l h; simp [numsOf] at h; subst h; rfl
  | cons c cs ih =>
    intro l h
    unfold numsOf at h
    split at h
    · rename_i he; cases he
    · rename_i k' n r he
      cases he
      split at h
      · rename_i hk
        subst hk
        split at h
        · rename_i l' hl
          cases h
          rw [ih hl]
          rfl
        · cases h
      · cases h
    · cases h

theorem flatCells_i (k : IntKind) (l : List Int) : flatCells (l.map (V.i k)) = l.map (V.i k) := by
  induction l with
  | nil => rfl
  | cons n l ih => simp only [List.map_cons, flatCells, List.flatMap_cons, V.cells] at ih ⊢; rw [ih]; rfl

def strOf (ns : List Int) : ByteArray := ⟨(ns.map fun n => UInt8.ofNat n.toNat).toArray⟩
theorem fold_strOf (ns : List Int) : ∀ s : ByteArray, ns.foldl (fun r n => r.push (UInt8.ofNat n.toNat)) s = ⟨s.data ++ (ns.map fun n => UInt8.ofNat n.toNat).toArray⟩ := by
  induction ns with
  | nil => intro s; simp
  | cons n ns ih =>
    intro s
    simp only [List.foldl_cons, ih, List.map_cons]
    congr 1
    simp [ByteArray.push]

/-- Bytes to a string: of slices of bytes alone. -/
def effConvB (P : Program) (s d : TypeId) : List V → Option Eff
  | [.sl els] => match P.underlying s, P.underlying d with
    | some (.slice e), some .string => match P.underlying e, numsOf .u8 els with
      | some (.int .u8), some l => if l.length < 2 ^ 62 then some (.val (.s (strOf l))) else none
      | _, _ => none
    | _, _ => none
  | [.own h off len E] => match P.underlying s, P.underlying d with
    | some (.slice e), some .string => match P.underlying e with
      | some (.int .u8) => if E = 1 ∧ len < 2 ^ 62 then some (.rd h fun r => if off + len ≤ r.cells.length then (match numsOf .u8 ((r.cells.drop off).take len) with
        | some l => some (.s (strOf l))
        | none => none) else none) else none
      | _ => none
    | _, _ => none
  | [.nl] => match P.underlying s, P.underlying d with
    | some (.slice e), some .string => match P.underlying e with
      | some (.int .u8) => some (.val (.s (strOf [])))
      | _ => none
    | _, _ => none
  | vs => effConv P s d vs

theorem run_b2s {P : Program} {w : World} {s d e : TypeId} (hs : P.underlying s = some (.slice e)) (hd : P.underlying d = some .string) (he : P.underlying e = some (.int .u8)) {A : Option Addr} {len cap : Nat} {l : List Int} (hl : l.length = len)
    (hA : A = none → len = 0) (hc : ∀ ad, A = some ad → ∀ j, j < len → w.cell? (ad.add j) = some (.int .u8 (l.getD j 0))) : (convert s d (.slice A len cap)).run P w = .ok (.string (strOf l)) w := by
  rw [run_convert_bytes_string w s d e A len cap hs he hd]
  cases A with
  | none =>
    obtain rfl := hA rfl
    have : l = [] := List.eq_nil_of_length_eq_zero hl
    subst this
    rfl
  | some ad =>
    rw [run_bytesToString w ad len cap l, fold_strOf]
    · simp [strOf]
    · have := run_loadCells (P := P) (w := w) ad len (fun j => .int .u8 (l.getD j 0)) (fun j hj => hc ad rfl j hj)
      rw [this]
      congr 1
      apply Array.ext'
      simp only [List.toList_toArray]
      apply List.ext_getElem
      · simp [hl]
      · intro j h1 h2
        simp at h1 h2
        simp [List.getD_eq_getElem?_getD, h2]

theorem strOf_size (l : List Int) : (strOf l).size = l.length := by simp [strOf, ByteArray.size]

theorem good_convB {P : Program} {s d ty : TypeId} {x : Operand} {vs : List V} {e : Eff} (h : effConvB P s d vs = some e) : Good P (.convert s d x) ty vs e := by
  unfold effConvB at h
  split at h
  · rename_i els
    split at h
    · rename_i el hs hd
      split at h
      · rename_i l he hl
        split at h
        · rename_i hlen
          cases h
          refine Good.pure fun F env D a w hlen hr => ?_
          have h0 : Rep F w env D (a.eval x) (.sl els) := hr 0 (by simp)
          have hels := numsOf_inv hl
          subst hels
          have hsrc := src_sl (E := 1) h0 (by cases l <;> simp [V.cells]) (by simp [flatCells, List.all_flatMap, V.cells, V.flat])
          have hfc := flatCells_i .u8 l
          rw [hfc] at hsrc
          obtain ⟨A, n, cap, news, hX, hnl, hnews, hn62, hA, hcells, hreps, hone⟩ := hsrc
          simp at hnl
          refine ⟨.string (strOf l), ?_, .s (by rw [strOf_size]; assumption)⟩
          simp only [execOp, hX]
          refine run_value (run_b2s hs hd he hnl hA fun ad had j hj => ?_)
          have hrj := hreps j (by simp; omega)
          have e5 : (l.map (V.i .u8)).getD j .junk = V.i .u8 (l.getD j 0) := by
            rw [List.getD_eq_getElem?_getD, List.getElem?_map, List.getElem?_eq_getElem (by omega), List.getD_eq_getElem?_getD, List.getElem?_eq_getElem (by omega)]
            rfl
          rw [e5] at hrj
          have := hrj.int_inv.1
          refine hcells ad had j _ ?_
          rw [List.getD_eq_getElem?_getD] at this
          rw [List.getElem?_eq_getElem (by omega)] at this ⊢
          simp only [Option.getD_some] at this
          rw [this]
        · cases h
      · cases h
    · cases h
  · rename_i n off len E
    split at h
    · rename_i el hs hd
      split at h
      · rename_i he
        split at h
        · rename_i hc
          obtain ⟨rfl, hlen⟩ := hc
          cases h
          intro C env fr hp D a w hsim hv m hm v' hp' used hrun
          simp only [Eff.run] at hrun
          split at hrun
          · rename_i r hr
            split at hrun
            · rename_i u hu
              cases hrun
              split at hu
              · rename_i hle
                split at hu
                · rename_i l hl
                  cases hu
                  have h0 : Rep (Fd C env hp) w env D (a.eval x) (.own n off len 1) := hv.2 0 (by simp)
                  have hcs := numsOf_inv hl
                  have hll : l.length = len := by
                    have := congrArg List.length hcs
                    simp at this
                    omega
                  rw [dd_false]
                  generalize hX : a.eval x = X at h0
                  have key : (convert s d X).run P w = .ok (.string (strOf l)) w := by
                    cases h0 with
                    | own a1 a2 a3 a4 a5 =>
                      obtain ⟨c, hw, hl2, hc⟩ := good_loadRow hsim hr a2
                      refine run_b2s hs hd he hll (by simp) fun ad had j hj => ?_
                      cases had
                      rw [add_eq, cell_row hw (by omega)]
                      have hrj := hc (off + j) (by omega)
                      have e2 : r.cells.getD (off + j) .junk = V.i .u8 (l.getD j 0) := by
                        have : ((r.cells.drop off).take len).getD j .junk = r.cells.getD (off + j) .junk := by
                          simp [List.getD_eq_getElem?_getD, List.getElem?_take, hj]
                        rw [← this, hcs, List.getD_eq_getElem?_getD, List.getElem?_map, List.getElem?_eq_getElem (by omega), List.getD_eq_getElem?_getD, List.getElem?_eq_getElem (by omega)]
                        rfl
                      rw [e2] at hrj
                      rw [hrj.int_inv.1]
                    | own0 a1 => exact run_b2s hs hd he hll (fun _ => rfl) (by simp)
                  refine ⟨env, w, _, .string (strOf l), ?_, hsim, .s (by rw [strOf_size]; omega), .inl rfl⟩
                  simp only [execOp, hX]
                  exact run_value key
                · cases hu
              · cases hu
            · cases hrun
          · cases hrun
        · cases h
      · cases h
    · cases h
  · split at h
    · rename_i el hs hd
      split at h
      · rename_i he
        cases h
        refine Good.pure fun F env D a w hlen hr => ?_
        have h0 : Rep F w env D (a.eval x) .nl := hr 0 (by simp)
        generalize hX : a.eval x = X at h0
        cases h0
        refine ⟨.string (strOf []), ?_, .s (by rw [strOf_size]; simp)⟩
        simp only [execOp, hX]
        exact run_value (run_b2s hs hd he rfl (fun _ => rfl) (by simp))
      · cases h
    · cases h
  · exact good_conv h

def effMin : List V → Option Eff
  | [.i k x, .i _ y] => some (.val (.i k (if y < x then y else x)))
  | _ => none

theorem good_min {P : Program} {ats : Array TypeId} {ty : TypeId} {x y : Operand} {vs : List V} {e : Eff} (h : effMin vs = some e) (hk : ∀ k m k' n, vs = [.i k m, .i k' n] → k = k') : Good P (.call ⟨.builtin .min, #[x, y], ats⟩) ty vs e := by
  unfold effMin at h
  split at h
  · rename_i k m k' n
    obtain rfl := hk _ _ _ _ rfl
    cases h
    refine Good.pure fun F env D a w hlen hr => ?_
    obtain ⟨e0, r0⟩ := (show Rep F w env D (a.eval x) (.i k m) from hr 0 (by simp)).int_inv
    obtain ⟨e1, r1⟩ := (show Rep F w env D (a.eval y) (.i k n) from hr 1 (by simp)).int_inv
    refine ⟨.int k (if n < m then n else m), ?_, .i (by split <;> assumption)⟩
    have : (execOp a.eval ⟨none, .call ⟨.builtin .min, #[x, y], ats⟩, ty, "", #[], none⟩) = (do pure (Next.value (← Builtin.min_ ats ty #[a.eval x, a.eval y])) : Sem Next) := by
      simp only [execOp, resolve, invoke, builtin, List.map_toArray, List.map_cons, List.map_nil]
      rfl
    rw [this, e0, e1]
    exact run_value rfl
  · cases h

/-! ### All operations but calls -/
def effCall (P : Program) (c : Call) (vs : List V) : Option Eff :=
  match c.callee, c.args, c.argTypes with
  | .builtin .len, ⟨[_]⟩, ⟨[t]⟩ => effLen P t vs
  | .builtin .append, ⟨[_, _]⟩, ⟨[t, t']⟩ => if t = t' then effAppend P t vs else none
  | .builtin .min, ⟨[_, _]⟩, _ => match vs with
    | [.i k x, .i k' y] => if k = k' then effMin vs else none
    | _ => none
  | _, _, _ => none

def eff (P : Program) (op : Op) (vs : List V) : Option Eff :=
  match op with
  | .move _ => effMove vs
  | .assign _ => effMove vs
  | .pick _ _ _ => effPick vs
  | .alloc t => effAlloc P t vs
  | .box t _ => effBox t vs
  | .build t parts => effBuild P t (parts.toList.map (·.1)) vs
  | .buildSlice t n parts => effBuildSlice P t n (parts.toList.map (·.1)) vs
  | .load t _ => effLoad P t vs
  | .store t _ _ => effStore P t vs
  | .binOp op xt _ _ _ => effBin P op xt vs
  | .unOp op _ _ => effUn op vs
  | .convert s d _ => effConvB P s d vs
  | .makeFunc fn first _ => effMakeFunc fn first.size vs
  | .makeSlice t _ _ => effMakeSlice P t vs
  | .slice t _ lo hi mx => effSlice P t lo.isSome hi.isSome mx.isSome vs
  | .fieldAddr t _ f => effFieldAddr P t f vs
  | .field t _ f => effField P t f vs
  | .indexAddr t _ _ => effIndexAddr P t vs
  | .index t _ _ => effIndex P t vs
  | .extract _ ix => effExtract ix vs
  | .call c => effCall P c vs
  | _ => none

theorem good_eff {P : Program} {op : Op} {ty : TypeId} {vs : List V} {e : Eff} (h : eff P op vs = some e) : Good P op ty vs e := by
  unfold eff at h
  split at h
  · exact good_move h
  · exact good_assign h
  · exact good_pick h
  · exact good_alloc h
  · exact good_box h
  · exact good_build h
  · exact good_buildSlice h
  · exact good_load h
  · exact good_store h
  · exact good_bin h
  · exact good_un h
  · exact good_convB h
  · exact good_makeFunc h
  · exact good_makeSlice h
  · exact good_slice h
  · exact good_fieldAddr h
  · exact good_field h
  · exact good_indexAddr h
  · exact good_index h
  · exact good_extract h
  · rename_i c
    obtain ⟨callee, args, ats⟩ := c
    unfold effCall at h
    split at h
    · rename_i h1 h2 h3
      simp only at h1 h2 h3
      subst h1 h2 h3
      exact good_len (by simp) h
    · rename_i h1 h2 h3
      simp only at h1 h2 h3
      subst h1 h2 h3
      split at h
      · rename_i ht
        subst ht
        exact good_append h
      · cases h
    · rename_i h1 h2
      simp only at h1 h2
      subst h1 h2
      split at h
      · split at h
        · rename_i hk
          exact good_min h (fun k m k' n he => by cases he; exact hk)
        · cases h
      · cases h
    · cases h
  · cases h

/-! ### Names -/
mutual
def V.ren (f : Nat → Nat) : V → V
  | .ptr h off => .ptr (f h) off
  | .own h off len E => .own (f h) off len E
  | .agg cs => .agg (V.renL f cs)
  | .tup cs => .tup (V.renL f cs)
  | .fn g cs => .fn g (V.renL f cs)
  | v => v
def V.renL (f : Nat → Nat) : List V → List V
  | [] => []
  | v :: vs => V.ren f v :: V.renL f vs
end
mutual
/-- No name stands in it. -/
def V.hf : V → Bool
  | .ptr _ _ => false
  | .own _ _ _ _ => false
  | .agg cs => V.hfL cs
  | .tup cs => V.hfL cs
  | .fn _ cs => V.hfL cs
  | _ => true
def V.hfL : List V → Bool
  | [] => true
  | v :: vs => V.hf v && V.hfL vs
end

theorem renL_length (f : Nat → Nat) (l : List V) : (V.renL f l).length = l.length := by
  induction l with
  | nil => rfl
  | cons v l ih => simp [V.renL, ih]
theorem renL_getD (f : Nat → Nat) (l : List V) : ∀ k, (V.renL f l).getD k .junk = (l.getD k .junk).ren f := by
  induction l with
  | nil => intro k; simp [V.renL, V.ren]
  | cons v l ih =>
    intro k
    cases k with
    | zero => rfl
    | succ k => exact ih k
theorem hfL_getD {l : List V} (h : V.hfL l = true) : ∀ k, (l.getD k .junk).hf = true := by
  induction l with
  | nil => intro k; simp [V.hf]
  | cons v l ih =>
    rw [V.hfL, Bool.and_eq_true] at h
    intro k
    cases k with
    | zero => exact h.1
    | succ k => exact ih h.2 k

theorem Rep.ren {F : Nat → Prop} {w : World} {env : Env} {D : Nat → Prop} {x : Value} {v : V} (h : Rep F w env D x v) : ∀ {env' : Env} {D' : Nat → Prop} (f : Nat → Nat), (∀ n, D n → D' (f n) ∧ env' (f n) = env n) → Rep F w env' D' x (v.ren f) := by
  induction h with
  | junk => intros; simp only [V.ren]; exact .junk
  | b => intros; simp only [V.ren]; exact .b
  | i hk => intros; simp only [V.ren]; exact .i hk
  | s hs => intros; simp only [V.ren]; exact .s hs
  | nl => intros; simp only [V.ren]; exact .nl
  | sl0 => intros; simp only [V.ren]; exact .sl0
  | sl y hne hc hl hF hb hE hy hr ih => intros; simp only [V.ren]; exact .sl y hne hc hl hF hb hE hy hr
  | agg hs hr ih =>
    intro env' D' f hf
    simp only [V.ren]
    refine .agg (by rw [renL_length]; exact hs) fun k hk => ?_
    rw [renL_length] at hk
    rw [renL_getD]
    exact ih k hk f hf
  | tup hs hr ih =>
    intro env' D' f hf
    simp only [V.ren]
    refine .tup (by rw [renL_length]; exact hs) fun k hk => ?_
    rw [renL_length] at hk
    rw [renL_getD]
    exact ih k hk f hf
  | ptr hD he =>
    intro env' D' f hf
    simp only [V.ren]
    exact .ptr (hf _ hD).1 ((hf _ hD).2.trans he)
  | rp y hF hb hy hr ih => intros; simp only [V.ren]; exact .rp y hF hb hy hr
  | own hD he hc hl hs =>
    intro env' D' f hf
    simp only [V.ren]
    exact .own (hf _ hD).1 ((hf _ hD).2.trans he) hc hl hs
  | own0 hD =>
    intro env' D' f hf
    simp only [V.ren]
    exact .own0 (hf _ hD).1
  | fn hs hr ih =>
    intro env' D' f hf
    simp only [V.ren]
    refine .fn (by rw [renL_length]; exact hs) fun k hk => ?_
    rw [renL_length] at hk
    rw [renL_getD]
    exact ih k hk f hf

/-- What names nothing reads the same whatever the names. -/
theorem Rep.hf {F : Nat → Prop} {w : World} {env : Env} {D : Nat → Prop} {x : Value} {v : V} (h : Rep F w env D x v) : v.hf = true → ∀ {env' : Env} {D' : Nat → Prop}, Rep F w env' D' x v := by
  induction h with
  | junk => intros; exact .junk
  | b => intros; exact .b
  | i hk => intros; exact .i hk
  | s hs => intros; exact .s hs
  | nl => intros; exact .nl
  | sl0 => intros; exact .sl0
  | sl y hne hc hl hF hb hE hy hr ih => intros; exact .sl y hne hc hl hF hb hE hy hr
  | agg hs hr ih => intro hv env' D'; rw [V.hf] at hv; exact .agg hs fun k hk => ih k hk (hfL_getD hv k)
  | tup hs hr ih => intro hv env' D'; rw [V.hf] at hv; exact .tup hs fun k hk => ih k hk (hfL_getD hv k)
  | ptr hD he => intro hv; simp [V.hf] at hv
  | rp y hF hb hy hr ih => intros; exact .rp y hF hb hy hr
  | own hD he hc hl hs => intro hv; simp [V.hf] at hv
  | own0 hD => intro hv; simp [V.hf] at hv
  | fn hs hr ih => intro hv env' D'; rw [V.hf] at hv; exact .fn hs fun k hk => ih k hk (hfL_getD hv k)

end Go.Proofs.Ytepkjfnffbdcoaa.Lift
