/- The operations that only compute: their effects, and that the model's runs come to them. -/
import Derived.Test.YtlhobedecoeohaaLift2
set_option linter.unusedVariables false
set_option linter.unusedSimpArgs false
namespace Go.Proofs.Ytlhobedecoeohaa.Lift
open Go

theorem wrap_range (k : IntKind) (n : Int) : k.min ≤ k.wrap n ∧ k.wrap n ≤ k.max := by
  cases k <;> simp [IntKind.wrap, IntKind.min, IntKind.max, IntKind.bits, IntKind.signed] <;> (try split) <;> omega

theorem tmod_range {k : IntKind} {x y : Int} (h : k.min ≤ x ∧ x ≤ k.max) : k.min ≤ x.tmod y ∧ x.tmod y ≤ k.max := by
  have h0 : k.min ≤ 0 ∧ 0 ≤ k.max := by cases k <;> simp [IntKind.min, IntKind.max, IntKind.bits, IntKind.signed]
  have ha : (x.tmod y).natAbs ≤ x.natAbs := by rw [Int.natAbs_tmod]; exact Nat.mod_le _ _
  by_cases hx : x < 0
  · have : x.tmod y ≤ 0 := by
      have h1 : (-x).tmod y = -(x.tmod y) := Int.neg_tmod ..
      have h2 : 0 ≤ (-x).tmod y := Int.tmod_nonneg _ (by omega)
      omega
    omega
  · have : 0 ≤ x.tmod y := Int.tmod_nonneg _ (by omega)
    omega

theorem fdiv_range {k : IntKind} {x : Int} (n : Nat) (h : k.min ≤ x ∧ x ≤ k.max) : k.min ≤ x.fdiv (2 ^ n) ∧ x.fdiv (2 ^ n) ≤ k.max := by
  have h0 : k.min ≤ 0 ∧ 0 ≤ k.max := by cases k <;> simp [IntKind.min, IntKind.max, IntKind.bits, IntKind.signed]
  have hp : (1 : Int) ≤ 2 ^ n := by have := Nat.two_pow_pos n; exact_mod_cast this
  rw [Int.fdiv_eq_ediv_of_nonneg _ (by omega)]
  by_cases hx : x < 0
  · have h1 : x / 2 ^ n < 0 := Int.ediv_neg_of_neg_of_pos hx (by omega)
    have h2 : x ≤ x / 2 ^ n := by
      rw [Int.le_ediv_iff_mul_le (by omega)]
      have : x * 2 ^ n ≤ x * 1 := Int.mul_le_mul_of_nonpos_left (by omega) hp
      omega
    omega
  · have h1 : 0 ≤ x / 2 ^ n := Int.ediv_nonneg (by omega) (by omega)
    have h2 : x / 2 ^ n ≤ x := Int.ediv_le_self _ (by omega)
    omega

section
variable {P : Program} {w w' : World}
theorem run_value {s : Sem Value} {x : Value} (h : s.run P w = .ok x w') : (do pure (Next.value (← s)) : Sem Next).run P w = .ok (.value x) w' := by
  simp only [Sem.run_bind, h, Result.andThen_ok]
  rfl
theorem run_skip {s : Sem Unit} (h : s.run P w = .ok () w') : (do s; pure Next.skip : Sem Next).run P w = .ok .skip w' := by
  simp only [Sem.run_bind, h, Result.andThen_ok]
  rfl
end

/-! ### move, assign, pick -/
def effMove : List V → Option Eff
  | [v] => some (.val v)
  | _ => none

theorem good_move {P : Program} {x : Operand} {ty : TypeId} {vs : List V} {e : Eff} (h : effMove vs = some e) : Good P (.move x) ty vs e := by
  unfold effMove at h
  split at h
  · cases h
    exact Good.pure fun F env D a w hl hr => ⟨_, rfl, hr 0 (by simp)⟩
  · cases h
theorem good_assign {P : Program} {x : Operand} {ty : TypeId} {vs : List V} {e : Eff} (h : effMove vs = some e) : Good P (.assign x) ty vs e := by
  unfold effMove at h
  split at h
  · cases h
    exact Good.pure fun F env D a w hl hr => ⟨_, rfl, hr 0 (by simp)⟩
  · cases h

def effPick : List V → Option Eff
  | [.b c, u, v] => some (.val (if c = true then u else v))
  | _ => none
theorem good_pick {P : Program} {x y z : Operand} {ty : TypeId} {vs : List V} {e : Eff} (h : effPick vs = some e) : Good P (.pick x y z) ty vs e := by
  unfold effPick at h
  split at h
  · rename_i c u v
    cases h
    refine Good.pure fun F env D a w hl hr => ?_
    have h0 := (hr 0 (by simp)).b_inv
    simp only [Op.operands] at h0
    have h0' : a.eval x = .bool c := h0
    refine ⟨if c = true then a.eval y else a.eval z, ?_, ?_⟩
    · simp only [execOp, Sem.run_bind, h0', asBool]
      rfl
    · cases c
      · exact hr 2 (by simp)
      · exact hr 1 (by simp)
  · cases h

/-! ### Binary operators -/
def orI (k : IntKind) (a b : Int) : Int := ((BitVec.ofInt k.bits a ||| BitVec.ofInt k.bits b).toNat)
def andI (k : IntKind) (a b : Int) : Int := ((BitVec.ofInt k.bits a &&& BitVec.ofInt k.bits b).toNat)
def xorI (k : IntKind) (a b : Int) : Int := ((BitVec.ofInt k.bits a ^^^ BitVec.ofInt k.bits b).toNat)
def binInt (op : BinOp) (k : IntKind) (a b : Int) : Option V :=
  match op with
  | .add => some (.i k (k.wrap (a + b)))
  | .sub => some (.i k (k.wrap (a - b)))
  | .mul => some (.i k (k.wrap (a * b)))
  | .quo => if b = 0 then none else some (.i k (k.wrap (a.tdiv b)))
  | .rem => if b = 0 then none else some (.i k (a.tmod b))
  | .and => some (.i k (k.wrap (andI k a b)))
  | .or => some (.i k (k.wrap (orI k a b)))
  | .xor => some (.i k (k.wrap (xorI k a b)))
  | .eql => some (.b (decide (a = b)))
  | .neq => some (.b (!decide (a = b)))
  | .lss => some (.b (decide (a < b)))
  | .leq => some (.b (decide (a ≤ b)))
  | .gtr => some (.b (decide (b < a)))
  | .geq => some (.b (decide (b ≤ a)))
  | _ => none

def binStr (op : BinOp) (x y : ByteArray) : Option V :=
  match op with
  | .add => if x.size + y.size < 2 ^ 62 then some (.s (x ++ y)) else none
  | .eql => some (.b (x.toList == y.toList))
  | .neq => some (.b (!(x.toList == y.toList)))
  | _ => none

def binBool (op : BinOp) (x y : Bool) : Option V :=
  match op with
  | .eql => some (.b (x == y))
  | .neq => some (.b (!(x == y)))
  | _ => none

def binNil (op : BinOp) (c : Bool) : Option V :=
  match op with
  | .eql => some (.b c)
  | .neq => some (.b (!c))
  | _ => none

def binV (P : Program) (op : BinOp) (xt : TypeId) (u v : V) : Option V :=
  match u, v with
  | .i k a, .i k' b =>
    match op with
    | .shl => if b < 0 then none else some (.i k (k.wrap (a * 2 ^ (min b.toNat k.bits))))
    | .shr => if b < 0 then none else some (.i k (a.fdiv (2 ^ (min b.toNat k.bits))))
    | op => if k = k' then binInt op k a b else none
  | .s x, .s y => binStr op x y
  | .b x, .b y => match P.underlying xt with
    | some .bool => binBool op x y
    | _ => none
  | .nl, .nl => match P.underlying xt with
    | some (.slice _) => binNil op true
    | _ => none
  | .sl (_ :: _), .nl => match P.underlying xt with
    | some (.slice _) => binNil op false
    | _ => none
  | .own _ _ (_ + 1) _, .nl => match P.underlying xt with
    | some (.slice _) => binNil op false
    | _ => none
  | _, _ => none

def effBin (P : Program) (op : BinOp) (xt : TypeId) : List V → Option Eff
  | [u, v] => match binV P op xt u v with
    | some r => some (.val r)
    | none => none
  | _ => none

theorem run_guard {P : Program} {w : World} {op : BinOp} {t : TypeId} {x y : Operand} {a b : Value} (h : (match a with | .agg _ | .nilIface => False | _ => True)) : (eqGuard op t x y a b).run P w = .ok () w := by
  unfold eqGuard
  cases op <;> cases a <;> first | rfl | (exact h.elim)

theorem run_bin {P : Program} {w : World} {a : Act} {op : BinOp} {xt yt ty : TypeId} {x y : Operand} {r : Value}
    (hg : (match a.eval x with | .agg _ | .nilIface => False | _ => True)) (h : (binOp op xt (a.eval x) (a.eval y)).run P w = .ok r w) :
    (execOp a.eval ⟨none, .binOp op xt x y yt, ty, "", #[], none⟩).run P w = .ok (.value r) w := by
  have := run_value (P := P) (w := w) (w' := w) (s := (do eqGuard op xt x y (a.eval x) (a.eval y); binOp op xt (a.eval x) (a.eval y))) (x := r) (by
    simp only [Sem.run_bind, run_guard hg, Result.andThen_ok, h])
  exact this

theorem good_binInt {P : Program} {w : World} {op : BinOp} {xt : TypeId} {k : IntKind} {m n : Int} {r : V} (hm : k.min ≤ m ∧ m ≤ k.max) (h : binInt op k m n = some r) {F : Nat → Prop} {env : Env} {D : Nat → Prop} :
    ∃ x, (binOp op xt (.int k m) (.int k n)).run P w = .ok x w ∧ Rep F w env D x r := by
  cases op <;> simp only [binInt] at h
  case quo =>
    split at h
    · cases h
    · rename_i hn
      cases h
      exact ⟨_, by simp [binOp, Op.intDiv, hn] <;> rfl, .i (wrap_range ..)⟩
  case rem =>
    split at h
    · cases h
    · rename_i hn
      cases h
      exact ⟨_, by simp [binOp, Op.intDiv, hn] <;> rfl, .i (tmod_range hm)⟩
  all_goals first
    | (cases h; done)
    | (cases h; exact ⟨_, by simp [binOp, Op.intArith] <;> rfl, .i (wrap_range ..)⟩)
    | (cases h; exact ⟨_, by simp [binOp, Op.intBits] <;> rfl, .i (wrap_range ..)⟩)
    | (cases h; exact ⟨_, by simp [binOp, Op.intCmp] <;> rfl, .b⟩)

theorem equal_unfold (t : TypeId) (x y : Value) : Op.equal t x y = Op.equalIn (9999 + 1) t x y := rfl
theorem run_equalB {P : Program} {w : World} {t : TypeId} (hu : P.underlying t = some .bool) (a b : Bool) : (Op.equal t (.bool a) (.bool b)).run P w = .ok (a == b) w := by
  rw [equal_unfold, Op.equalIn]
  simp only [Sem.run_bind, r_under hu, Result.andThen_ok]
  rfl
theorem run_eqB {P : Program} {w : World} {t : TypeId} (hu : P.underlying t = some .bool) (a b : Bool) : (binOp .eql t (.bool a) (.bool b)).run P w = .ok (.bool (a == b)) w := by
  show (do pure (Value.bool (← Op.equal t (.bool a) (.bool b))) : Sem Value).run P w = _
  simp only [Sem.run_bind, run_equalB hu, Result.andThen_ok]
  rfl
theorem run_neB {P : Program} {w : World} {t : TypeId} (hu : P.underlying t = some .bool) (a b : Bool) : (binOp .neq t (.bool a) (.bool b)).run P w = .ok (.bool (!(a == b))) w := by
  show (do pure (Value.bool (!(← Op.equal t (.bool a) (.bool b)))) : Sem Value).run P w = _
  simp only [Sem.run_bind, run_equalB hu, Result.andThen_ok]
  rfl
theorem run_equalNN {P : Program} {w : World} {t el : TypeId} (hu : P.underlying t = some (.slice el)) : (Op.equal t (.slice none 0 0) (.slice none 0 0)).run P w = .ok true w := by
  rw [equal_unfold, Op.equalIn]
  simp only [Sem.run_bind, r_under hu, Result.andThen_ok]
  rfl
theorem run_eqNN {P : Program} {w : World} {t el : TypeId} (hu : P.underlying t = some (.slice el)) : (binOp .eql t (.slice none 0 0) (.slice none 0 0)).run P w = .ok (.bool true) w := by
  show (do pure (Value.bool (← Op.equal t (.slice none 0 0) (.slice none 0 0))) : Sem Value).run P w = _
  simp only [Sem.run_bind, run_equalNN hu, Result.andThen_ok]
  rfl
theorem run_neNN {P : Program} {w : World} {t el : TypeId} (hu : P.underlying t = some (.slice el)) : (binOp .neq t (.slice none 0 0) (.slice none 0 0)).run P w = .ok (.bool (!true)) w := by
  show (do pure (Value.bool (!(← Op.equal t (.slice none 0 0) (.slice none 0 0)))) : Sem Value).run P w = _
  simp only [Sem.run_bind, run_equalNN hu, Result.andThen_ok]
  rfl
theorem run_equalSN {P : Program} {w : World} {t el : TypeId} (hu : P.underlying t = some (.slice el)) (a : Addr) (m c : Nat) : (Op.equal t (.slice (some a) m c) (.slice none 0 0)).run P w = .ok false w := by
  rw [equal_unfold, Op.equalIn]
  simp only [Sem.run_bind, r_under hu, Result.andThen_ok]
  rfl
theorem run_eqSN {P : Program} {w : World} {t el : TypeId} (hu : P.underlying t = some (.slice el)) (a : Addr) (m c : Nat) : (binOp .eql t (.slice (some a) m c) (.slice none 0 0)).run P w = .ok (.bool false) w := by
  show (do pure (Value.bool (← Op.equal t (.slice (some a) m c) (.slice none 0 0))) : Sem Value).run P w = _
  simp only [Sem.run_bind, run_equalSN hu, Result.andThen_ok]
  rfl
theorem run_neSN {P : Program} {w : World} {t el : TypeId} (hu : P.underlying t = some (.slice el)) (a : Addr) (m c : Nat) : (binOp .neq t (.slice (some a) m c) (.slice none 0 0)).run P w = .ok (.bool (!false)) w := by
  show (do pure (Value.bool (!(← Op.equal t (.slice (some a) m c) (.slice none 0 0)))) : Sem Value).run P w = _
  simp only [Sem.run_bind, run_equalSN hu, Result.andThen_ok]
  rfl

theorem good_bin {P : Program} {op : BinOp} {xt yt ty : TypeId} {x y : Operand} {vs : List V} {e : Eff} (h : effBin P op xt vs = some e) : Good P (.binOp op xt x y yt) ty vs e := by
  unfold effBin at h
  split at h
  · rename_i u v
    split at h
    · rename_i r hr
      cases h
      refine Good.pure fun F env D a w hl hv => ?_
      have h0 : Rep F w env D (a.eval x) u := hv 0 (by simp)
      have h1 : Rep F w env D (a.eval y) v := hv 1 (by simp)
      clear hv hl
      suffices hs : (match a.eval x with | .agg _ | .nilIface => False | _ => True) ∧ ∃ z, (binOp op xt (a.eval x) (a.eval y)).run P w = .ok z w ∧ Rep F w env D z r by
        obtain ⟨hg, z, hz, hr⟩ := hs
        exact ⟨z, run_bin hg hz, hr⟩
      unfold binV at hr
      split at hr
      · obtain ⟨e0, r0⟩ := h0.int_inv
        obtain ⟨e1, r1⟩ := h1.int_inv
        rw [e0, e1]
        refine ⟨trivial, ?_⟩
        split at hr
        · split at hr
          · cases hr
          · rename_i hb
            cases hr
            exact ⟨_, by simp [binOp, Op.shift, hb] <;> rfl, .i (wrap_range ..)⟩
        · split at hr
          · cases hr
          · rename_i hb
            cases hr
            exact ⟨_, by simp [binOp, Op.shift, hb] <;> rfl, .i (fdiv_range _ r0)⟩
        · split at hr
          · rename_i hk
            subst hk
            exact good_binInt r0 hr
          · cases hr
      · obtain ⟨e0, r0⟩ := h0.s_inv
        obtain ⟨e1, r1⟩ := h1.s_inv
        rw [e0, e1]
        refine ⟨trivial, ?_⟩
        cases op <;> simp only [binStr] at hr
        case add =>
          split at hr
          · rename_i hb
            cases hr
            refine ⟨_, ?_, .s (by simpa using hb)⟩
            simp only [binOp, Op.stringOp]
            rw [if_neg (by simp [IntKind.max, IntKind.bits, IntKind.signed]; omega)]
            rfl
          · cases hr
        all_goals first
          | (cases hr; done)
          | (cases hr; exact ⟨_, by simp [binOp, Op.stringOp] <;> rfl, .b⟩)
      · have e0 := h0.b_inv
        have e1 := h1.b_inv
        rw [e0, e1]
        refine ⟨trivial, ?_⟩
        split at hr
        · rename_i hu
          cases op <;> simp only [binBool] at hr <;> first
            | (cases hr; done)
            | (cases hr; exact ⟨_, by first | exact run_eqB hu _ _ | exact run_neB hu _ _ | exact run_eqNN hu | exact run_neNN hu | exact run_eqSN hu _ _ _ | exact run_neSN hu _ _ _, .b⟩)
        · cases hr
      · generalize a.eval x = X at h0 ⊢
        generalize a.eval y = Y at h1 ⊢
        cases h0 with
        | nl =>
          cases h1 with
          | nl =>
            refine ⟨trivial, ?_⟩
            split at hr
            · rename_i hu
              cases op <;> simp only [binNil] at hr <;> first
                | (cases hr; done)
                | (cases hr; exact ⟨_, by first | exact run_eqB hu _ _ | exact run_neB hu _ _ | exact run_eqNN hu | exact run_neNN hu | exact run_eqSN hu _ _ _ | exact run_neSN hu _ _ _, .b⟩)
            · cases hr
      · rename_i e es
        generalize a.eval x = X at h0 ⊢
        generalize a.eval y = Y at h1 ⊢
        cases h1 with
        | nl =>
          cases h0 with
          | sl y hne hc hl hF hb hE hy hrr =>
            refine ⟨trivial, ?_⟩
            split at hr
            · rename_i hu
              cases op <;> simp only [binNil] at hr <;> first
                | (cases hr; done)
                | (cases hr; exact ⟨_, by first | exact run_eqB hu _ _ | exact run_neB hu _ _ | exact run_eqNN hu | exact run_neNN hu | exact run_eqSN hu _ _ _ | exact run_neSN hu _ _ _, .b⟩)
            · cases hr
      · generalize a.eval x = X at h0 ⊢
        generalize a.eval y = Y at h1 ⊢
        cases h1 with
        | nl =>
          cases h0 with
          | own a1 a2 a3 a4 a5 =>
            refine ⟨trivial, ?_⟩
            split at hr
            · rename_i hu
              cases op <;> simp only [binNil] at hr <;> first
                | (cases hr; done)
                | (cases hr; exact ⟨_, by first | exact run_eqB hu _ _ | exact run_neB hu _ _ | exact run_eqNN hu | exact run_neNN hu | exact run_eqSN hu _ _ _ | exact run_neSN hu _ _ _, .b⟩)
            · cases hr
      · cases hr
    · cases h
  · cases h

/-! ### Unary operators, conversions between whole numbers -/
def effUn (op : UnOp) : List V → Option Eff
  | [.b x] => match op with
    | .not => some (.val (.b (!x)))
    | _ => none
  | [.i k n] => match op with
    | .neg => some (.val (.i k (k.wrap (0 - n))))
    | _ => none
  | _ => none
theorem good_un {P : Program} {op : UnOp} {t ty : TypeId} {x : Operand} {vs : List V} {e : Eff} (h : effUn op vs = some e) : Good P (.unOp op t x) ty vs e := by
  unfold effUn at h
  split at h
  · rename_i c
    split at h
    · cases h
      refine Good.pure fun F env D a w hl hv => ?_
      have h0 : a.eval x = .bool c := (hv 0 (by simp)).b_inv
      exact ⟨.bool (!c), by simp only [execOp, h0, Op.unary]; rfl, .b⟩
    · cases h
  · rename_i k n
    split at h
    · cases h
      refine Good.pure fun F env D a w hl hv => ?_
      have h0 : a.eval x = .int k n := (hv 0 (by simp)).int_inv.1
      exact ⟨_, by simp only [execOp, h0, Op.unary, Op.intArith]; rfl, .i (wrap_range ..)⟩
    · cases h
  · cases h

def effConv (P : Program) (s d : TypeId) : List V → Option Eff
  | [.i k n] => match P.underlying s, P.underlying d with
    | some (.int _), some (.int k') => some (.val (.i k' (k'.wrap n)))
    | _, _ => none
  | _ => none
theorem good_conv {P : Program} {s d ty : TypeId} {x : Operand} {vs : List V} {e : Eff} (h : effConv P s d vs = some e) : Good P (.convert s d x) ty vs e := by
  unfold effConv at h
  split at h
  · rename_i k n
    split at h
    · rename_i j k' hs hd
      cases h
      refine Good.pure fun F env D a w hl hv => ?_
      have h0 : a.eval x = .int k n := (hv 0 (by simp)).int_inv.1
      refine ⟨.int k' (k'.wrap n), ?_, .i (wrap_range ..)⟩
      have : (convert s d (.int k n)).run P w = .ok (.int k' (k'.wrap n)) w := by
        unfold convert
        simp only [Sem.run_bind, r_under hs, r_under hd, Result.andThen_ok]
        rfl
      simp only [execOp, h0]
      exact run_value this
    · cases h
  · cases h

/-! ### extract, makeFunc, len, min, max -/
def effExtract (ix : Nat) : List V → Option Eff
  | [.tup vs] => if ix < vs.length then some (.val (vs.getD ix .junk)) else none
  | _ => none
theorem good_extract {P : Program} {ix : Nat} {ty : TypeId} {x : Operand} {vs : List V} {e : Eff} (h : effExtract ix vs = some e) : Good P (.extract x ix) ty vs e := by
  unfold effExtract at h
  split at h
  · rename_i us
    split at h
    · rename_i hlt
      cases h
      refine Good.pure fun F env D a w hl hv => ?_
      have h0 : Rep F w env D (a.eval x) (.tup us) := hv 0 (by simp)
      obtain ⟨xs, e0, hsz, hr⟩ := h0.tup_inv
      refine ⟨xs.getD ix undef, ?_, hr ix hlt⟩
      have : xs[ix]? = some (xs.getD ix undef) := by simp [Array.getD_eq_getD_getElem?, hsz, hlt]
      simp only [execOp, e0]
      exact run_value (by simp only [Instr.extract, this]; rfl)
    · cases h
  · cases h

def effMakeFunc (fn : Fn) (nf : Nat) (vs : List V) : Option Eff :=
  match fn, nf with
  | .func f, 0 => some (.val (.fn f vs))
  | _, _ => none
theorem good_makeFunc {P : Program} {fn : Fn} {first captured : Array Operand} {ty : TypeId} {vs : List V} {e : Eff} (h : effMakeFunc fn first.size vs = some e) : Good P (.makeFunc fn first captured) ty vs e := by
  unfold effMakeFunc at h
  split at h
  · rename_i f hf
    cases h
    have hemp : first = #[] := by simpa using hf
    subst hemp
    refine Good.pure fun F env D a w hl hv => ?_
    simp only [Op.operands, Array.empty_append] at hl hv
    refine ⟨.func (.func f) #[] (captured.map a.eval), ?_, ?_⟩
    · have e0 : (Array.map a.eval #[] : Array Value) = #[] := by simp
      simp only [execOp, Instr.makeFunc, e0]
      rfl
    · refine .fn (by simp [hl]) fun k hk => ?_
      have := hv k hk
      have e1 : (captured.map a.eval).getD k undef = a.eval (captured.getD k (.const undef)) := by
        simp [Array.getD_eq_getD_getElem?, show k < captured.size by omega]
      rw [e1]
      exact this
  · cases h

def lenV : V → Option Int
  | .nl => some 0
  | .sl els => some els.length
  | .own _ _ n _ => some n
  | .s x => some x.size
  | _ => none
def effLen (P : Program) (t : TypeId) : List V → Option Eff
  | [v] => match P.underlying t, v with
    | some .string, .s x => some (.val (.i .i64 x.size))
    | some (.slice _), .s _ => none
    | some (.slice _), v => match lenV v with
      | some n => some (.val (.i .i64 n))
      | none => none
    | _, _ => none
  | _ => none
theorem i64_small {n : Nat} (h : n < 2 ^ 62) : IntKind.i64.min ≤ (n : Int) ∧ (n : Int) ≤ IntKind.i64.max := by
  simp [IntKind.min, IntKind.max, IntKind.bits, IntKind.signed]
  omega
theorem good_len {P : Program} {t ty : TypeId} {ats : Array TypeId} {x : Operand} {vs : List V} {e : Eff} (ht : ats[0]? = some t) (h : effLen P t vs = some e) : Good P (.call ⟨.builtin .len, #[x], ats⟩) ty vs e := by
  unfold effLen at h
  split at h
  · rename_i v
    suffices hs : ∃ n, e = .val (.i .i64 n) ∧ ∀ (F : Nat → Prop) (env : Env) (D : Nat → Prop) (a : Act) (w : World), Rep F w env D (a.eval x) v → (IntKind.i64.min ≤ n ∧ n ≤ IntKind.i64.max) ∧ (Builtin.len_ ats ty #[a.eval x]).run P w = .ok (.int .i64 n) w by
      obtain ⟨n, rfl, hs⟩ := hs
      refine Good.pure fun F env D a w hl hv => ?_
      obtain ⟨h1, h2⟩ := hs F env D a w (hv 0 (by simp))
      refine ⟨.int .i64 n, ?_, .i h1⟩
      have : (execOp a.eval ⟨none, .call ⟨.builtin .len, #[x], ats⟩, ty, "", #[], none⟩) = (do pure (Next.value (← Builtin.len_ ats ty #[a.eval x])) : Sem Next) := by
        simp only [execOp, resolve, invoke, builtin, List.map_toArray, List.map_cons, List.map_nil]
        rfl
      rw [this]
      exact run_value h2
    split at h
    · rename_i s hu
      cases h
      refine ⟨s.size, rfl, fun F env D a w hr => ?_⟩
      obtain ⟨e0, hs⟩ := hr.s_inv
      refine ⟨i64_small hs, ?_⟩
      simp only [Builtin.len_, ht, e0, Sem.run_bind, r_under hu, Result.andThen_ok, List.getElem?_toArray, List.getElem?_cons_zero]
      rfl
    · cases h
    · rename_i el hu hns
      split at h
      · rename_i n hn
        cases h
        refine ⟨n, rfl, fun F env D a w hr => ?_⟩
        generalize a.eval x = X at hr ⊢
        have key : ∀ (A : Option Addr) (m c : Nat), m < 2 ^ 62 → n = (m : Int) → X = .slice A m c → (IntKind.i64.min ≤ n ∧ n ≤ IntKind.i64.max) ∧ (Builtin.len_ ats ty #[X]).run P w = .ok (.int .i64 n) w := by
          rintro A m c hm rfl rfl
          refine ⟨i64_small hm, ?_⟩
          simp only [Builtin.len_, ht, Sem.run_bind, r_under hu, Result.andThen_ok, List.getElem?_toArray, List.getElem?_cons_zero]
          rfl
        unfold lenV at hn
        split at hn
        · cases hn; cases hr with
          | nl => exact key none 0 0 (by omega) rfl rfl
        · cases hn; cases hr with
          | sl0 => exact key _ 0 _ (by omega) rfl rfl
          | sl y hne hc hl hF hb hE hy hrr => exact key _ _ _ hl rfl rfl
        · cases hn; cases hr with
          | own a1 a2 a3 a4 a5 => exact key _ _ _ a4 rfl rfl
          | own0 a1 => exact key none 0 0 (by omega) rfl rfl
        · exact absurd rfl (hns _)
        · cases hn
      · cases h
    · cases h
  · cases h

end Go.Proofs.Ytlhobedecoeohaa.Lift
