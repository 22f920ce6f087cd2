/- Fractions: Text, Right, Sum. -/
import Derived.Test.YtepkjfnffbdcoaaRat3
import Derived.Test.YtepkjfnffbdcoaaGP
set_option linter.unusedVariables false
set_option maxRecDepth 20000
set_option linter.unusedSimpArgs false
namespace Go.Proofs.Ytepkjfnffbdcoaa
open Go Go.Proofs.Ytepkjfnffbdcoaa.Lift
attribute [local irreducible] Lift.PCall Lift.HCall

/-- The text of a fraction, as bytes. -/
def rtxL (q : Rat) : List Nat := (if q.num < 0 then [45] else []) ++ decB q.num.natAbs ++ (if q.den = 1 then [] else 47 :: decB q.den)
abbrev rtxt (q : Rat) : ByteArray := strN (rtxL q)
theorem strN_app (l l' : List Nat) : strN l ++ strN l' = strN (l ++ l') := by
  apply ByteArray.ext
  rw [ByteArray.data_append]
  simp [strN, strOf]
theorem effCat {P : Program} {t y' : TypeId} {x y : Operand} {l l' : List Nat} (h : l.length + l'.length < 2 ^ 61) : eff P (.binOp .add t x y y') [.s (strN l), .s (strN l')] = some (.val (.s (strN (l ++ l')))) := by
  show (match binStr .add (strN l) (strN l') with
    | some v => some (Eff.val v)
    | none => none) = _
  have hs : (strN l).size + (strN l').size < 2 ^ 62 := by
    rw [size_strN, size_strN]
    omega
  simp only [binStr]
  rw [if_pos hs, strN_app]

theorem coprime_small (q : Rat) : Nat.gcd q.num.natAbs q.den = 1 := q.reduced

set_option maxRecDepth 20000 in
set_option maxHeartbeats 4000000 in
theorem qright_ok (q : Rat) (hL : rL q < 2 ^ 34) : PCall Try.prog 38 [rV q] (.b true) [] := by
  refine PCall.of_ax Try.call38 Try.func38 rfl (by simp [Try.ntmps38]) fun O w => ?_
  simp only [Try.ntmps38, Try.results38, argFr]
  have hr1 : (digits q.num.natAbs).length ≤ rL q := Nat.le_max_left _ _
  have hr2 : (digits q.den).length ≤ rL q := Nat.le_max_right _ _
  have c1 := right_n q.num.natAbs (by omega)
  have c2 := right_n q.den (by omega)
  have c3 := gcd_n q.num.natAbs q.den (by omega) (by omega)
  rw [coprime_small] at c3
  have c4 : PCall Try.prog 62 [nv 1] (.tup [.i .u64 ((1 : Nat) : Int), .b true]) [] := small_n 1 (by have := lenS (n := 1) (by omega); omega)
  have hd : 0 < (digits q.den).length := Nat.pos_of_ne_zero fun e => q.den_nz (digits_len_zero.1 e)
  have hnum : (digits q.num.natAbs).length = 0 → decide (q.num < 0) = false := by
    intro e
    have := digits_len_zero.1 e
    exact decide_eq_false (by omega)
  clear hr1 hr2 hL
  have hg : rV q = .agg [.b (decide (q.num < 0)), nv q.num.natAbs, nv q.den] := rfl
  rw [hg]
  generalize q.num.natAbs = N at *
  generalize q.den = D at *
  generalize decide (q.num < 0) = s at *
  refine AX.sregAV [1] (hq := ?_)
  refine AX.cut (fun st => st = ⟨[(1, .ptr 0 0)], [(0, ⟨25, [.b s, nv N, nv D]⟩)], 1⟩) ?_ ?_
  · by_cases h0 : (digits N).length = 0
    · have hs := hnum h0
      subst hs
      refine AX.sregCV [1, 30] (And.intro c1 (And.intro c2 True.intro)) (hq := ?_)
      refine AX.condF (h := ?_)
      refine AX.keepA [1] (h := ?_)
      refine AX.skip ?_
      try simp only [thenS_normal, thenS_ret, thenS_exit, blockS_normal, blockS_ret, blockS_exit, backS_ret, backS_exit, if_true]
      first | exact trivial | exact ⟨trivial, trivial⟩ | exact ⟨rfl, rfl⟩ | exact ⟨trivial, rfl⟩
    · refine AX.sregCV [1, 30] (And.intro c1 (And.intro c2 True.intro)) (hq := ?_)
      refine AX.condF (h := ?_)
      refine AX.keepA [1] (h := ?_)
      refine AX.skip ?_
      try simp only [thenS_normal, thenS_ret, thenS_exit, blockS_normal, blockS_ret, blockS_exit, backS_ret, backS_exit, if_true]
      first | exact trivial | exact ⟨trivial, trivial⟩ | exact ⟨rfl, rfl⟩ | exact ⟨trivial, rfl⟩
  rintro st rfl
  refine AX.sregCV [3, 4] (And.intro c3 (And.intro c4 True.intro)) (hq := ?_)
  refine AX.sregAV [2] (hq := ?_)
  refine AX.ret (And.intro (Or.inl rfl) ?_)
  exact Done.one rfl rfl rfl rfl

end Go.Proofs.Ytepkjfnffbdcoaa

/- Fractions: Parse. -/
set_option linter.unusedVariables false
set_option linter.unusedSimpArgs false
namespace Go.Proofs.Ytepkjfnffbdcoaa
open Go Go.Proofs.Ytepkjfnffbdcoaa.Lift
attribute [local irreducible] Lift.PCall Lift.HCall

theorem parN_len (s : ByteArray) : (digits (parN s)).length ≤ 20000 := by
  rcases parE_val s with h | ⟨h, e⟩
  · by_cases h0 : s.size = 0 ∨ (bt s 0 = 48 ∧ 1 < s.size)
    · rw [(par_head h0).2, digits_zero]; exact Nat.zero_le _
    by_cases hD : Dgt s
    · by_cases hl : 20000 < s.size
      · rw [(par_long h0 hD hl).2, digits_zero]; exact Nat.zero_le _
      · rw [(par_good h0 hD hl).2]
        exact dv_len hD (by omega) (Nat.le_refl _)
    · rw [(par_bad hD).2, digits_zero]; exact Nat.zero_le _
  · rw [e, digits_zero]; exact Nat.zero_le _
theorem restS_lt {s : ByteArray} {K : Nat} (hs : s.size < K) : (restS s).size < K := by
  unfold restS
  split
  · rw [size_ext]; omega
  · exact hs
/-- The texts before and behind the slash. -/
def numS (r : ByteArray) : ByteArray := if ixS r = -1 then r else r.extract 0 (ixS r).toNat
def denS (r : ByteArray) : ByteArray := r.extract ((ixS r).toNat + 1) r.size
noncomputable def denE (r : ByteArray) : Int := if ixS r = -1 then 0 else parE (denS r)
noncomputable def denN (r : ByteArray) : Nat := if ixS r = -1 then 1 else parN (denS r)
noncomputable def rpQ (s : ByteArray) : Rat := rq (neg1 s) (parN (numS (restS s))) (denN (restS s))
/-- The error of Parse. -/
noncomputable def rpE (s : ByteArray) : Int := if parE (numS (restS s)) ≠ 0 then parE (numS (restS s)) else if denE (restS s) ≠ 0 then denE (restS s) else if rtxt (rpQ s) = s then 0 else 33
noncomputable def rpV (s : ByteArray) : V := if rpE s = 0 then .tup [rV (rpQ s), .i .i64 0] else .tup [zR, .i .i64 (rpE s)]
theorem numS_lt {r : ByteArray} {K : Nat} (hs : r.size < K) : (numS r).size < K := by
  unfold numS
  split
  · exact hs
  · rw [ByteArray.size_extract]; omega
theorem denS_lt {r : ByteArray} {K : Nat} (hs : r.size < K) : (denS r).size < K := by
  unfold denS
  rw [size_ext]; omega
theorem denN_len (r : ByteArray) : (digits (denN r)).length ≤ 20000 := by
  unfold denN
  split
  · have := lenS (n := 1) (by omega)
    omega
  · exact parN_len _
theorem rpQ_len (s : ByteArray) : rL (rpQ s) ≤ 20000 := rL_rq (parN_len _) (denN_len _) (by omega)
theorem effStrNe {P : Program} {t y' : TypeId} {x y : Operand} {a b : ByteArray} {c : Bool} (h : decide (a = b) = c) : eff P (.binOp .neq t x y y') [.s a, .s b] = some (.val (.b (!c))) := by
  have h1 := effStr (P := P) (t := t) (y' := y') (x := x) (y := y) h
  have h2 : some (Eff.val (.b (a.toList == b.toList))) = some (Eff.val (.b c)) := h1
  have h3 : (a.toList == b.toList) = c := by injection h2 with h2; injection h2 with h2; injection h2
  show some (Eff.val (.b (!(a.toList == b.toList)))) = _
  rw [h3]

end Go.Proofs.Ytepkjfnffbdcoaa
