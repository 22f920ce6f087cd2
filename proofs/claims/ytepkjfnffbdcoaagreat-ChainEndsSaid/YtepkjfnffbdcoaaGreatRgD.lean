/- The reference's matrices: Solve. -/
import Derived.Test.YtepkjfnffbdcoaaGreatRgB
import Derived.Test.YtepkjfnffbdcoaaGreatRgC
import Derived.Test.YtepkjfnffbdcoaaGreatRfI
set_option linter.unusedVariables false
set_option maxRecDepth 20000
set_option linter.unusedSimpArgs false
namespace Go.Proofs.YtepkjfnffbdcoaaGreat
open Go Go.Proofs.YtepkjfnffbdcoaaGreat.Lift
attribute [local irreducible] Lift.PCall Lift.HCall
theorem lkp_nr (base b n m : Nat) (F : Nat → Row) (rest : List (Nat × Row)) : lkp (namedRows base b ((List.range n).map F) ++ rest) m = if b ≤ m ∧ m < b + n then some ((F (m - b)).ren (base + ·)) else lkp rest m := by
 rw [look_named, List.length_map, List.length_range]
 split
 ·rename_i h
  rw [List.getElem?_map, List.getElem?_range (by omega)]
  rfl
 ·rfl
def f10 (x : Nat) : Nat := if x < 10 then x else x - 6
theorem f10_row {n c : Nat} : V.renL (fun x => 3 + x) (outR n c id).cells = V.renL f10 (gl n fun i => .own (10 + i) 0 c 3) := by
 unfold outR
 rw [renL_glf, renL_glf]
 refine gl_congr fun i hi => ?_
 simp only [V.ren, id_eq, f10]
 rw [if_neg (by omega)]
 congr 1
 omega
theorem own10_lt {n c k : Nat} (hn : n ≤ 60) (hk : 70 ≤ k) : V.ltL k (gl n fun i => .own (10 + i) 0 c 3) = true := ltL_gln n fun i hi => by
 simp only [V.lt, decide_eq_true_eq]
 omega
theorem le10 {n : Nat} {A : Mx} {q0 q1 q2 : Row} {fr : List (Nat × V)} {nx : Nat} (hn : n ≤ 60) (h0 : q0.ren f10 = q0) (h1 : q1.ren f10 = q1) (h2 : q2.ren f10 = q2) (g0 : V.ltL 100 q0.cells = true) (g1 : V.ltL 100 q1.cells = true) (g2 : V.ltL 100 q2.cells = true) (hf : LeFr f10 fr 100 fr) :
  Le 0 f10 ⟨fr, (3, ⟨22, gl n fun i => .own (10 + i) 0 n 3⟩) :: (2, q2) :: (1, q1) :: (0, q0) :: fam 10 n (famQ n A), 100⟩
   ⟨fr, (3, ⟨(outR n n id).T, V.renL (fun x => 3 + x) (outR n n id).cells⟩) :: (namedRows 3 4 ((List.range n).map (famQ n A)) ++ [(2, q2), (1, q1), (0, q0)]), nx⟩ := by
 refine leFm (pre := [(3, ⟨22, gl n fun i => .own (10 + i) 0 n 3⟩), (2, q2), (1, q1), (0, q0)]) ⟨hf, ?_, ?_, Nat.zero_le _, fun x hx => absurd hx (Nat.not_lt_zero _)⟩ ?_ ?_
 ·refine ⟨(by show (3 : Nat) < 100; omega), ?_, own10_lt hn (by show (70 : Nat) ≤ 100; omega), (by show (2 : Nat) < 100; omega), ?_, g2, (by show (1 : Nat) < 100; omega), ?_, g1, (by show (0 : Nat) < 100; omega), ?_, g0, trivial⟩
  ·show some (⟨_, _⟩ : Row) = some (⟨_, _⟩ : Row)
   rw [f10_row]
   rfl
  ·show lkp ((3, _) :: _) 2 = _
   rw [lkp_ne (by decide), lkp_nr, if_neg (by omega), h2]
   rfl
  ·show lkp ((3, _) :: _) 1 = _
   rw [lkp_ne (by decide), lkp_nr, if_neg (by omega), h1]
   rfl
  ·show lkp ((3, _) :: _) 0 = _
   rw [lkp_ne (by decide), lkp_nr, if_neg (by omega), h0]
   rfl
 ·intro p hp q hq he
  have a1 : p.1 < 10 := by simp at hp; rcases hp with h | h | h | h <;> (subst h; simp)
  have a2 : q.1 < 10 := by simp at hq; rcases hq with h | h | h | h <;> (subst h; simp)
  unfold f10 at he
  rwa [if_pos a1, if_pos a2] at he
 ·intro a ha
  refine ⟨by omega, ?_, famQ_lt _ _ _ _⟩
  have e : f10 (10 + a) = 4 + a := by unfold f10; rw [if_neg (by omega)]; omega
  rw [e]
  show lkp ((3, _) :: _) _ = _
  rw [lkp_ne (by omega), lkp_nr, if_pos (by omega), famQ_ren, famQ_ren, Nat.add_sub_cancel_left]
 ·have hb : ∀ p ∈ [(3, (⟨22, gl n fun i => .own (10 + i) 0 n 3⟩ : Row)), (2, q2), (1, q1), (0, q0)] ++ fam 10 n (famQ n A), p.1 < 4 ∨ 10 ≤ p.1 := fun p hp => by
   rcases List.mem_append.1 hp with h | h
   ·simp at h
    rcases h with h | h | h | h <;> (subst h; left; simp)
   ·exact .inr (fam_mem h).1
  intro p hp q hq he
  have a1 := hb p hp
  have a2 := hb q hq
  unfold f10 at he
  split at he <;> split at he <;> omega
def apO (n m i : Nat) : List V := gl n fun a => .own (10 + a) 0 (if a < i then n + m else n) 3
def apF (n m i : Nat) (A B : Mx) : Nat → Row := fun a => ⟨41, qrow (if a < i then vl (n + m) (aug n A B a) else vl n (A a))⟩
theorem apF_ren (n m i : Nat) (A B : Mx) (f : Nat → Nat) (a : Nat) : (apF n m i A B a).ren f = apF n m i A B a := by
 unfold apF Row.ren
 rw [ren_q]
theorem apF_lt (n m i k : Nat) (A B : Mx) (a : Nat) : V.ltL k (apF n m i A B a).cells = true := lt_q _ _
theorem vl_app (n m : Nat) (A B : Mx) (i : Nat) : vl n (A i) ++ vl m (B i) = vl (n + m) (aug n A B i) := by
 unfold vl
 rw [List.range_add, List.map_append]
 congr 1
 ·exact List.map_congr_left fun j hj => (if_pos (by simpa using hj)).symm
 ·rw [List.map_map]
  exact List.map_congr_left fun j hj => by
   show B i j = if n + j < n then A i (n + j) else B i (n + j - n)
   rw [if_neg (by omega), Nat.add_sub_cancel_left]
theorem apO_length (n m i : Nat) : (apO n m i).length = n := gl_length ..
theorem apO_get {n m i : Nat} (h : i < n) : (apO n m i).getD i .junk = .own (10 + i) 0 n 3 := (gl_get _ h).trans (by rw [if_neg (Nat.lt_irrefl _)])
theorem apO_lt {n m i k : Nat} (hn : n ≤ 60) (hk : 70 ≤ k) : V.ltL k (apO n m i) = true := ltL_gln n fun i hi => by
 simp only [V.lt, decide_eq_true_eq]
 omega
theorem apO_next {n m i : Nat} (hi : i < n) (f : Nat → Nat) (h1 : f (10 + i) = 100) (h2 : ∀ x, x ≠ 10 + i → f x = x) : V.renL f (apO n m (i + 1)) = (apO n m i).set i (.own 100 0 (n + m) 3) := by
 unfold apO
 rw [renL_glf, gl_set _ _ hi]
 refine gl_congr fun a ha => ?_
 show V.ren f (.own (10 + a) 0 (if a < i + 1 then n + m else n) 3) = if a = i then .own 100 0 (n + m) 3 else .own (10 + a) 0 (if a < i then n + m else n) 3
 by_cases e : a = i
 ·subst e
  rw [if_pos rfl, if_pos (by omega)]
  simp only [V.ren, h1]
 ·rw [if_neg e]
  simp only [V.ren, h2 (10 + a) (by omega)]
  by_cases h : a < i
  ·rw [if_pos h, if_pos (by omega)]
  ·rw [if_neg h, if_neg (by omega)]
theorem pne10 {p : Nat} (h1 : 10 ≤ p) (h2 : p < 100) : (((p = 0) = False) ∧ ((p = 1) = False) ∧ ((p = 2) = False) ∧ ((p = 3) = False) ∧ ((p = 100) = False) ∧ ((p = 101) = False)) ∧ (((0 = p) = False) ∧ ((1 = p) = False) ∧ ((2 = p) = False) ∧ ((3 = p) = False) ∧ ((100 = p) = False) ∧ ((101 = p) = False)) := by
 simp only [eq_iff_iff, iff_false]
 omega
theorem mcells_rowS (m : Nat) (X : Mx) (i : Nat) : mcells m X (i * m) ++ vl m (X i) = mcells m X (i * m + m) := by
 unfold mcells vl
 rw [List.range_add, List.map_append, List.map_map]
 congr 1
 refine List.map_congr_left fun j hj => ?_
 have hj : j < m := by simpa using hj
 show X i j = X ((i * m + j) / m) ((i * m + j) % m)
 rw [Nat.mul_comm i m, Nat.mul_add_div (by omega), Nat.div_eq_of_lt hj, Nat.mul_add_mod, Nat.mod_eq_of_lt hj, Nat.add_zero]
theorem vl_tail {n m : Nat} {v x : Nat → Rat} (h : ∀ c, c < m → v (n + c) = x c) : List.take (m * 3) (List.drop (n * 3) (qrow (vl (n + m) v))) = qrow (vl m x) := by
 have e : vl (n + m) v = vl n v ++ vl m x := by
  unfold vl
  rw [List.range_add, List.map_append, List.map_map]
  congr 1
  exact List.map_congr_left fun j hj => h j (by simpa using hj)
 rw [e, qrow_app, List.drop_append_of_le_length (by rw [vl_len3]; omega), List.drop_of_length_le (by rw [vl_len3]; omega), List.nil_append, List.take_of_length_le (by rw [vl_len3]; omega)]
theorem pneS {p : Nat} (h1 : 10 ≤ p) (h2 : p < 100) : ((p = 0) = False) ∧ ((p = 1) = False) ∧ ((p = 2) = False) ∧ ((p = 3) = False) ∧ ((p = 100) = False) ∧ ((p = 101) = False) ∧ ((p = 102) = False) ∧ ((p = 103) = False) := by
 simp only [eq_iff_iff, iff_false]
 omega
theorem good_endSl {P : Program} {t ty e : TypeId} {L : Lay} {x lo : Operand} {h off len E : Nat} (hu : P.underlying t = some (.slice e)) (hL : lay P e = some L) : Good P (.slice t x (some lo) none none) ty [.own h off len E, .i .i64 (len : Int)] (.val (.sl [])) := by
 obtain ⟨i, d, z', hi, hd, hz', rfl⟩ := lay_inv hL
 refine Good.pure fun F env D a w hlen hr => ?_
 have h0 : Rep F w env D (a.eval x) (.own h off len E) := by
  have := hr 0 (by simp)
  exact this
 have h1 : Rep F w env D (a.eval lo) (.i .i64 (len : Int)) := by
  have := hr 1 (by simp)
  exact this
 have hlo : BoundIs (some (a.eval lo)) 0 (len : Int) := .inr ⟨_, by rw [h1.int_inv.1]⟩
 have hhi : BoundIs none (len : Int) (len : Int) := .inl ⟨rfl, rfl⟩
 suffices hs : ∃ z, (Instr.sliceAt t (a.eval x) (some (a.eval lo)) none none).run P w = .ok z w ∧ Rep F w env D z (.sl []) by
  obtain ⟨z, hz, hzr⟩ := hs
  exact ⟨z, run_value hz, hzr⟩
 generalize a.eval x = X at h0 ⊢
 generalize a.eval lo = Y at hlo ⊢
 cases h0 with
 | own a1 a2 a3 a4 a5 =>
  rename_i cap blk
  have hb2 := run_sliceBounds (P := P) (w := w) (isSlice := true) (len := len) (cap := cap) hlo hhi (by omega) (by omega) (by omega) (fun _ => a3)
  refine ⟨_, by
   unfold Instr.sliceAt
   simp only [Sem.run_bind, r_under hu, Result.andThen_ok]
   unfold Instr.slice
   simp only [Sem.run_bind, r_under hu, Result.andThen_ok, hb2, r_size hi]
   rfl, ?_⟩
  rw [Nat.sub_self]
  exact .sl0
 | own0 a1 =>
  have hb2 := run_sliceBounds (P := P) (w := w) (isSlice := true) (len := 0) (cap := 0) hlo hhi (by omega) (by omega) (by omega) (fun _ => Nat.le_refl _)
  refine ⟨_, by
   unfold Instr.sliceAt
   simp only [Sem.run_bind, r_under hu, Result.andThen_ok]
   unfold Instr.slice
   simp only [Sem.run_bind, r_under hu, Result.andThen_ok, hb2, r_size hi]
   rfl, ?_⟩
  rw [Nat.sub_self]
  exact .sl0
theorem RunD.endSl {P : Program} {N : Nat} {o : PO} {l : List PO} {Ts : List Tr} {st st1 st2 : St} {t e : TypeId} {x lo : Operand} {L : Lay} {T : Tr} {h off len E : Nat} (h0 : isCall o.op = false) (ho : o.op = .slice t x (some lo) none none) (hg : guardP st.fr o.g = some true)
  (hv : valsOf st.fr (opsOf o.op) = some [.own h off len E, .i .i64 (len : Int)]) (hu : P.underlying t = some (.slice e)) (hL : lay P e = some L) (hp1 : putSt N o.dst (.sl []) st.fr st.hp st.nx = some st1)
  (hT : T = ⟨o.dst, slotsOf (opsOf o.op) ++ gSlot o.g, .sl [], [], [], []⟩) (hk : RunD P N l st1 Ts st2) : RunD P N (o :: l) st (T :: Ts) st2 := by
 subst hT
 obtain ⟨hd, hfw, hph, _⟩ := putSt_dst hp1
 refine .tr ?_ ?_ ?_ hk
 ·intro ops i o' hi he
  subst he
  exact TrOk.good (e := .val (.sl [])) (u := false) hi hg hv (fun ty => by
   show Good P o'.op ty _ _
   have ho' : o'.op = .slice t x (some lo) none none := ho
   rw [ho']
   exact good_endSl hu hL) rfl hp1
 ·exact hfw
 ·rw [hph]
  rfl
def f23 (x : Nat) : Nat := if x = 102 then 103 else x
theorem le23 {n w m K : Nat} {R X : Mx} {s : Nat → Nat} {og Ac : List V} (hn : n ≤ 60) (hog : og = gl n fun i => V.own (10 + s i) 0 w 3) (hs : ∀ i, i < n → s i < n) {fr : List (Nat × V)} (hf : LeFr f23 fr 103 fr) :
  Le 0 f23 ⟨fr, (102, ⟨41, qrow (mcells m X K)⟩) :: (101, ⟨32, [.i .i64 n, .i .i64 m, .own 102 0 K 3]⟩) :: (3, ⟨22, og⟩) :: (2, ⟨32, [.i .i64 0, .i .i64 0, .nl]⟩) :: (0, ⟨32, [.i .i64 n, .i .i64 n, .sl Ac]⟩) :: fam 10 n (famQ w R), 103⟩
   ⟨fr, (103, ⟨41, qrow (mcells m X K)⟩) :: (101, ⟨32, [.i .i64 n, .i .i64 m, .own 103 0 K 3]⟩) :: (3, ⟨22, og⟩) :: (2, ⟨32, [.i .i64 0, .i .i64 0, .nl]⟩) :: (0, ⟨32, [.i .i64 n, .i .i64 n, .sl Ac]⟩) :: fam 10 n (famQ w R), 104⟩ := by
 have hlt : V.ltL 103 og = true := by
  rw [hog]
  exact ltL_gln n fun i hi => by
   have := hs i hi
   simp only [V.lt, decide_eq_true_eq]
   omega
 have hre : V.renL f23 og = og := by
  rw [hog, renL_glf]
  refine gl_congr fun i hi => ?_
  have := hs i hi
  simp only [V.ren, f23]
  rw [if_neg (by omega)]
 refine leFm (pre := [(102, ⟨41, qrow (mcells m X K)⟩), (101, ⟨32, [.i .i64 n, .i .i64 m, .own 102 0 K 3]⟩), (3, ⟨22, og⟩), (2, ⟨32, [.i .i64 0, .i .i64 0, .nl]⟩), (0, ⟨32, [.i .i64 n, .i .i64 n, .sl Ac]⟩)]) ⟨hf, ?_, ?_, Nat.zero_le _, fun x hx => absurd hx (Nat.not_lt_zero _)⟩ ?_ ?_
 ·simp [LeHp, lkp, Row.ren, V.ren, V.renL, f23, hre, hlt, V.ltL, V.lt, ren_q, lt_q]
 ·simp [Apart, f23]
 ·intro a ha
  refine ⟨by omega, ?_, famQ_lt _ _ _ _⟩
  have e : f23 (10 + a) = 10 + a := by unfold f23; rw [if_neg (by omega)]
  rw [e, famQ_ren]
  show lkp ((103, _) :: (101, _) :: (3, _) :: (2, _) :: (0, _) :: fam 10 n _) _ = _
  rw [lkp_ne (by omega), lkp_ne (by omega), lkp_ne (by omega), lkp_ne (by omega), lkp_ne (by omega)]
  exact lkp_fam _ ha
 ·have hb : ∀ p ∈ [(102, (⟨41, qrow (mcells m X K)⟩ : Row)), (101, ⟨32, [.i .i64 n, .i .i64 m, .own 102 0 K 3]⟩), (3, ⟨22, og⟩), (2, ⟨32, [.i .i64 0, .i .i64 0, .nl]⟩), (0, ⟨32, [.i .i64 n, .i .i64 n, .sl Ac]⟩)] ++ fam 10 n (famQ w R), p.1 < 103 := fun p hp => by
   rcases List.mem_append.1 hp with h | h
   ·simp at h
    rcases h with h | h | h | h | h <;> (subst h; simp)
   ·have := fam_mem h
    omega
  intro p hp q hq he
  have a1 := hb p hp
  have a2 := hb q hq
  unfold f23 at he
  split at he <;> split at he <;> omega
set_option maxHeartbeats 64000000 in
theorem rsolve_ok (n m L : Nat) (hn : n ≤ 60) (hm : m ≤ 60) (A B X : Mx) (hN : NonSing n A) (hA : ∀ i k, i < n → k < n → rL (A i k) ≤ L) (hB : ∀ i k, i < n → k < m → rL (B i k) ≤ L) (hL1 : 1 ≤ L) (hL2 : 5 ^ n * L < 2 ^ 30)
  (hX : ∀ i c, i < n → c < m → (sumN n fun j => A i j * X j c) = B i c) :
  PCall Tryz.prog 63 [qM n n A, qM n m B] (.tup [qM n m X, .i .i64 0]) [] := by
 have hLs : L < 2 ^ 36 := by
  have : 1 * L ≤ 5 ^ n * L := Nat.mul_le_mul_right _ (Nat.one_le_pow _ _ (by decide))
  omega
 have crA := wright_q n n hn hn A (fun i k hi hk => by have := hA i k hi hk; omega)
 have crB := wright_q n m hn hm B (fun i k hi hk => by have := hB i k hi hk; omega)
 have cra := rrows_ok n n hn hn A
 have crb := rrows_sl n m hn hm B
 refine PCall.of_ax Tryz.call63 Tryz.func63 rfl (by simp [Tryz.ntmps63]) fun O w0 => ?_
 simp only [Tryz.ntmps63, Tryz.results63, argFr]
 unfold qM mV at *
 generalize (mcells n A (n * n)).map rV = Ac at *
 generalize (mcells m B (n * m)).map rV = Bc at *
 refine AX.sR (rgAV [2, 3, 4]) ?_
 refine AX.seq ?_
 refine AX.block ?_
 refine AX.sR (rgCV [2, 3, 4, 14] (aI crA (aI crB oT))) ?_
 refine AX.condF (h := ?_)
 refine AX.sR (rgAV [2, 3, 4, 24]) ?_
 refine AX.condF (h := ?_)
 refine AX.keepA [2, 3, 4] (h := ?_)
 refine AX.skip ?_
 refine nmZ (h := ?_)
 refine AX.sR (rgCV [2, 3, 4, 6] (aI cra oT)) ?_
 refine AX.weaken f10 (le10 hn (by simp [Row.ren, V.ren, V.renL]) (by simp [Row.ren, V.ren, V.renL]) (by simp [Row.ren, V.ren, V.renL]) (by simp [V.lt, V.ltL]) (by simp [V.lt, V.ltL]) (by simp [V.lt, V.ltL]) (by simp [LeFr, lkp, V.ren, V.lt, f10])) ?_
 refine AX.seq ?_
 refine AX.sR (rgWV [2, 3, 4, 6, 41, 42, 43] (aI @slRows_length oT) (aI crb oT)) ?_
 have hz1 : (gl n fun i => V.own (10 + i) 0 n 3) = apO n m 0 := gl_congr fun a ha => by rw [if_neg (Nat.not_lt_zero _)]
 have hz2 : fam 10 n (famQ n A) = fam 10 n (apF n m 0 A B) := fam_congr fun a ha => by
  unfold famQ apF
  rw [if_neg (Nat.not_lt_zero _)]
 rw [hz1, hz2]
 refine AX.block ?_
 refine AX.loop (fun N st => ∃ i : Nat, i ≤ n ∧ N = n - i ∧ st = ⟨[(43, .i .i64 i), (42, .i .i64 n), (41, .sl (slRows n m B)), (6, .own 3 0 n 1), (4, .ptr 2 0), (3, .ptr 1 0), (2, .ptr 0 0)], (3, ⟨22, apO n m i⟩) :: (2, ⟨32, [.i .i64 0, .i .i64 0, .nl]⟩) :: (1, ⟨32, [.i .i64 n, .i .i64 m, .sl Bc]⟩) :: (0, ⟨32, [.i .i64 n, .i .i64 n, .sl Ac]⟩) :: fam 10 n (apF n m i A B), 100⟩) n ⟨0, Nat.zero_le _, rfl, rfl⟩ ?_
 clear hz1 hz2
 rintro N st ⟨i, hi, rfl, rfl⟩
 by_cases h1 : i < n
 ·obtain ⟨⟨c0, c1, c2, c3, c4, c5⟩, d0, d1, d2, d3, d4, d5⟩ := pne10 (p := 10 + i) (by omega) (by omega)
  have hol := apO_length n m i
  have hog := apO_get (m := m) h1
  have hlk : lkp (fam 10 n (apF n m i A B)) (10 + i) = some ⟨41, qrow (vl n (A i))⟩ := by
   rw [lkp_fam _ h1]
   unfold apF
   rw [if_neg (Nat.lt_irrefl _)]
  have hbg : (slRows n m B).getD i .junk = .sl ((vl m (B i)).map rV) := gl_get _ h1
  have hbl := slRows_length n m B
  have happ := vl_app n m A B i
  have ln := vl_len3 n (A i)
  obtain ⟨p, hp⟩ : ∃ p, 10 + i = p := ⟨_, rfl⟩
  rw [hp] at hog hlk c0 c1 c2 c3 c4 c5 d0 d1 d2 d3 d4 d5
  refine AX.sR (rgAV [2, 3, 4, 6, 41, 42, 43, 44]) ?_
  refine AX.seq ?_
  refine AX.condT (h := ?_)
  refine AX.keepA [2, 3, 4, 6, 41, 42, 43] (h := ?_)
  refine AX.skip ?_
  refine nmZ (h := ?_)
  refine AX.seq ?_
  refine AX.block ?_
  refine AX.sR (rgWV [2, 3, 4, 6, 7, 8, 41, 42, 43] (aI @hbg (aI @hbl oT)) oT) ?_
  refine AX.rR (rgWV [2, 3, 4, 6, 41, 42, 43] (aI @hol (aI @hog (aI @hlk (aI @ln (aI @c0 (aI @c1 (aI @c2 (aI @c3 (aI @c4 (aI @c5 (aI @d0 (aI @d1 (aI @d2 (aI @d3 (aI @d4 (aI @d5 (aI @vl_mlen (aI @flatCells_q (aI @vl_len3 (aI @flat_q (aI @vl_one oT))))))))))))))))))))) oT) ?_
  refine nmZ (h := ?_)
  refine AX.rR (rgWV [2, 3, 4, 6, 41, 42, 43] (aI @lit_add oT) oT) ?_
  refine nmZ (h := ?_)
  obtain ⟨f, hf⟩ : ∃ f : Nat → Nat, f = fun x => if x = 10 + i then 100 else x := ⟨_, rfl⟩
  have hf1 : f (10 + i) = 100 := by rw [hf]; exact if_pos rfl
  have hfo : ∀ x, x ≠ 10 + i → f x = x := fun x hx => by rw [hf]; exact if_neg hx
  have hf0 := hfo 0 (by omega)
  have hf2 := hfo 1 (by omega)
  have hf3 := hfo 2 (by omega)
  have hf4 := hfo 3 (by omega)
  have hog2 := apO_next (m := m) h1 f hf1 hfo
  have hlt : V.ltL 101 (apO n m (i + 1)) = true := apO_lt hn (by decide)
  refine ⟨_, _, f, ?_,
   leFm (pre := [(3, ⟨22, apO n m (i + 1)⟩), (2, ⟨32, [.i .i64 0, .i .i64 0, .nl]⟩), (1, ⟨32, [.i .i64 n, .i .i64 m, .sl Bc]⟩), (0, ⟨32, [.i .i64 n, .i .i64 n, .sl Ac]⟩)]) ⟨?_, ?_, ?_, ?_, ?_⟩ ?_ ?_
   , ⟨i + 1, by omega, rfl, rfl⟩⟩
  ·omega
  ·simp [LeFr, lkp, V.ren, V.lt, hf0, hf2, hf3, hf4]
  ·have hlt0 : V.ltL 100 (apO n m (i + 1)) = true := apO_lt hn (by decide)
   simp [LeHp, lkp, Row.ren, V.ren, V.renL, hf0, hf2, hf3, hf4, hog2, hlt0, V.ltL, V.lt]
  ·simp [Apart, hf0, hf2, hf3, hf4]
  ·exact Nat.zero_le _
  ·exact fun n hn => absurd hn (Nat.not_lt_zero _)
  ·intro a ha
   refine ⟨by omega, ?_, apF_lt _ _ _ _ _ _ _⟩
   rw [apF_ren]
   by_cases e : a = i
   ·subst e
    rw [hf1]
    show some (⟨_, _⟩ : Row) = some (⟨_, _⟩ : Row)
    rw [if_pos (Nat.lt_succ_self a), ← qrow_app, happ]
   ·rw [hfo _ (by omega)]
    show lkp ((100, _) :: _) _ = _
    rw [lkp_ne (by omega), lkp_ne (by omega), lkp_ne (by omega), lkp_ne (by omega), lkp_ne (by omega), lkp_dlt, upd_ne _ _ (by omega), lkp_fam _ ha]
    unfold apF
    by_cases e2 : a < i
    ·rw [if_pos e2, if_pos (by omega)]
    ·rw [if_neg e2, if_neg (by omega)]
  ·have hlt9 : ∀ q ∈ [(3, (⟨22, apO n m (i + 1)⟩ : Row)), (2, ⟨32, [.i .i64 0, .i .i64 0, .nl]⟩), (1, ⟨32, [.i .i64 n, .i .i64 m, .sl Bc]⟩), (0, ⟨32, [.i .i64 n, .i .i64 n, .sl Ac]⟩)] ++ fam 10 n (apF n m (i + 1) A B), q.1 < 100 := fun q hq => by
    rcases List.mem_append.1 hq with h | h
    ·simp at h
     rcases h with h | h | h | h <;> (subst h; simp)
    ·have := fam_mem h
     omega
   intro x hx y hy he
   have a1 := hlt9 x hx
   have a2 := hlt9 y hy
   rw [hf] at he
   simp only at he
   split at he <;> split at he <;> omega
 ·obtain rfl : n = i := by omega
  have hM : NonSing n (aug n A B) := aug_nonsing hN
  have hML : ∀ a j, a < n → j < n + m → rL (aug n A B a j) ≤ L := fun a j ha hj => by
   unfold aug
   split
   ·exact hA a j ha (by omega)
   ·exact hB a (j - n) ha (by omega)
  have hcl := rcleared_ok n (n + m) L hn (by omega) (by omega) (aug n A B) hM hML hL1 hL2
  have hok := gj_ok (w := n + m) hM (by omega) n (Nat.le_refl n)
  have hsol := gj_sol (m := m) (X := X) hM fun i c hi hc => by
   have h1 : aug n A B i (n + c) = B i c := by
    unfold aug
    rw [if_neg (by omega), Nat.add_sub_cancel_left]
   rw [h1, ← hX i c hi hc]
   exact sumN_congr fun j hj => by
    unfold aug
    rw [if_pos hj]
  have hlen := gj_len hM (show n ≤ n + m by omega) hML hL1 n (Nat.le_refl n)
  have hz1 : apO n m n = gl n fun i => V.own (10 + i) 0 (n + m) 3 := gl_congr fun a ha => by rw [if_pos ha]
  have hz2 : fam 10 n (apF n m n A B) = fam 10 n (famQ (n + m) (aug n A B)) := fam_congr fun a ha => by
   unfold famQ apF
   rw [if_pos ha]
  rw [hz1, hz2]
  clear hz1 hz2
  generalize gj n (aug n A B) n = g at *
  obtain ⟨R, s, t, D⟩ := g
  dsimp only at hcl hsol hlen
  generalize aug n A B = M at *
  have hD : D ≠ 0 := hok.D
  have hs : ∀ i, i < n → s i < n := fun i hi => (hok.s i hi).1
  have hcl : GCall Tryz.prog 108 [.own 0 0 n 1, .i .i64 n] (outR n (n + m) id :: (List.range n).map (famQ (n + m) M)) (outR n (n + m) s :: (List.range n).map (famQ (n + m) R)) (.tup [.sl (tkL n n), .agg [.b (decide (D.num < 0)), dg (digits D.num.natAbs), dg (digits D.den)]]) := hcl
  have hnsl : (3 :: (List.range n).map (10 + ·)).length = n + 1 := by simp
  have hg5 : V.ltL (3 :: (List.range n).map (10 + ·)).length [.own 0 0 n 1, .i .i64 n] = true := by simp [V.ltL, V.lt]
  have hg6 : (3 :: (List.range n).map (10 + ·)).Nodup := by
   refine List.nodup_cons.2 ⟨fun h => ?_, List.pairwise_map.2 ((List.nodup_range (n := n)).imp fun h e => h (by omega))⟩
   obtain ⟨a, _, e⟩ := List.mem_map.1 h
   omega
  have hnm : ∀ a, a < n → nm (3 :: (List.range n).map (10 + ·)) (1 + a) = 10 + a := fun a ha => by
   unfold nm
   rw [Nat.add_comm, List.getD_cons_succ]
   simp [List.getD_eq_getElem?_getD, ha]
  have hor : ∀ s' : Nat → Nat, (∀ i, i < n → s' i < n) → (outR n (n + m) s').ren (nm (3 :: (List.range n).map (10 + ·))) = ⟨22, gl n fun i => .own (10 + s' i) 0 (n + m) 3⟩ := fun s' hs' => by
   unfold outR Row.ren
   rw [renL_glf]
   congr 1
   refine gl_congr fun i hi => ?_
   simp only [V.ren, hnm _ (hs' i hi)]
  have hrm : ∀ (hp : List (Nat × Row)) (ρ : Nat → Nat) (g : Nat) (l : List Nat), (∀ a ∈ l, lkp hp (10 + a) = some (famQ (n + m) M a)) → rowsAt ρ g hp (l.map (10 + ·)) (l.map (famQ (n + m) M)) := fun hp ρ g l => by
   induction l with
   | nil => exact fun _ => trivial
   | cons a l ih => exact fun h => ⟨by rw [famQ_ren]; exact h a (List.mem_cons_self ..), famQ_lt _ _ _ _, ih fun b hb => h b (List.mem_cons_of_mem _ hb)⟩
  obtain ⟨hp0, hhp0⟩ : ∃ x, ((3, (⟨22, gl n fun i => V.own (10 + i) 0 (n + m) 3⟩ : Row)) :: (2, ⟨32, [.i .i64 0, .i .i64 0, .nl]⟩) :: (1, ⟨32, [.i .i64 n, .i .i64 m, .sl Bc]⟩) :: (0, ⟨32, [.i .i64 n, .i .i64 n, .sl Ac]⟩) :: fam 10 n (famQ (n + m) M)) = x := ⟨_, rfl⟩
  have hk0 : lkp hp0 0 = some ⟨32, [.i .i64 n, .i .i64 n, .sl Ac]⟩ := by rw [← hhp0]; rfl
  have hk1 : lkp hp0 1 = some ⟨32, [.i .i64 n, .i .i64 m, .sl Bc]⟩ := by rw [← hhp0]; rfl
  have hk2 : lkp hp0 2 = some ⟨32, [.i .i64 0, .i .i64 0, .nl]⟩ := by rw [← hhp0]; rfl
  have hk3 : lkp hp0 3 = some ⟨22, gl n fun i => V.own (10 + i) 0 (n + m) 3⟩ := by rw [← hhp0]; rfl
  have hg7 : rowsAt (nm (3 :: (List.range n).map (10 + ·))) (3 :: (List.range n).map (10 + ·)).length hp0 (3 :: (List.range n).map (10 + ·)) (outR n (n + m) id :: (List.range n).map (famQ (n + m) M)) := by
   refine ⟨?_, ?_, hrm _ _ _ _ fun a ha => ?_⟩
   ·rw [hor id fun i hi => hi, hk3]
    rfl
   ·rw [hnsl]
    exact og_lt fun i hi => by simp only [id_eq]; omega
   ·have ha' : a < n := by simpa using ha
    rw [← hhp0, lkp_ne (by omega), lkp_ne (by omega), lkp_ne (by omega), lkp_ne (by omega)]
    exact lkp_fam _ ha'
  refine AX.sR (rgAV [2, 3, 4, 6, 41, 42, 43, 44]) ?_
  refine AX.seq ?_
  refine AX.condF (h := ?_)
  refine AX.exit ?_
  refine nmZ (h := ?_)
  rw [hhp0]
  apply AX.sreg [2, 3, 4, 6, 10] (by simp only [pq]; rfl)
  ·repeat (first
  |(apply RunO.op rfl; · rfl
    ·(simp only [opsOf, valsOf, valOf, lkp, ofConst, ofCell, Array.toList, Option.toList, List.map_cons, List.map_nil, List.cons_append, List.nil_append, List.append_nil, Nat.reduceEqDiff, Nat.reducePow, Nat.reduceLT, Nat.reduceLeDiff, reduceIte, if_true, if_false, IntKind.min, IntKind.max, IntKind.bits, IntKind.signed, Int.reduceLE, Int.reduceNeg, Int.reducePow, Int.reduceSub, and_self, Bool.false_eq_true, Nat.reduceSub]; rfl)
    iterate 2 (· (simp (disch := omega) only [go_sem, i64_of, u32_of, u64_of, Nat.reduceLT, Nat.reduceLeDiff, Nat.reduceEqDiff, Nat.reduceAdd, Nat.reduceSub, Nat.reduceMul, Nat.reducePow, Nat.reduceBEq, Int.reduceLE, Int.reduceLT, Int.reduceToNat, Int.reduceEq, Int.reduceNeg, reduceIte, reduceCtorEq, hk0]; rfl))
    ·(simp only [pb, Nat.reduceLT, Nat.reduceAdd, reduceIte]; rfl))
  |(apply RunO.gcall (3 :: (List.range n).map (10 + ·)) rfl; · rfl
    ·(simp only [opsOf, valsOf, valOf, lkp, ofConst, ofCell, Array.toList, Option.toList, List.map_cons, List.map_nil, List.cons_append, List.nil_append, List.append_nil, Nat.reduceEqDiff, Nat.reducePow, Nat.reduceLT, Nat.reduceLeDiff, reduceIte, if_true, if_false, IntKind.min, IntKind.max, IntKind.bits, IntKind.signed, Int.reduceLE, Int.reduceNeg, Int.reducePow, Int.reduceSub, and_self, Bool.false_eq_true, Nat.reduceSub]; rfl)
    ·exact hcl
    ·rfl
    ·exact hg5
    ·exact hg6
    ·exact hg7
    ·rfl
    ·(simp only [pb, Nat.reduceLT, Nat.reduceAdd, reduceIte]; rfl))
  |(apply RunO.skip; · rfl
    ·(simp only [pb, Nat.reduceLT, Nat.reduceAdd, reduceIte]; rfl)))
   exact RunO.nil
  ·repeat (first | exact Keep.nil | (apply Keep.take; · rfl) | (apply Keep.drop; · rfl))
  have ho0 := fun x (hx : x ∉ (3 :: (List.range n).map (10 + ·))) => setRows_out (ρ := nm (3 :: (List.range n).map (10 + ·))) (3 :: (List.range n).map (10 + ·)) (outR n (n + m) s :: (List.range n).map (famQ (n + m) R)) hp0 x hx
  have hnot : ∀ x, x < 3 → x ∉ (3 :: (List.range n).map (10 + ·)) := fun x hx h => by
   rcases List.mem_cons.1 h with h | h
   ·omega
   ·obtain ⟨a, _, e⟩ := List.mem_map.1 h
    omega
  have g0 := (ho0 0 (hnot 0 (by omega))).trans hk0
  have g1 := (ho0 1 (hnot 1 (by omega))).trans hk1
  have g2 := (ho0 2 (hnot 2 (by omega))).trans hk2
  have hin := setRows_in (ρ := nm (3 :: (List.range n).map (10 + ·))) (3 :: (List.range n).map (10 + ·)) (outR n (n + m) s :: (List.range n).map (famQ (n + m) R)) hp0 hg6 (by simp)
  have g3 := (hin 0 (by simp)).trans (congrArg some (hor s hs))
  have gf : ∀ a, a < n → lkp (setRows (nm (3 :: (List.range n).map (10 + ·))) (3 :: (List.range n).map (10 + ·)) (outR n (n + m) s :: (List.range n).map (famQ (n + m) R)) hp0) (10 + a) = some (famQ (n + m) R a) := fun a ha => by
   have h1 := hin (a + 1) (by simpa using ha)
   rw [List.getD_cons_succ, List.getD_cons_succ, range_getD _ ha, famQ_ren] at h1
   have h2 : ((List.range n).map (10 + ·)).getD a 0 = 10 + a := by simp [List.getD_eq_getElem?_getD, ha]
   rwa [h2] at h1
  have g3 : lkp (setRows (nm (3 :: (List.range n).map (10 + ·))) (3 :: (List.range n).map (10 + ·)) (outR n (n + m) s :: (List.range n).map (famQ (n + m) R)) hp0) 3 = some ⟨22, gl n fun i => .own (10 + s i) 0 (n + m) 3⟩ := g3
  obtain ⟨og, hog⟩ : ∃ x, (gl n fun i => V.own (10 + s i) 0 (n + m) 3) = x := ⟨_, rfl⟩
  have hog9 := hog
  have ogl : og.length = n := by rw [← hog]; exact gl_length ..
  have ogg : ∀ i, i < n → og.getD i .junk = .own (10 + s i) 0 (n + m) 3 := fun i hi => by rw [← hog]; exact gl_get _ hi
  have oglt : ∀ k, 70 ≤ k → V.ltL k og = true := fun k hk => by
   rw [← hog]
   exact ltL_gln n fun i hi => by
    have := hs i hi
    simp only [V.lt, decide_eq_true_eq]
    omega
  rw [hog] at g3
  clear hin ho0 hnot hg7 hrm hor hg6 hg5 hcl
  generalize setRows (nm (3 :: (List.range n).map (10 + ·))) (3 :: (List.range n).map (10 + ·)) (outR n (n + m) s :: (List.range n).map (famQ (n + m) R)) hp0 = hp1 at *
  have og1 := oglt 101 (by omega)
  have og3 := oglt 103 (by omega)
  have gg := And.intro g0 (And.intro g1 (And.intro g2 (And.intro g3 og1)))
  refine AX.weaken id (st' := ⟨[(10, .ptr 100 0), (6, .own 3 0 n 1), (4, .ptr 2 0), (3, .ptr 1 0), (2, .ptr 0 0)], (100, ⟨41, [.b (decide (D.num < 0)), dg (digits D.num.natAbs), dg (digits D.den)]⟩) :: (3, ⟨22, og⟩) :: (2, ⟨32, [.i .i64 0, .i .i64 0, .nl]⟩) :: (1, ⟨32, [.i .i64 n, .i .i64 m, .sl Bc]⟩) :: (0, ⟨32, [.i .i64 n, .i .i64 n, .sl Ac]⟩) :: fam 10 n (famQ (n + m) R), 101⟩)
   (leG5
    (leQ8H gg)
    (Nat.zero_le _) (by omega) (fun a ha => by
     show lkp ((100, _) :: hp1) _ = _
     rw [lkp_ne (by omega)]
     exact gf a ha))
   ?_
  have cs : PCall Tryz.prog 31 [.agg [.b (decide (D.num < 0)), dg (digits D.num.natAbs), dg (digits D.den)]] (.i .i64 (sgnR D)) [] := psign_ok (IsQ.of hlen.2) (by omega)
  have hz : ¬ sgnR D = 0 := fun e => hD (sgnR_eq_zero.1 e)
  refine AX.seq ?_
  refine AX.sR (rgWV [2, 3, 4, 6, 67] (aI @hz oT) (aI cs oT)) ?_
  refine AX.condF (h := ?_)
  refine AX.keepA [2, 3, 4, 6] (h := ?_)
  refine AX.skip ?_
  refine nmZ (h := ?_)
  refine AX.sR (rgAV [2, 4, 6, 11]) ?_
  refine AX.own0c 101 2 41 3 rfl rfl (by show 2 < 3; decide) ?_
  refine AX.seq ?_
  refine AX.sR (rgWV [2, 4, 11, 74, 75, 76] (aI @ogl oT) oT) ?_
  have hfd := fun c => dlt_fam (b := 10) (n := n) (m := 102) (famQ (n + m) R) (by omega)
  refine AX.weaken id (st' := ⟨[(76, .i .i64 (0 : Nat)), (75, .i .i64 n), (74, .own 3 0 n 1), (11, .ptr 101 0), (4, .ptr 2 0), (2, .ptr 0 0)], (102, ⟨41, qrow (mcells m X 0)⟩) :: (101, ⟨32, [.i .i64 n, .i .i64 m, .own 102 0 0 3]⟩) :: (3, ⟨22, og⟩) :: (2, ⟨32, [.i .i64 0, .i .i64 0, .nl]⟩) :: (0, ⟨32, [.i .i64 n, .i .i64 n, .sl Ac]⟩) :: fam 10 n (famQ (n + m) R), 103⟩)
   (leG5
    (leQ8H og3)
    (Nat.zero_le _) (by omega) (fun a ha => by
     show lkp ((102, _) :: (101, _) :: (100, _) :: (3, _) :: (2, _) :: (1, _) :: (0, _) :: fam 10 n _) _ = _
     rw [lkp_ne (by omega), lkp_ne (by omega), lkp_ne (by omega), lkp_ne (by omega), lkp_ne (by omega), lkp_ne (by omega), lkp_ne (by omega)]
     exact lkp_fam _ ha))
   ?_
  clear gg og1 gf g0 g1 g2 g3 hk0 hk1 hk2 hk3 cs hz
  refine AX.block ?_
  refine AX.loop (fun N st => ∃ i K : Nat, i ≤ n ∧ N = n - i ∧ i * m = K ∧ st = ⟨[(76, .i .i64 i), (75, .i .i64 n), (74, .own 3 0 n 1), (11, .ptr 101 0), (4, .ptr 2 0), (2, .ptr 0 0)], (102, ⟨41, qrow (mcells m X K)⟩) :: (101, ⟨32, [.i .i64 n, .i .i64 m, .own 102 0 K 3]⟩) :: (3, ⟨22, og⟩) :: (2, ⟨32, [.i .i64 0, .i .i64 0, .nl]⟩) :: (0, ⟨32, [.i .i64 n, .i .i64 n, .sl Ac]⟩) :: fam 10 n (famQ (n + m) R), 103⟩) n ⟨0, 0, Nat.zero_le _, rfl, Nat.zero_mul _, rfl⟩ ?_
  rintro N st ⟨i, K, hi, rfl, hK, rfl⟩
  have hKb : K ≤ 60 * 60 := by rw [← hK]; exact Nat.mul_le_mul (by omega) hm
  by_cases h1 : i < n
  ·have hsi := hs i h1
   obtain ⟨c0, c1, c2, c3, c4, c5, c6, c7⟩ := pneS (p := 10 + s i) (by omega) (by omega)
   have hog := ogg i h1
   have hlk : lkp (fam 10 n (famQ (n + m) R)) (10 + s i) = some ⟨41, qrow (vl (n + m) (R (s i)))⟩ := lkp_fam (famQ (n + m) R) hsi
   have ln := vl_len3 (n + m) (R (s i))
   have htl := vl_tail (n := n) (m := m) (v := R (s i)) (x := X i) fun c hc => hsol i c h1 hc
   have lm := vl_len3 m (X i)
   have lK : (qrow (mcells m X K)).length = K * 3 := by rw [qrow_length, mcells_length]
   have hrow := mcells_rowS m X i
   rw [hK] at hrow
   have hdl := dlt_fam (b := 10) (n := n) (m := 102) (famQ (n + m) R) (by omega)
   obtain ⟨p, hp⟩ : ∃ p, 10 + s i = p := ⟨_, rfl⟩
   rw [hp] at hog hlk c0 c1 c2 c3 c4 c5 c6 c7
   by_cases hm0 : 0 < m
   ·refine AX.sR (rgAV [2, 4, 11, 74, 75, 76, 77]) ?_
    refine AX.seq ?_
    refine AX.condT (h := ?_)
    refine AX.keepA [2, 4, 11, 74, 75, 76] (h := ?_)
    refine AX.skip ?_
    refine nmZ (h := ?_)
    refine AX.seq ?_
    refine AX.block ?_
    refine AX.sR (rgWV [2, 4, 11, 13, 74, 75, 76] (aI @ogl (aI @hog (aI @c0 (aI @c1 (aI @c2 (aI @c3 (aI @c4 (aI @c5 (aI @c6 (aI @c7 oT)))))))))) oT) ?_
    refine AX.rD (rgDWV [2, 4, 11, 74, 75, 76] (aI hlk (aI ln (aI htl (aI lm (aI lK (aI hdl (aI flat_q (aI Nat.add_sub_cancel_left (aI c0 (aI c1 (aI c2 (aI c3 (aI c4 (aI c5 (aI c6 (aI c7 oT)))))))))))))))) oT (hok := okDraw_of (by kernel_rfl))) ?_
    refine nmZ (h := ?_)
    rw [← qrow_app, hrow]
    refine AX.rR (rgWV [2, 4, 11, 74, 75, 76] (aI @lit_add oT) oT) ?_
    refine nmZ (h := ?_)
    refine ⟨_, _, f23, ?_,
     le23 hn hog9.symm hs (by simp [LeFr, lkp, V.ren, V.lt, f23])
     , ⟨i + 1, K + m, by omega, rfl, by rw [Nat.succ_mul, hK], rfl⟩⟩
    omega
   ·obtain rfl : m = 0 := by omega
    refine AX.sR (rgAV [2, 4, 11, 74, 75, 76, 77]) ?_
    refine AX.seq ?_
    refine AX.condT (h := ?_)
    refine AX.keepA [2, 4, 11, 74, 75, 76] (h := ?_)
    refine AX.skip ?_
    refine nmZ (h := ?_)
    refine AX.seq ?_
    refine AX.block ?_
    refine AX.sR (rgWV [2, 4, 11, 13, 74, 75, 76] (aI @ogl (aI @hog (aI @c0 (aI @c1 (aI @c2 (aI @c3 (aI @c4 (aI @c5 (aI @c6 (aI @c7 oT)))))))))) oT) ?_
    apply AX.dreg [2, 4, 11, 74, 75, 76] (by kernel_rfl) (by simp only [pq]; rfl)
    ·repeat (first
    |(apply RunD.op rfl; · rfl
      ·(simp only [opsOf, valsOf, valOf, lkp, ofConst, ofCell, Array.toList, Option.toList, List.map_cons, List.map_nil, List.cons_append, List.nil_append, List.append_nil, Nat.reduceEqDiff, Nat.reducePow, Nat.reduceLT, Nat.reduceLeDiff, reduceIte, if_true, if_false, IntKind.min, IntKind.max, IntKind.bits, IntKind.signed, Int.reduceLE, Int.reduceNeg, Int.reducePow, Int.reduceSub, and_self, Bool.false_eq_true, Nat.reduceSub]; rfl)
      iterate 2 (· (simp (disch := omega) only [go_sem, i64_of, u32_of, u64_of, Nat.reduceLT, Nat.reduceLeDiff, Nat.reduceEqDiff, Nat.reduceAdd, Nat.reduceSub, Nat.reduceMul, Nat.reducePow, Nat.reduceBEq, Int.reduceLE, Int.reduceLT, Int.reduceToNat, Int.reduceEq, Int.reduceNeg, reduceIte, reduceCtorEq, lK, hdl, Nat.add_zero]; rfl))
      ·(simp only [pb, Nat.reduceLT, Nat.reduceAdd, reduceIte]; rfl)
      ·rfl)
    |(apply RunD.endSl (h := p) (off := 0) (len := n) (E := 3) rfl rfl; · rfl
      ·(simp only [opsOf, valsOf, valOf, lkp, ofConst, ofCell, Array.toList, Option.toList, List.map_cons, List.map_nil, List.cons_append, List.nil_append, List.append_nil, Nat.reduceEqDiff, Nat.reducePow, Nat.reduceLT, Nat.reduceLeDiff, reduceIte, if_true, if_false, IntKind.min, IntKind.max, IntKind.bits, IntKind.signed, Int.reduceLE, Int.reduceNeg, Int.reducePow, Int.reduceSub, and_self, Bool.false_eq_true, Nat.reduceSub]; first | done | rfl)
      ·exact Tryz.underlying22
      ·exact lay_ratio
      ·(simp only [pb, Nat.reduceLT, Nat.reduceAdd, reduceIte]; rfl)
      ·rfl)
    |(apply RunD.skip; · rfl
      ·(simp only [pb, Nat.reduceLT, Nat.reduceAdd, reduceIte]; rfl)
      ·rfl))
     exact RunD.nil
    ·repeat (first | exact Keep.nil | (apply Keep.take; · rfl) | (apply Keep.drop; · rfl))
    ·exact okDraw_of (by kernel_rfl)
    refine nmZ (h := ?_)
    rw [show flatCells ([] : List V) = [] from rfl, List.append_nil, dlt_fam (b := 10) (n := n) (m := 102) (famQ n R) (by omega)]
    refine AX.rR (rgWV [2, 4, 11, 74, 75, 76] (aI @lit_add oT) oT) ?_
    refine nmZ (h := ?_)
    refine ⟨_, _, f23, ?_,
     le23 (m := 0) (K := K) (w := n) (R := R) hn hog9.symm hs (by simp [LeFr, lkp, V.ren, V.lt, f23])
     , ⟨i + 1, K, by omega, rfl, by rw [← hK, Nat.mul_zero, Nat.mul_zero], rfl⟩⟩
    omega
  ·obtain rfl : n = i := by omega
   refine AX.sR (rgAV [2, 4, 11, 74, 75, 76, 77]) ?_
   refine AX.seq ?_
   refine AX.condF (h := ?_)
   refine AX.exit ?_
   refine nmZ (h := ?_)
   rw [hK]
   refine AX.sR (rgAV [4, 5]) ?_
   refine AX.ret ⟨.inl rfl, ?_⟩
   exact Done.matS lay_mat19 rfl rfl rfl rfl (mcells_length ..).symm
end Go.Proofs.YtepkjfnffbdcoaaGreat
