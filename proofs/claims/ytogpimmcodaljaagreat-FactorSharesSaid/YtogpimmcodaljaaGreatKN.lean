/- Factors: the variables of both (plain); the binary search in a list of the caller's own. -/
import Derived.Test.YtogpimmcodaljaaGreatKK
import Derived.Test.YtogpimmcodaljaaGreatKM
set_option linter.unusedVariables false
set_option maxRecDepth 20000
set_option linter.unusedSimpArgs false
namespace Go.Proofs.YtogpimmcodaljaaGreat
open Go Go.Proofs.YtogpimmcodaljaaGreat.Lift
attribute [local irreducible] Lift.PCall Lift.HCall
theorem Lift.DoneG.twB {st : St} {t t' : Tmp} {n : Int} {b : Bool} {T0 : TypeId} {l : List Int} (h1 : lkp st.fr t = some (.i .i64 n)) (h2 : lkp st.fr t' = some (.b b)) (h3 : lkp st.hp 0 = some ⟨T0, zl l⟩) : DoneG Tryz.prog #[.tmp t, .tmp t'] (.tup [.i .i64 n, .b b]) [⟨T0, zl l⟩] st := by
 refine ⟨[.i .i64 n, .b b], ?_, rfl, rfl, rfl, fun k hk => ?_⟩
 ·simp only [resVs, resV, h1, h2]
 ·obtain rfl : k = 0 := by simpa using hk
  exact ⟨h3, lt_zl _ _, ren_zl _ _⟩
def joT (t s : Nat → Nat) : Nat → Nat := fun u => if t u ≠ 0 then t u else s u
def joI (t s : Nat → Nat) (j : Nat) : Nat → Nat := fun u => if t u ≠ 0 then t u else if u ∈ (vsT s).take j then s u else 0
def misT (t s : Nat → Nat) : Prop := ∃ j, j < (vsT s).length ∧ t ((vsT s).getD j 0) ≠ 0 ∧ t ((vsT s).getD j 0) ≠ s ((vsT s).getD j 0)
theorem joT_le {t s : Nat → Nat} (ht : ∀ v, t v ≤ 64) (hs : ∀ v, s v ≤ 64) (v : Nat) : joT t s v ≤ 64 := by
 unfold joT
 split
 ·exact ht v
 ·exact hs v
theorem joI_le {t s : Nat → Nat} (ht : ∀ v, t v ≤ 64) (hs : ∀ v, s v ≤ 64) (j v : Nat) : joI t s j v ≤ 64 := by
 unfold joI
 split
 ·exact ht v
 ·split
  ·exact hs v
  ·exact Nat.zero_le _
theorem joI_zero {t s : Nat → Nat} : joI t s 0 = t := funext fun u => by
 unfold joI
 by_cases h : t u = 0
 ·rw [if_neg (by omega), h]
  simp
 ·rw [if_pos h]
theorem joI_end {t s : Nat → Nat} {v : Nat} (hv : v < 64) : joI t s (vsT s).length v = joT t s v := by
 unfold joI joT
 rw [List.take_length]
 split
 ·rfl
 ·split
  ·rfl
  ·rename_i h
   apply Eq.symm
   apply Classical.byContradiction
   intro h0
   exact h (vsT_mem.2 ⟨hv, h0⟩)
theorem take_succ_mem {l : List Nat} {j u : Nat} (hj : j < l.length) : u ∈ l.take (j + 1) ↔ u ∈ l.take j ∨ u = l.getD j 0 := by
 rw [List.take_succ_eq_append_getElem hj, List.mem_append, List.mem_singleton, List.getD_eq_getElem?_getD, List.getElem?_eq_getElem hj]
 rfl
theorem joI_nz {t s : Nat → Nat} {j u : Nat} (h : t u ≠ 0) : joI t s j u = t u := if_pos h
theorem joI_z {t s : Nat → Nat} {j u : Nat} (h : t u = 0) : joI t s j u = if u ∈ (vsT s).take j then s u else 0 := if_neg (fun h' => h' h)
theorem joI_mem {t s : Nat → Nat} {j u : Nat} (hj : j < (vsT s).length) (e : u ≠ (vsT s).getD j 0) : joI t s (j + 1) u = joI t s j u := by
 by_cases h0 : t u = 0
 ·rw [joI_z h0, joI_z h0]
  have : u ∈ (vsT s).take (j + 1) ↔ u ∈ (vsT s).take j := by rw [take_succ_mem hj]; exact ⟨fun h => h.elim id fun h => absurd h e, .inl⟩
  by_cases hm : u ∈ (vsT s).take j
  ·rw [if_pos hm, if_pos (this.2 hm)]
  ·rw [if_neg hm, if_neg (fun h => hm (this.1 h))]
 ·rw [joI_nz h0, joI_nz h0]
theorem joI_keep {t s : Nat → Nat} {j : Nat} (hj : j < (vsT s).length) (h : t ((vsT s).getD j 0) ≠ 0) : joI t s (j + 1) = joI t s j := funext fun u => by
 by_cases e : u = (vsT s).getD j 0
 ·rw [e, joI_nz h, joI_nz h]
 ·exact joI_mem hj e
theorem joI_new {t s : Nat → Nat} {j : Nat} (hj : j < (vsT s).length) (h : t ((vsT s).getD j 0) = 0) : joI t s (j + 1) = updT (joI t s j) ((vsT s).getD j 0) (s ((vsT s).getD j 0)) := funext fun u => by
 by_cases e : u = (vsT s).getD j 0
 ·rw [e, updT_same, joI_z h, if_pos ((take_succ_mem hj).2 (.inr rfl))]
 ·rw [updT_ne _ _ e]
  exact joI_mem hj e
theorem joI_at {t s : Nat → Nat} {j : Nat} (hj : j < (vsT s).length) : joI t s j ((vsT s).getD j 0) = t ((vsT s).getD j 0) := by
 unfold joI
 split
 ·rfl
 ·rename_i h
  rw [if_neg]
  ·omega
  ·intro hm
   obtain ⟨i, hi, e⟩ := mem_getD0 hm
   rw [List.length_take] at hi
   rw [List.getD_eq_getElem?_getD, List.getElem?_take, if_pos (by omega), ← List.getD_eq_getElem?_getD] at e
   have := vsT_inj (show i < (vsT s).length by omega) hj e
   omega
theorem vsT_ins {t : Nat → Nat} {v x k : Nat} (hv : v < 64) (h0 : t v = 0) (hx : x ≠ 0) (hk : k ≤ (vsT t).length) (h1 : ∀ j, j < k → (vsT t).getD j 0 < v) (h2 : ∀ j, k ≤ j → j < (vsT t).length → v < (vsT t).getD j 0) : vsT (updT t v x) = (vsT t).take k ++ v :: (vsT t).drop k := by
 have m1 : ∀ u, u ∈ (vsT t).take k → u < v := fun u hu => by
  obtain ⟨j, hj, rfl⟩ := mem_getD0 hu
  rw [List.length_take] at hj
  rw [List.getD_eq_getElem?_getD, List.getElem?_take, if_pos (by omega), ← List.getD_eq_getElem?_getD]
  exact h1 j (by omega)
 have m2 : ∀ u, u ∈ (vsT t).drop k → v < u := fun u hu => by
  obtain ⟨j, hj, rfl⟩ := mem_getD0 hu
  rw [List.length_drop] at hj
  rw [List.getD_eq_getElem?_getD, List.getElem?_drop, ← List.getD_eq_getElem?_getD]
  exact h2 (k + j) (by omega) (by omega)
 have mem : ∀ u, u ∈ vsT t ↔ u ∈ (vsT t).take k ∨ u ∈ (vsT t).drop k := fun u => by
  rw [← List.mem_append, List.take_append_drop]
 refine asc_ext (vsT_asc _) ?_ fun u => ?_
 ·refine List.pairwise_append.2 ⟨(vsT_asc t).sublist (List.take_sublist ..), List.pairwise_cons.2 ⟨m2, (vsT_asc t).sublist (List.drop_sublist ..)⟩, fun a ha b hb => ?_⟩
  rcases List.mem_cons.1 hb with rfl | hb
  ·exact m1 a ha
  ·exact Nat.lt_trans (m1 a ha) (m2 b hb)
 ·rw [vsT_mem, List.mem_append, List.mem_cons]
  by_cases e : u = v
  ·subst e
   rw [updT_same]
   exact ⟨fun _ => .inr (.inl rfl), fun _ => ⟨hv, hx⟩⟩
  ·rw [updT_ne _ _ e, ← vsT_mem, mem]
   constructor
   ·rintro (h | h)
    ·exact .inl h
    ·exact .inr (.inr h)
   ·rintro (h | h | h)
    ·exact .inl h
    ·exact absurd h e
    ·exact .inr h
theorem asT_ins {t : Nat → Nat} {v x k : Nat} (hv : v < 64) (h0 : t v = 0) (hx : x ≠ 0) (hk : k ≤ (vsT t).length) (h1 : ∀ j, j < k → (vsT t).getD j 0 < v) (h2 : ∀ j, k ≤ j → j < (vsT t).length → v < (vsT t).getD j 0) : asT (updT t v x) = (asT t).take k ++ x :: (asT t).drop k := by
 unfold asT
 rw [vsT_ins hv h0 hx hk h1 h2, List.map_append, List.map_cons, updT_same, ← List.map_take, ← List.map_drop]
 have hne : ∀ u, u ∈ vsT t → updT t v x u = t u := fun u hu => updT_ne _ _ (fun e => (vsT_mem.1 hu).2 (e ▸ h0))
 rw [List.map_congr_left fun u hu => hne u (List.mem_of_mem_take hu), List.map_congr_left fun u hu => hne u (List.mem_of_mem_drop hu)]
theorem ci_ins (l : List Nat) (k x : Nat) : insL (ci l) k (x : Int) = ci (l.take k ++ x :: l.drop k) := by
 unfold insL ci
 rw [List.map_append, List.map_cons, List.map_take, List.map_drop]
theorem bs_new {t : Nat → Nat} {v : Nat} (h0 : t v = 0) : ∃ k, k ≤ (vsT t).length ∧ bsN (ci (vsT t)) v (ci (vsT t)).length 0 (ci (vsT t)).length = k ∧ (∀ j, j < k → (vsT t).getD j 0 < v) ∧ ∀ j, k ≤ j → j < (vsT t).length → v < (vsT t).getD j 0 := by
 obtain ⟨s1, s2⟩ := bsN_spec (v := v) (pw_ci (vsT_asc t)) (ci (vsT t)).length 0 (ci (vsT t)).length (by omega) (Nat.zero_le _) (Nat.le_refl _) (fun k hk => absurd hk (Nat.not_lt_zero _)) (fun k h1 h2 => absurd h2 (by omega))
 have hle := bsN_le (l := ci (vsT t)) (v := v) (ci (vsT t)).length 0 (ci (vsT t)).length (Nat.zero_le _)
 generalize bsN (ci (vsT t)) v (ci (vsT t)).length 0 (ci (vsT t)).length = R at *
 rw [ci_length] at hle
 refine ⟨R, hle, rfl, fun j hj => ?_, fun j hj hjl => ?_⟩
 ·have := s1 j hj
  rw [cast_get] at this
  omega
 ·have h1 := s2 j hj (by rw [ci_length]; exact hjl)
  rw [cast_get] at h1
  have h2 : (vsT t).getD j 0 ≠ v := fun e => (vsT_get hjl).2 (by rw [e]; exact h0)
  omega
set_option maxHeartbeats 8000000 in
theorem fbs_g (l : List Int) (v : Int) (hl : l.length < 2 ^ 40) (hb : ∀ k, k < l.length → -9223372036854775808 ≤ l.getD k 0 ∧ l.getD k 0 ≤ 9223372036854775807) (hv : -9223372036854775808 ≤ v ∧ v ≤ 9223372036854775807) :
  GCall Tryz.prog 31 [.own 0 0 l.length 1, .i .i64 v] [⟨3, zl l⟩] [⟨3, zl l⟩] (.tup [.i .i64 (bsN l v l.length 0 l.length : Nat), .b (decide (bsN l v l.length 0 l.length < l.length ∧ l.getD (bsN l v l.length 0 l.length) 0 = v))]) := by
 have hzl := zl_length l
 have hg := fun j (hj : j < l.length) => zl_get hj
 have cl := fun j (hj : j < l.length) => cless_ok (l.getD j 0) v (hb j hj) hv
 have cn := fun j (hj : j < l.length) => isnans_ok (l.getD j 0) (hb j hj)
 obtain ⟨R, hR⟩ : ∃ R, bsN l v l.length 0 l.length = R := ⟨_, rfl⟩
 rw [hR]
 refine GCall.of_ax rfl Tryz.call31 Tryz.func31 rfl (by simp [Tryz.ntmps31]) fun O M w0 E0 => ?_
 simp only [Tryz.ntmps31, Tryz.results31, argFr, rowsFr, List.length_cons, List.length_nil, Nat.zero_add, Nat.reduceAdd]
 refine AX.sR (rgAV [0, 1]) ?_
 refine AX.sR (rgWV [0, 1, 6] (aI @hzl oT) oT) ?_
 refine AX.sR (rgAV [0, 1, 6, 7, 8]) ?_
 refine AX.seq ?_
 refine AX.weaken id (st' := ⟨[(8, .i .i64 l.length), (7, .i .i64 (0 : Nat)), (6, .i .i64 l.length), (1, .i .i64 v), (0, .own 0 0 l.length 1)], [(0, ⟨3, zl l⟩)], 1⟩)
  leQ5
  ?_
 refine AX.block ?_
 refine AX.loop (fun N st => ∃ (i j f : Nat), i ≤ j ∧ j ≤ l.length ∧ N = j - i ∧ j - i ≤ f ∧ bsN l v f i j = R ∧ st = ⟨[(8, .i .i64 j), (7, .i .i64 i), (6, .i .i64 l.length), (1, .i .i64 v), (0, .own 0 0 l.length 1)], [(0, ⟨3, zl l⟩)], 1⟩) l.length ⟨0, l.length, l.length, Nat.zero_le _, Nat.le_refl _, rfl, Nat.le_refl _, hR, rfl⟩ ?_
 rintro N st ⟨i, j, f, hij, hj, rfl, hf, hbs, rfl⟩
 refine AX.seq ?_
 by_cases h1 : i < j
 ·obtain ⟨f, rfl⟩ : ∃ f', f = f' + 1 := ⟨f - 1, by omega⟩
  obtain ⟨h, hh⟩ : ∃ h, (i + j) / 2 = h := ⟨_, rfl⟩
  have hb1 : i ≤ h ∧ h < j := by omega
  have g1 := hg h (by omega)
  have c1 := cl h (by omega)
  have hbs' : (if l.getD h 0 < v then bsN l v f (h + 1) j else bsN l v f i h) = R := by
   rw [← hbs, ← hh]
   show _ = if i < j then _ else _
   rw [if_pos h1]
  have b3 := hb h (by omega)
  clear hg cl cn hbs hR hb
  generalize l.getD h 0 = y at *
  refine AX.sR (rgAV [0, 1, 6, 7, 8, 15]) ?_
  refine AX.condT ?_
  refine AX.keepA [0, 1, 6, 7, 8] ?_
  refine AX.skip ?_
  refine nmZ ?_
  refine AX.block ?_
  refine AX.sR (rgWV [0, 1, 6, 7, 8, 9] (aI @cAdd (aI @shr1 (aI @hh oT))) oT) ?_
  by_cases h2 : y < v
  ·rw [if_pos h2] at hbs'
   refine AX.sR (rgWV [0, 1, 6, 7, 8, 9, 27] (aI @hzl (aI @g1 oT)) (aI c1 oT)) ?_
   refine AX.condT ?_
   refine AX.rR (rgWV [0, 1, 6, 7, 8] (aI @lit_add oT) oT) ?_
   refine nmZ ?_
   refine ⟨_, _, id, ?_,
    leQ5
    , ⟨h + 1, j, f, by omega, hj, rfl, by omega, hbs', rfl⟩⟩
   omega
  ·rw [if_neg h2] at hbs'
   refine AX.sR (rgWV [0, 1, 6, 7, 8, 9, 27] (aI @hzl (aI @g1 oT)) (aI c1 oT)) ?_
   refine AX.condF ?_
   refine AX.rR (rgAV [0, 1, 6, 7, 8]) ?_
   refine nmZ ?_
   refine ⟨_, _, id, ?_,
    leQ5
    , ⟨i, h, f, by omega, by omega, rfl, by omega, hbs', rfl⟩⟩
   omega
 ·have hRi : i = R := by rw [← hbs, bsN_end h1]
  subst hRi
  refine AX.sR (rgAV [0, 1, 6, 7, 8, 15]) ?_
  refine AX.condF ?_
  refine AX.exit ?_
  refine nmZ ?_
  by_cases h2 : i < l.length
  ·have g1 := hg i h2
   have c1 := cn i h2
   have b3 := hb i h2
   have e1 : decide (i < l.length ∧ l.getD i 0 = v) = decide (l.getD i 0 = v) := by simp [h2]
   rw [e1]
   clear hg cl cn hR hb e1 hbs
   generalize l.getD i 0 = y at *
   by_cases h3 : y = v
   ·subst h3
    rw [show decide (y = y) = true from decide_eq_true rfl]
    refine AX.sR (rgWV [4, 5] (aI @hzl (aI @g1 oT)) (aI c1 oT)) ?_
    refine AX.ret ⟨.inl rfl, ?_⟩
    exact Lift.DoneG.twB rfl rfl rfl
   ·rw [show decide (y = v) = false from decide_eq_false h3]
    refine AX.sR (rgWV [4, 5] (aI @hzl (aI @g1 (aI @h3 oT))) (aI c1 oT)) ?_
    refine AX.ret ⟨.inl rfl, ?_⟩
    exact Lift.DoneG.twB rfl rfl rfl
  ·have e1 : decide (i < l.length ∧ l.getD i 0 = v) = false := decide_eq_false fun h => h2 h.1
   rw [e1]
   refine AX.sR (rgWV [4, 5] (aI @hzl oT) oT) ?_
   refine AX.ret ⟨.inl rfl, ?_⟩
   exact Lift.DoneG.twB rfl rfl rfl
end Go.Proofs.YtogpimmcodaljaaGreat
/- Factors: the program's joined. -/
set_option linter.unusedVariables false
set_option linter.unusedSimpArgs false
namespace Go.Proofs.YtogpimmcodaljaaGreat
open Go Go.Proofs.YtogpimmcodaljaaGreat.Lift
attribute [local irreducible] Lift.PCall Lift.HCall
open Classical in
noncomputable def joV (t s : Nat → Nat) : V := if misT t s then .tup [.sl [], .sl [], .i .i64 30] else if szT (joT t s) ≤ 4096 then .tup [.sl (zl (ci (vsT (joT t s)))), .sl (zl (ci (asT (joT t s)))), .i .i64 0] else .tup [.sl [], .sl [], .i .i64 2]
theorem tz_nat {t : Nat → Nat} {v : Nat} (hv : v < 64) : tz t (v : Int) = t v := by
 unfold tz
 rw [if_pos ⟨by omega, by omega⟩, Int.toNat_natCast]
set_option maxHeartbeats 32000000 in
theorem fjoined_ok (t s : Nat → Nat) (X Y : List V) (ht : ∀ v, t v ≤ 64) (hs : ∀ v, s v ≤ 64) :
  PCall Tryz.prog 78 [.agg [.sl (zl (ci (vsT t))), .sl (zl (ci (asT t))), .sl X], .agg [.sl (zl (ci (vsT s))), .sl (zl (ci (asT s))), .sl Y]] (joV t s) [] := by
 have hmt := vsT_len t
 have hms := vsT_len s
 have hzv : (zl (ci (vsT s))).length = (vsT s).length := zn_length _
 have hza : (zl (ci (asT s))).length = (vsT s).length := (zn_length _).trans (asT_len s)
 have hgv := fun j (hj : j < (vsT s).length) => show (zl (ci (vsT s))).getD j .junk = .i .i64 (((vsT s).getD j 0 : Nat) : Int) from zn_get hj
 have hga := fun j (hj : j < (vsT s).length) => show (zl (ci (asT s))).getD j .junk = .i .i64 ((s ((vsT s).getD j 0) : Nat) : Int) from (zn_get (by rw [asT_len]; exact hj)).trans (by rw [asT_get hj])
 have hmis : misT t s → joV t s = .tup [.sl [], .sl [], .i .i64 30] := fun h => if_pos h
 have hlim : ¬ misT t s → ¬ szT (joT t s) ≤ 4096 → joV t s = .tup [.sl [], .sl [], .i .i64 2] := fun h h2 => (if_neg h).trans (if_neg h2)
 have hjok : ¬ misT t s → szT (joT t s) ≤ 4096 → joV t s = .tup [.sl (zl (ci (vsT (joT t s)))), .sl (zl (ci (asT (joT t s)))), .i .i64 0] := fun h h2 => (if_neg h).trans (if_pos h2)
 generalize joV t s = r at *
 have c1 := zclone_own (ci (vsT t)) (by rw [ci_length]; omega)
 have c2 := zclone_own (ci (asT t)) (by rw [ci_length, asT_len]; omega)
 have l1 : (ci (vsT t)).length = (vsT t).length := ci_length _
 have l2 : (ci (asT t)).length = (vsT t).length := by rw [ci_length, asT_len]
 rw [l1] at c1
 rw [l2] at c2
 refine PCall.of_ax Tryz.call78 Tryz.func78 rfl (by simp [Tryz.ntmps78]) fun O w0 => ?_
 simp only [Tryz.ntmps78, Tryz.results78, argFr]
 generalize zl (ci (vsT s)) = Vs at *
 generalize zl (ci (asT s)) = As at *
 refine AX.sR (rgAV [2, 3]) ?_
 apply AX.sdreg [3, 7, 8] (by kernel_rfl) (by simp only [pq]; rfl)
 ·repeat (first
 |(apply RunD.op rfl; · rfl
   ·(simp only [opsOf, valsOf, valOf, lkp, ofConst, ofCell, Array.toList, Option.toList, List.map_cons, List.map_nil, List.cons_append, List.nil_append, List.append_nil, Nat.reduceEqDiff, Nat.reducePow, Nat.reduceLT, Nat.reduceLeDiff, reduceIte, if_true, if_false, IntKind.min, IntKind.max, IntKind.bits, IntKind.signed, Int.reduceLE, Int.reduceNeg, Int.reducePow, Int.reduceSub, and_self, Bool.false_eq_true, Nat.reduceSub]; rfl)
   iterate 2 (· (simp (disch := omega) only [go_sem, i64_of, u32_of, u64_of, Nat.reduceLT, Nat.reduceLeDiff, Nat.reduceEqDiff, Nat.reduceAdd, Nat.reduceSub, Nat.reduceMul, Nat.reducePow, Nat.reduceBEq, Int.reduceLE, Int.reduceLT, Int.reduceToNat, Int.reduceEq, Int.reduceNeg, reduceIte, reduceCtorEq]; rfl))
   ·(simp only [pb, Nat.reduceLT, Nat.reduceAdd, reduceIte]; rfl)
   ·rfl)
 |(apply RunD.callOwn rfl; · rfl
   ·(simp only [opsOf, valsOf, valOf, lkp, ofConst, ofCell, Array.toList, Option.toList, List.map_cons, List.map_nil, List.cons_append, List.nil_append, List.append_nil, Nat.reduceEqDiff, Nat.reducePow, Nat.reduceLT, Nat.reduceLeDiff, reduceIte, if_true, if_false, IntKind.min, IntKind.max, IntKind.bits, IntKind.signed, Int.reduceLE, Int.reduceNeg, Int.reducePow, Int.reduceSub, and_self, Bool.false_eq_true, Nat.reduceSub]; rfl)
   ·first | rfl | (simp only [List.cons_append, List.nil_append, V.hfL, V.hf, Bool.true_and]; assumption)
   ·(first | (simp only [cnlL, cnl, List.append_nil, List.cons_append, List.nil_append]; exact c1) | (exact c1))
   ·(simp only [V.ren, V.renL, ren_q, renL_u, ren_zl, ren_tb, ren_frw, ren_cnq]; rfl)
   ·(simp only [Row.ren, V.ren, V.renL, ren_q, renL_u, ren_zl, ren_tb, ren_frw, ren_cnq]; rfl)
   ·(simp only [pb, Nat.reduceLT, Nat.reduceAdd, reduceIte]; rfl)
   ·rfl)
 |(apply RunD.callOwn rfl; · rfl
   ·(simp only [opsOf, valsOf, valOf, lkp, ofConst, ofCell, Array.toList, Option.toList, List.map_cons, List.map_nil, List.cons_append, List.nil_append, List.append_nil, Nat.reduceEqDiff, Nat.reducePow, Nat.reduceLT, Nat.reduceLeDiff, reduceIte, if_true, if_false, IntKind.min, IntKind.max, IntKind.bits, IntKind.signed, Int.reduceLE, Int.reduceNeg, Int.reducePow, Int.reduceSub, and_self, Bool.false_eq_true, Nat.reduceSub]; rfl)
   ·first | rfl | (simp only [List.cons_append, List.nil_append, V.hfL, V.hf, Bool.true_and]; assumption)
   ·(first | (simp only [cnlL, cnl, List.append_nil, List.cons_append, List.nil_append]; exact c2) | (exact c2))
   ·(simp only [V.ren, V.renL, ren_q, renL_u, ren_zl, ren_tb, ren_frw, ren_cnq]; rfl)
   ·(simp only [Row.ren, V.ren, V.renL, ren_q, renL_u, ren_zl, ren_tb, ren_frw, ren_cnq]; rfl)
   ·(simp only [pb, Nat.reduceLT, Nat.reduceAdd, reduceIte]; rfl)
   ·rfl)
 |(apply RunD.skip; · rfl
   ·(simp only [pb, Nat.reduceLT, Nat.reduceAdd, reduceIte]; rfl)
   ·rfl))
  exact RunD.nil
 ·repeat (first | exact Keep.nil | (apply Keep.take; · rfl) | (apply Keep.drop; · rfl))
 ·kernel_rfl
 clear c1 c2 l1 l2
 refine AX.cutR (fun st => ¬ misT t s ∧ Le 0 id ⟨[(8, .own 3 0 (vsT (joT t s)).length 1), (7, .own 2 0 (vsT (joT t s)).length 1)], [(3, ⟨3, zl (ci (asT (joT t s)))⟩), (2, ⟨3, zl (ci (vsT (joT t s)))⟩)], 4⟩ st) ?_ ?_
 ·refine AX.sR (rgWV [3, 7, 8, 20, 21, 22] (aI @hzv oT) oT) ?_
  refine AX.weaken id (st' := ⟨[(22, .i .i64 (0 : Nat)), (21, .i .i64 (vsT s).length), (20, .sl Vs), (8, .own 3 0 (vsT t).length 1), (7, .own 2 0 (vsT t).length 1), (3, .ptr 1 0)], [(3, ⟨3, zl (ci (asT t))⟩), (2, ⟨3, zl (ci (vsT t))⟩), (1, ⟨25, [.sl Vs, .sl As, .sl Y]⟩)], 4⟩)
   leQ5
   ?_
  refine AX.block ?_
  refine AX.loop (fun N st => ∃ (j n : Nat) (T : Nat → Nat), j ≤ (vsT s).length ∧ N = (vsT s).length - j ∧ T = joI t s j ∧ n = (vsT T).length ∧ (∀ i, i < j → t ((vsT s).getD i 0) ≠ 0 → t ((vsT s).getD i 0) = s ((vsT s).getD i 0)) ∧ st = ⟨[(22, .i .i64 j), (21, .i .i64 (vsT s).length), (20, .sl Vs), (8, .own 3 0 n 1), (7, .own 2 0 n 1), (3, .ptr 1 0)], [(3, ⟨3, zl (ci (asT T))⟩), (2, ⟨3, zl (ci (vsT T))⟩), (1, ⟨25, [.sl Vs, .sl As, .sl Y]⟩)], 4⟩) (vsT s).length ⟨0, _, t, Nat.zero_le _, rfl, joI_zero.symm, rfl, fun i hi => absurd hi (Nat.not_lt_zero _), rfl⟩ ?_
  rintro N st ⟨j, n, T, hj, rfl, hT, hn, hgood, rfl⟩
  by_cases h1 : j < (vsT s).length
  ·have g1 := hgv j h1
   have g2 := hga j h1
   obtain ⟨b1, b2⟩ := vsT_get h1
   have b3 := hs ((vsT s).getD j 0)
   have hTv : T ((vsT s).getD j 0) = t ((vsT s).getD j 0) := by rw [hT]; exact joI_at h1
   have hTl : ∀ u, T u ≤ 64 := fun u => by rw [hT]; exact joI_le ht hs j u
   have hTm := vsT_len T
   have cb := fbs_g (ci (vsT T)) ((vsT s).getD j 0 : Nat) (by rw [ci_length]; omega) (ci_bd (M := 64) (fun j hj => by have := (vsT_get hj).1; omega) (by omega)) (by omega)
   have lz1 : (ci (vsT T)).length = n := by rw [ci_length, hn]
   have lz2 : (ci (asT T)).length = n := by rw [ci_length, asT_len, hn]
   have hzz1 := zl_length (ci (asT T))
   rw [lz2] at hzz1
   have hnext : (t ((vsT s).getD j 0) ≠ 0 → t ((vsT s).getD j 0) = s ((vsT s).getD j 0)) → ∀ i, i < j + 1 → t ((vsT s).getD i 0) ≠ 0 → t ((vsT s).getD i 0) = s ((vsT s).getD i 0) := fun h i hi => by
    by_cases e : i = j
    ·rw [e]; exact h
    ·exact hgood i (by omega)
   clear hgv hga hgood
   refine AX.sR (rgAV [3, 7, 8, 20, 21, 22, 23]) ?_
   refine AX.seq ?_
   refine AX.condT ?_
   refine AX.keepA [3, 7, 8, 20, 21, 22] ?_
   refine AX.skip ?_
   refine nmZ ?_
   refine AX.seq ?_
   refine AX.block ?_
   refine AX.sR (rgWV [3, 7, 8, 9, 10, 20, 21, 22] (aI @hzv (aI @g1 oT)) oT) ?_
   by_cases h0 : t ((vsT s).getD j 0) = 0
   ·obtain ⟨k, hk, hbs, hk1, hk2⟩ := bs_new (t := T) (v := (vsT s).getD j 0) (by rw [hTv, h0])
    rw [bs_none (by rw [tz_nat b1, hTv, h0]), hbs, lz1] at cb
    have i1 := fins_i (ci (vsT T)) k ((vsT s).getD j 0 : Nat) (by rw [ci_length]; exact hk) (by rw [ci_length]; omega) (ci_bd (M := 64) (fun j hj => by have := (vsT_get hj).1; omega) (by omega)) (by omega)
    have i2 := fins_i (ci (asT T)) k (s ((vsT s).getD j 0) : Nat) (by rw [ci_length, asT_len]; exact hk) (by rw [ci_length, asT_len]; omega) (ci_bd (M := 64) (fun j hj => by rw [asT_len] at hj; rw [asT_get hj]; exact hTl _) (by omega)) (by omega)
    rw [ci_ins, ← vsT_ins b1 (by rw [hTv, h0]) b2 hk hk1 hk2, lz1] at i1
    rw [ci_ins, ← asT_ins b1 (by rw [hTv, h0]) b2 hk hk1 hk2, lz2] at i2
    have hT' : updT T ((vsT s).getD j 0) (s ((vsT s).getD j 0)) = joI t s (j + 1) := by rw [hT, joI_new h1 h0]
    have hn' : n + 1 = (vsT (updT T ((vsT s).getD j 0) (s ((vsT s).getD j 0)))).length := by
     rw [vsT_ins b1 (by rw [hTv, h0]) b2 hk hk1 hk2, List.length_append, List.length_cons, List.length_take, List.length_drop]
     omega
    have hnx := hnext (fun h => absurd h0 h)
    clear hnext
    have hkn : k ≤ n := by rw [hn]; exact hk
    have hn64 : n ≤ 64 := by rw [hn]; exact hTm
    clear hbs hk1 hk2 hmis hlim hjok hk
    obtain ⟨T', hT'e⟩ : ∃ T', updT T ((vsT s).getD j 0) (s ((vsT s).getD j 0)) = T' := ⟨_, rfl⟩
    rw [hT'e] at i1 i2 hT' hn'
    clear hT'e hTv hTl hT
    generalize s ((vsT s).getD j 0) = x at *
    generalize (vsT s).getD j 0 = v at g1 b1 cb i1
    apply AX.sreg [3, 7, 8, 9, 10, 11, 12, 20, 21, 22] (by simp only [pq]; rfl)
    ·repeat (first
    |(apply RunO.op rfl; · rfl
      ·(simp only [opsOf, valsOf, valOf, lkp, ofConst, ofCell, Array.toList, Option.toList, List.map_cons, List.map_nil, List.cons_append, List.nil_append, List.append_nil, Nat.reduceEqDiff, Nat.reducePow, Nat.reduceLT, Nat.reduceLeDiff, reduceIte, if_true, if_false, IntKind.min, IntKind.max, IntKind.bits, IntKind.signed, Int.reduceLE, Int.reduceNeg, Int.reducePow, Int.reduceSub, and_self, Bool.false_eq_true, Nat.reduceSub]; rfl)
      iterate 2 (· (simp (disch := omega) only [go_sem, i64_of, u32_of, u64_of, Nat.reduceLT, Nat.reduceLeDiff, Nat.reduceEqDiff, Nat.reduceAdd, Nat.reduceSub, Nat.reduceMul, Nat.reducePow, Nat.reduceBEq, Int.reduceLE, Int.reduceLT, Int.reduceToNat, Int.reduceEq, Int.reduceNeg, reduceIte, reduceCtorEq]; rfl))
      ·(simp only [pb, Nat.reduceLT, Nat.reduceAdd, reduceIte]; rfl))
    |(apply RunO.gcall [2] rfl; · rfl
      ·(simp only [opsOf, valsOf, valOf, lkp, ofConst, ofCell, Array.toList, Option.toList, List.map_cons, List.map_nil, List.cons_append, List.nil_append, List.append_nil, Nat.reduceEqDiff, Nat.reducePow, Nat.reduceLT, Nat.reduceLeDiff, reduceIte, if_true, if_false, IntKind.min, IntKind.max, IntKind.bits, IntKind.signed, Int.reduceLE, Int.reduceNeg, Int.reducePow, Int.reduceSub, and_self, Bool.false_eq_true, Nat.reduceSub]; rfl)
      ·exact cb
      ·first | rfl | (simp only [Row.ren, V.ren, V.renL, renS, ren_q, renL_u, ren_zl, ren_tb, ren_frw, ren_cnq]; rfl)
      ·first | rfl | (simp only [V.lt, V.ltL, ltS, lt_q, ltL_u, lt_zl, lt_tb, lt_frw, lt_cnq]; rfl)
      ·decide
      ·repeat' (first | exact trivial | rfl | (simp only [Row.ren, V.ren, V.renL, renS, ren_q, renL_u, ren_zl, ren_tb, ren_frw, ren_cnq]; done) | (simp only [Row.ren, V.ren, V.renL, renS, ren_q, renL_u, ren_zl, ren_tb, ren_frw, ren_cnq]; rfl) | (simp only [V.lt, V.ltL, ltS, lt_q, ltL_u, lt_zl, lt_tb, lt_frw, lt_cnq]; done) | apply And.intro)
      ·first | rfl | (simp only [Row.ren, V.ren, V.renL, renS, ren_q, renL_u, ren_zl, ren_tb, ren_frw, ren_cnq]; rfl)
      ·(simp only [setRows, setL, Row.ren, V.ren, V.renL, renS, ren_q, renL_u, ren_zl, ren_tb, ren_frw, ren_cnq, pb, Nat.reduceLT, Nat.reduceAdd, Nat.reduceEqDiff, reduceIte]; rfl))
    |(apply RunO.skip; · rfl
      ·(simp only [pb, Nat.reduceLT, Nat.reduceAdd, reduceIte]; rfl)))
     exact RunO.nil
    ·repeat (first | exact Keep.nil | (apply Keep.take; · rfl) | (apply Keep.drop; · rfl))
    refine AX.seq ?_
    refine AX.sR (rgAV [3, 7, 8, 9, 10, 11, 20, 21, 22, 33]) ?_
    refine AX.condF ?_
    refine AX.keepA [3, 7, 8, 9, 10, 11, 20, 21, 22] ?_
    refine AX.skip ?_
    refine nmZ ?_
    apply AX.dreg [3, 7, 8, 20, 21, 22] (by kernel_rfl) (by simp only [pq]; rfl)
    ·repeat (first
    |(apply RunD.op rfl; · rfl
      ·(simp only [opsOf, valsOf, valOf, lkp, ofConst, ofCell, Array.toList, Option.toList, List.map_cons, List.map_nil, List.cons_append, List.nil_append, List.append_nil, Nat.reduceEqDiff, Nat.reducePow, Nat.reduceLT, Nat.reduceLeDiff, reduceIte, if_true, if_false, IntKind.min, IntKind.max, IntKind.bits, IntKind.signed, Int.reduceLE, Int.reduceNeg, Int.reducePow, Int.reduceSub, and_self, Bool.false_eq_true, Nat.reduceSub]; rfl)
      iterate 2 (· (simp (disch := omega) only [go_sem, i64_of, u32_of, u64_of, Nat.reduceLT, Nat.reduceLeDiff, Nat.reduceEqDiff, Nat.reduceAdd, Nat.reduceSub, Nat.reduceMul, Nat.reducePow, Nat.reduceBEq, Int.reduceLE, Int.reduceLT, Int.reduceToNat, Int.reduceEq, Int.reduceNeg, reduceIte, reduceCtorEq, hza, g2, rep1]; rfl))
      ·(simp only [pb, Nat.reduceLT, Nat.reduceAdd, reduceIte]; rfl)
      ·rfl)
    |(apply RunD.icall 2 4 rfl; · rfl
      ·(simp only [opsOf, valsOf, valOf, lkp, ofConst, ofCell, Array.toList, Option.toList, List.map_cons, List.map_nil, List.cons_append, List.nil_append, List.append_nil, Nat.reduceEqDiff, Nat.reducePow, Nat.reduceLT, Nat.reduceLeDiff, reduceIte, if_true, if_false, IntKind.min, IntKind.max, IntKind.bits, IntKind.signed, Int.reduceLE, Int.reduceNeg, Int.reducePow, Int.reduceSub, and_self, Bool.false_eq_true, Nat.reduceSub]; rfl)
      ·exact i1
      ·first | rfl | (simp only [Row.ren, V.ren, V.renL, renS, ren_q, renL_u, ren_zl, ren_tb, ren_frw, ren_cnq]; rfl)
      ·first | rfl | (simp only [V.lt, V.ltL, ltS, lt_q, ltL_u, lt_zl, lt_tb, lt_frw, lt_cnq]; rfl)
      ·rfl
      ·rfl
      ·decide
      ·first | rfl | exact (zl_hf _).1
      ·first | rfl | exact (zl_hf _).1
      ·first | rfl | exact (zl_hf _).1
      ·first | rfl | (simp only [Row.ren, V.ren, V.renL, renS, ren_q, renL_u, ren_zl, ren_tb, ren_frw, ren_cnq]; rfl)
      ·(simp only [dlt, pb, Nat.reduceLT, Nat.reduceAdd, Nat.reduceEqDiff, reduceIte]; rfl)
      ·rfl)
    |(apply RunD.icall 3 6 rfl; · rfl
      ·(simp only [opsOf, valsOf, valOf, lkp, ofConst, ofCell, Array.toList, Option.toList, List.map_cons, List.map_nil, List.cons_append, List.nil_append, List.append_nil, Nat.reduceEqDiff, Nat.reducePow, Nat.reduceLT, Nat.reduceLeDiff, reduceIte, if_true, if_false, IntKind.min, IntKind.max, IntKind.bits, IntKind.signed, Int.reduceLE, Int.reduceNeg, Int.reducePow, Int.reduceSub, and_self, Bool.false_eq_true, Nat.reduceSub]; rfl)
      ·exact i2
      ·first | rfl | (simp only [Row.ren, V.ren, V.renL, renS, ren_q, renL_u, ren_zl, ren_tb, ren_frw, ren_cnq]; rfl)
      ·first | rfl | (simp only [V.lt, V.ltL, ltS, lt_q, ltL_u, lt_zl, lt_tb, lt_frw, lt_cnq]; rfl)
      ·rfl
      ·rfl
      ·decide
      ·first | rfl | exact (zl_hf _).1
      ·first | rfl | exact (zl_hf _).1
      ·first | rfl | exact (zl_hf _).1
      ·first | rfl | (simp only [Row.ren, V.ren, V.renL, renS, ren_q, renL_u, ren_zl, ren_tb, ren_frw, ren_cnq]; rfl)
      ·(simp only [dlt, pb, Nat.reduceLT, Nat.reduceAdd, Nat.reduceEqDiff, reduceIte]; rfl)
      ·rfl)
    |(apply RunD.skip; · rfl
      ·(simp only [pb, Nat.reduceLT, Nat.reduceAdd, reduceIte]; rfl)
      ·rfl))
     exact RunD.nil
    ·repeat (first | exact Keep.nil | (apply Keep.take; · rfl) | (apply Keep.drop; · rfl))
    ·kernel_rfl
    refine nmZ ?_
    refine AX.rR (rgWV [3, 7, 8, 20, 21, 22] (aI @lit_add oT) oT) ?_
    refine nmZ ?_
    refine ⟨_, _, fun n => if n = 2 then 5 else if n = 3 then 7 else n, ?_,
     leQ5
     , ⟨j + 1, n + 1, T', by omega, rfl, hT', hn', hnx, rfl⟩⟩
    omega
   ·obtain ⟨k, hk, e, hbs⟩ := bs_some (t := T) b1 (by rw [hTv]; exact h0)
    rw [hbs, bs_dec hk e, lz1] at cb
    have gk : (zl (ci (asT T))).getD k .junk = .i .i64 (t ((vsT s).getD j 0) : Nat) := (zn_get (by rw [asT_len]; exact hk)).trans (by rw [asT_get hk, e, hTv])
    have hT' : T = joI t s (j + 1) := by rw [hT, joI_keep h1 h0]
    have hkn : k < n := by rw [hn]; exact hk
    have b4 := ht ((vsT s).getD j 0)
    by_cases h3 : t ((vsT s).getD j 0) = s ((vsT s).getD j 0)
    ·have hnx := hnext (fun _ => h3)
     rw [← h3] at g2
     clear hnext hbs hmis hlim hjok hk hTv hTl hT h3 e
     generalize t ((vsT s).getD j 0) = x at *
     generalize (vsT s).getD j 0 = v at g1 b1 cb
     apply AX.sreg [3, 7, 8, 9, 10, 11, 12, 20, 21, 22] (by simp only [pq]; rfl)
     ·repeat (first
     |(apply RunO.op rfl; · rfl
       ·(simp only [opsOf, valsOf, valOf, lkp, ofConst, ofCell, Array.toList, Option.toList, List.map_cons, List.map_nil, List.cons_append, List.nil_append, List.append_nil, Nat.reduceEqDiff, Nat.reducePow, Nat.reduceLT, Nat.reduceLeDiff, reduceIte, if_true, if_false, IntKind.min, IntKind.max, IntKind.bits, IntKind.signed, Int.reduceLE, Int.reduceNeg, Int.reducePow, Int.reduceSub, and_self, Bool.false_eq_true, Nat.reduceSub]; rfl)
       iterate 2 (· (simp (disch := omega) only [go_sem, i64_of, u32_of, u64_of, Nat.reduceLT, Nat.reduceLeDiff, Nat.reduceEqDiff, Nat.reduceAdd, Nat.reduceSub, Nat.reduceMul, Nat.reducePow, Nat.reduceBEq, Int.reduceLE, Int.reduceLT, Int.reduceToNat, Int.reduceEq, Int.reduceNeg, reduceIte, reduceCtorEq]; rfl))
       ·(simp only [pb, Nat.reduceLT, Nat.reduceAdd, reduceIte]; rfl))
     |(apply RunO.gcall [2] rfl; · rfl
       ·(simp only [opsOf, valsOf, valOf, lkp, ofConst, ofCell, Array.toList, Option.toList, List.map_cons, List.map_nil, List.cons_append, List.nil_append, List.append_nil, Nat.reduceEqDiff, Nat.reducePow, Nat.reduceLT, Nat.reduceLeDiff, reduceIte, if_true, if_false, IntKind.min, IntKind.max, IntKind.bits, IntKind.signed, Int.reduceLE, Int.reduceNeg, Int.reducePow, Int.reduceSub, and_self, Bool.false_eq_true, Nat.reduceSub]; rfl)
       ·exact cb
       ·first | rfl | (simp only [Row.ren, V.ren, V.renL, renS, ren_q, renL_u, ren_zl, ren_tb, ren_frw, ren_cnq]; rfl)
       ·first | rfl | (simp only [V.lt, V.ltL, ltS, lt_q, ltL_u, lt_zl, lt_tb, lt_frw, lt_cnq]; rfl)
       ·decide
       ·repeat' (first | exact trivial | rfl | (simp only [Row.ren, V.ren, V.renL, renS, ren_q, renL_u, ren_zl, ren_tb, ren_frw, ren_cnq]; done) | (simp only [Row.ren, V.ren, V.renL, renS, ren_q, renL_u, ren_zl, ren_tb, ren_frw, ren_cnq]; rfl) | (simp only [V.lt, V.ltL, ltS, lt_q, ltL_u, lt_zl, lt_tb, lt_frw, lt_cnq]; done) | apply And.intro)
       ·first | rfl | (simp only [Row.ren, V.ren, V.renL, renS, ren_q, renL_u, ren_zl, ren_tb, ren_frw, ren_cnq]; rfl)
       ·(simp only [setRows, setL, Row.ren, V.ren, V.renL, renS, ren_q, renL_u, ren_zl, ren_tb, ren_frw, ren_cnq, pb, Nat.reduceLT, Nat.reduceAdd, Nat.reduceEqDiff, reduceIte]; rfl))
     |(apply RunO.skip; · rfl
       ·(simp only [pb, Nat.reduceLT, Nat.reduceAdd, reduceIte]; rfl)))
      exact RunO.nil
     ·repeat (first | exact Keep.nil | (apply Keep.take; · rfl) | (apply Keep.drop; · rfl))
     refine AX.seq ?_
     refine AX.sR (rgAV [3, 7, 8, 9, 10, 11, 20, 21, 22, 33]) ?_
     refine AX.condT ?_
     refine AX.seq ?_
     refine AX.sD (rgDWV [3, 7, 8, 20, 21, 22, 43] (aI @hza (aI @g2 (aI @hzz1 (aI @gk oT)))) oT) ?_
     refine AX.condF ?_
     refine AX.keepA [3, 7, 8, 20, 21, 22] ?_
     refine AX.skip ?_
     refine nmZ ?_
     refine AX.exit ?_
     refine nmZ ?_
     refine AX.rR (rgWV [3, 7, 8, 20, 21, 22] (aI @lit_add oT) oT) ?_
     refine nmZ ?_
     refine ⟨_, _, id, ?_,
      leQ5
      , ⟨j + 1, n, T, by omega, rfl, hT', hn, hnx, rfl⟩⟩
     omega
    ·obtain rfl := hmis ⟨j, h1, h0, h3⟩
     clear hnext hlim hjok hbs hk hTv hTl hT e hT'
     have h3' : ¬ ((t ((vsT s).getD j 0) : Nat) : Int) = ((s ((vsT s).getD j 0) : Nat) : Int) := fun h => h3 (by omega)
     clear h3
     generalize s ((vsT s).getD j 0) = y at *
     generalize t ((vsT s).getD j 0) = x at *
     generalize (vsT s).getD j 0 = v at g1 b1 cb
     apply AX.sreg [3, 7, 8, 9, 10, 11, 12, 20, 21, 22] (by simp only [pq]; rfl)
     ·repeat (first
     |(apply RunO.op rfl; · rfl
       ·(simp only [opsOf, valsOf, valOf, lkp, ofConst, ofCell, Array.toList, Option.toList, List.map_cons, List.map_nil, List.cons_append, List.nil_append, List.append_nil, Nat.reduceEqDiff, Nat.reducePow, Nat.reduceLT, Nat.reduceLeDiff, reduceIte, if_true, if_false, IntKind.min, IntKind.max, IntKind.bits, IntKind.signed, Int.reduceLE, Int.reduceNeg, Int.reducePow, Int.reduceSub, and_self, Bool.false_eq_true, Nat.reduceSub]; rfl)
       iterate 2 (· (simp (disch := omega) only [go_sem, i64_of, u32_of, u64_of, Nat.reduceLT, Nat.reduceLeDiff, Nat.reduceEqDiff, Nat.reduceAdd, Nat.reduceSub, Nat.reduceMul, Nat.reducePow, Nat.reduceBEq, Int.reduceLE, Int.reduceLT, Int.reduceToNat, Int.reduceEq, Int.reduceNeg, reduceIte, reduceCtorEq]; rfl))
       ·(simp only [pb, Nat.reduceLT, Nat.reduceAdd, reduceIte]; rfl))
     |(apply RunO.gcall [2] rfl; · rfl
       ·(simp only [opsOf, valsOf, valOf, lkp, ofConst, ofCell, Array.toList, Option.toList, List.map_cons, List.map_nil, List.cons_append, List.nil_append, List.append_nil, Nat.reduceEqDiff, Nat.reducePow, Nat.reduceLT, Nat.reduceLeDiff, reduceIte, if_true, if_false, IntKind.min, IntKind.max, IntKind.bits, IntKind.signed, Int.reduceLE, Int.reduceNeg, Int.reducePow, Int.reduceSub, and_self, Bool.false_eq_true, Nat.reduceSub]; rfl)
       ·exact cb
       ·first | rfl | (simp only [Row.ren, V.ren, V.renL, renS, ren_q, renL_u, ren_zl, ren_tb, ren_frw, ren_cnq]; rfl)
       ·first | rfl | (simp only [V.lt, V.ltL, ltS, lt_q, ltL_u, lt_zl, lt_tb, lt_frw, lt_cnq]; rfl)
       ·decide
       ·repeat' (first | exact trivial | rfl | (simp only [Row.ren, V.ren, V.renL, renS, ren_q, renL_u, ren_zl, ren_tb, ren_frw, ren_cnq]; done) | (simp only [Row.ren, V.ren, V.renL, renS, ren_q, renL_u, ren_zl, ren_tb, ren_frw, ren_cnq]; rfl) | (simp only [V.lt, V.ltL, ltS, lt_q, ltL_u, lt_zl, lt_tb, lt_frw, lt_cnq]; done) | apply And.intro)
       ·first | rfl | (simp only [Row.ren, V.ren, V.renL, renS, ren_q, renL_u, ren_zl, ren_tb, ren_frw, ren_cnq]; rfl)
       ·(simp only [setRows, setL, Row.ren, V.ren, V.renL, renS, ren_q, renL_u, ren_zl, ren_tb, ren_frw, ren_cnq, pb, Nat.reduceLT, Nat.reduceAdd, Nat.reduceEqDiff, reduceIte]; rfl))
     |(apply RunO.skip; · rfl
       ·(simp only [pb, Nat.reduceLT, Nat.reduceAdd, reduceIte]; rfl)))
      exact RunO.nil
     ·repeat (first | exact Keep.nil | (apply Keep.take; · rfl) | (apply Keep.drop; · rfl))
     refine AX.seq ?_
     refine AX.sR (rgAV [3, 7, 8, 9, 10, 11, 20, 21, 22, 33]) ?_
     refine AX.condT ?_
     refine AX.seq ?_
     refine AX.sD (rgDWV [3, 7, 8, 20, 21, 22, 43] (aI @hza (aI @g2 (aI @hzz1 (aI @gk (aI @h3' oT))))) oT) ?_
     refine AX.condT ?_
     refine AX.sR (rgAV [4, 5, 6]) ?_
     refine AX.ret ⟨.inl rfl, ?_⟩
     exact dnQ5
  ·obtain rfl : j = (vsT s).length := by omega
   have e1 : vsT T = vsT (joT t s) := by rw [hT]; exact vsT_ext fun v hv => joI_end hv
   have e2 : asT T = asT (joT t s) := by rw [hT]; exact asT_ext fun v hv => joI_end hv
   rw [e1] at hn
   subst hn
   rw [e1, e2]
   refine AX.sR (rgAV [3, 7, 8, 20, 21, 22, 23]) ?_
   refine AX.seq ?_
   refine AX.condF ?_
   refine AX.exit ?_
   refine nmZ ?_
   exact ⟨fun ⟨i, hi, m1, m2⟩ => m2 (hgood i hi m1),
    leQ5
    ⟩
 ·rintro st ⟨hno, hle⟩
  refine AX.weaken id hle ?_
  have c3 := fsize_ok (ci (asT (joT t s))) (by rw [ci_length, asT_len]; have := vsT_len (joT t s); omega) (fun j hj => by
   rw [ci_length, asT_len] at hj
   rw [cast_get, asT_get hj]
   have h1 := (vsT_get hj).2
   have h2 := joT_le ht hs ((vsT (joT t s)).getD j 0)
   omega)
  rw [prZ_sz] at c3
  have z1 := okFrz_z (ci (vsT (joT t s)))
  have z2 := chunks_z (ci (vsT (joT t s)))
  have z3 := okFrz_z (ci (asT (joT t s)))
  have z4 := chunks_z (ci (asT (joT t s)))
  rw [ci_length] at z1 z2
  rw [ci_length, asT_len] at z3 z4
  have hlim := hlim hno
  have hjok := hjok hno
  clear hmis hgv hga hle
  generalize szT (joT t s) = S at *
  refine AX.frozen 7 (zl (ci (vsT (joT t s)))) rfl rfl z1 z2 ?_
  refine AX.frozen 8 (zl (ci (asT (joT t s)))) rfl rfl z3 z4 ?_
  generalize zl (ci (vsT (joT t s))) = V1 at *
  generalize zl (ci (asT (joT t s))) = A1 at *
  refine AX.seq ?_
  by_cases h4 : S ≤ 4096
  ·obtain rfl := hjok h4
   rw [Nat.min_eq_left (by omega)] at c3
   refine AX.sR (rgCV [7, 8, 61] (aI c3 oT)) ?_
   refine AX.condF ?_
   refine AX.keepA [7, 8] ?_
   refine AX.skip ?_
   refine nmZ ?_
   refine AX.sR (rgAV [4, 5, 6]) ?_
   refine AX.ret ⟨.inl rfl, ?_⟩
   exact dnQ5
  ·obtain rfl := hlim h4
   rw [Nat.min_eq_right (by omega)] at c3
   refine AX.sR (rgCV [7, 8, 61] (aI c3 oT)) ?_
   refine AX.condT ?_
   refine AX.sR (rgAV [4, 5, 6]) ?_
   refine AX.ret ⟨.inl rfl, ?_⟩
   exact dnQ5
end Go.Proofs.YtogpimmcodaljaaGreat
/- Factors: the program's both, Mul, Add. -/
set_option linter.unusedVariables false
set_option linter.unusedSimpArgs false
namespace Go.Proofs.YtogpimmcodaljaaGreat
open Go Go.Proofs.YtogpimmcodaljaaGreat.Lift
attribute [local irreducible] Lift.PCall Lift.HCall
open Classical in
noncomputable def boV (t s : Nat → Nat) (r : Nat → Rat) : V := if misT t s then .tup [fV [] [] [], .i .i64 30] else if szT (joT t s) ≤ 4096 then .tup [FV (joT t s) r, .i .i64 0] else .tup [fV [] [] [], .i .i64 2]
theorem boV_ex (t s : Nat → Nat) (r : Nat → Rat) : ∃ (A B C : List V) (e : Int), boV t s r = .tup [.agg [.sl A, .sl B, .sl C], .i .i64 e] := by
 unfold boV
 split
 ·exact ⟨_, _, _, _, rfl⟩
 ·split
  ·exact ⟨_, _, _, _, rfl⟩
  ·exact ⟨_, _, _, _, rfl⟩
theorem joT_in1 {t s : Nat → Nat} {G : Nat → Nat} (h : inT (joT t s) G) : inT t G := fun u hu h0 => by
 have e : joT t s u = t u := if_pos h0
 have := h u hu (by rw [e]; exact h0)
 rwa [e] at this
theorem mis_eq {t s : Nat → Nat} (h : ¬ misT t s) {u : Nat} (hu : u < 64) (h0 : s u ≠ 0) (h1 : t u ≠ 0) : t u = s u := by
 obtain ⟨j, hj, rfl⟩ := mem_getD0 (vsT_mem.2 ⟨hu, h0⟩)
 apply Classical.byContradiction
 intro h2
 exact h ⟨j, hj, h1, h2⟩
theorem joT_2 {t s : Nat → Nat} (h : ¬ misT t s) {u : Nat} (hu : u < 64) (h0 : s u ≠ 0) : joT t s u = s u := by
 by_cases h1 : t u = 0
 ·exact if_neg (fun h => h h1)
 ·rw [← mis_eq h hu h0 h1]
  exact if_pos h1
theorem joT_in2 {t s : Nat → Nat} {G : Nat → Nat} (hm : ¬ misT t s) (h : inT (joT t s) G) : inT s G := fun u hu h0 => by
 have e := joT_2 hm hu h0
 have := h u hu (by rw [e]; exact h0)
 rwa [e] at this
set_option maxHeartbeats 16000000 in
theorem fboth_ok (t s : Nat → Nat) (q p : Nat → Rat) (ht : okT t) (hs : okT s) (hq : ∀ k, k < szT t → rL (q k) ≤ 2 ^ 30) (hp : ∀ k, k < szT s → rL (p k) ≤ 2 ^ 30) (F : Nat) (r : Nat → Rat)
  (hop : ¬ misT t s → ∀ n, n < szT (joT t s) → PCall Tryz.prog F [rV (q (enT t (deT (joT t s) n))), rV (p (enT s (deT (joT t s) n)))] (rV (r n)) []) : PCall Tryz.prog 46 [FV t q, FV s p, .fn F []] (boV t s r) [] := by
 have hmt := vsT_len t
 have hms := vsT_len s
 have cr1 := fright_ok (ci (vsT t)) (ci (asT t)) (xsT t q) (by rw [ci_length]; omega) (by rw [ci_length, asT_len]; omega) (by rw [xsT_length]; have := ht.2; omega) (xsT_okY hq).x
 rw [isF_T ht q] at cr1
 have cr2 := fright_ok (ci (vsT s)) (ci (asT s)) (xsT s p) (by rw [ci_length]; omega) (by rw [ci_length, asT_len]; omega) (by rw [xsT_length]; have := hs.2; omega) (xsT_okY hp).x
 rw [isF_T hs p] at cr2
 have cj := fun X Y => fjoined_ok t s X Y ht.1 hs.1
 have cf : ¬ misT t s → szT (joT t s) ≤ 4096 → PCall Tryz.prog 79 [.sl (zl (ci (vsT (joT t s)))), .sl (zl (ci (asT (joT t s)))), .fn 80 [.rp [.fn F []], .rp [.sl (zl (ci (vsT t))), .sl (zl (ci (asT t))), .sl ((ql (szT t) q).map rV)], .rp [.sl (zl (ci (vsT s))), .sl (zl (ci (asT s))), .sl ((ql (szT s) p).map rV)]]] (FV (joT t s) r) [] := fun h1 h2 => by
  have := ffilled_ok (joT t s) r ⟨joT_le ht.1 hs.1, h2⟩ 80 [.rp [.fn F []], .rp [.sl (zl (ci (vsT t))), .sl (zl (ci (asT t))), .sl ((ql (szT t) q).map rV)], .rp [.sl (zl (ci (vsT s))), .sl (zl (ci (asT s))), .sl ((ql (szT s) p).map rV)]] (fun n hn => by
   rw [cnq_of rfl]
   exact fboth1_g t s q p ht hs (deT (joT t s) n) (joT_in1 (deT_in _ n)) (joT_in2 h1 (deT_in _ n)) F (r n) (hop h1 n hn))
  rwa [cnq_of rfl] at this
 have j1 : misT t s → joV t s = .tup [.sl [], .sl [], .i .i64 30] := fun h => if_pos h
 have j2 : ¬ misT t s → ¬ szT (joT t s) ≤ 4096 → joV t s = .tup [.sl [], .sl [], .i .i64 2] := fun h h2 => (if_neg h).trans (if_neg h2)
 have j3 : ¬ misT t s → szT (joT t s) ≤ 4096 → joV t s = .tup [.sl (zl (ci (vsT (joT t s)))), .sl (zl (ci (asT (joT t s)))), .i .i64 0] := fun h h2 => (if_neg h).trans (if_pos h2)
 have b1 : misT t s → boV t s r = .tup [fV [] [] [], .i .i64 30] := fun h => if_pos h
 have b2 : ¬ misT t s → ¬ szT (joT t s) ≤ 4096 → boV t s r = .tup [fV [] [] [], .i .i64 2] := fun h h2 => (if_neg h).trans (if_neg h2)
 have b3 : ¬ misT t s → szT (joT t s) ≤ 4096 → boV t s r = .tup [FV (joT t s) r, .i .i64 0] := fun h h2 => (if_neg h).trans (if_pos h2)
 generalize joV t s = jv at *
 generalize boV t s r = bv at *
 clear hop
 unfold FV fV at *
 rw [xsT_map t q] at *
 rw [xsT_map s p] at *
 generalize zl (ci (vsT (joT t s))) = V3 at *
 generalize zl (ci (asT (joT t s))) = A3 at *
 generalize (xsT (joT t s) r).map fR = X3 at *
 generalize zl (ci (vsT t)) = V1 at *
 generalize zl (ci (asT t)) = A1 at *
 generalize (ql (szT t) q).map rV = X1 at *
 generalize zl (ci (vsT s)) = V2 at *
 generalize zl (ci (asT s)) = A2 at *
 generalize (ql (szT s) p).map rV = X2 at *
 have cj := cj X1 X2
 refine PCall.of_ax Tryz.call46 Tryz.func46 rfl (by simp [Tryz.ntmps46]) fun O w0 => ?_
 simp only [Tryz.ntmps46, Tryz.results46, argFr]
 refine AX.sR (rgAV [3, 4, 5, 6]) ?_
 refine AX.seq ?_
 refine AX.sR (rgCV [3, 4, 5, 6, 18] (aI cr1 (aI cr2 oT))) ?_
 refine AX.condF ?_
 refine AX.keepA [3, 4, 5, 6] ?_
 refine AX.skip ?_
 refine nmZ ?_
 clear cr1 cr2
 by_cases hm : misT t s
 ·obtain rfl := j1 hm
  obtain rfl := b1 hm
  clear j2 j3 b2 b3 cf
  refine AX.sR (rgCV [3, 4, 5, 6, 8, 9, 10] (aI cj oT)) ?_
  refine AX.seq ?_
  refine AX.sR (rgAV [3, 4, 5, 6, 8, 9, 10, 28]) ?_
  refine AX.condT ?_
  refine AX.sR (rgAV [6, 7]) ?_
  refine AX.ret ⟨.inl rfl, ?_⟩
  exact Lift.Done.facE fa_lay_fac rfl rfl rfl
 ·by_cases hl : szT (joT t s) ≤ 4096
  ·obtain rfl := j3 hm hl
   obtain rfl := b3 hm hl
   have cf := cf hm hl
   clear j1 j2 b1 b2
   refine AX.sR (rgCV [3, 4, 5, 6, 8, 9, 10] (aI cj oT)) ?_
   refine AX.seq ?_
   refine AX.sR (rgAV [3, 4, 5, 6, 8, 9, 10, 28]) ?_
   refine AX.condF ?_
   refine AX.keepA [3, 4, 5, 6, 8, 9] ?_
   refine AX.skip ?_
   refine nmZ ?_
   refine AX.fz 0 (fr' := [(3, .rp [.sl V1, .sl A1, .sl X1]), (4, .ptr 1 0), (5, .ptr 2 0), (6, .ptr 3 0), (8, .sl V3), (9, .sl A3)]) (hp' := [(3, ⟨25, [.nl, .nl, .nl]⟩), (2, ⟨72, [.fn F []]⟩), (1, ⟨25, [.sl V2, .sl A2, .sl X2]⟩)]) rfl rfl (by repeat (first | exact .nil | (refine .cons rfl ?_ ?_; · first | exact .same | exact .ptr rfl))) (by repeat (first | exact .nil | (refine .keep (by decide) rfl ?_))) ?_
   refine AX.fz 1 (fr' := [(3, .rp [.sl V1, .sl A1, .sl X1]), (4, .rp [.sl V2, .sl A2, .sl X2]), (5, .ptr 2 0), (6, .ptr 3 0), (8, .sl V3), (9, .sl A3)]) (hp' := [(3, ⟨25, [.nl, .nl, .nl]⟩), (2, ⟨72, [.fn F []]⟩)]) rfl rfl (by repeat (first | exact .nil | (refine .cons rfl ?_ ?_; · first | exact .same | exact .ptr rfl))) (by repeat (first | exact .nil | (refine .keep (by decide) rfl ?_))) ?_
   refine AX.fz 2 (fr' := [(3, .rp [.sl V1, .sl A1, .sl X1]), (4, .rp [.sl V2, .sl A2, .sl X2]), (5, .rp [.fn F []]), (6, .ptr 3 0), (8, .sl V3), (9, .sl A3)]) (hp' := [(3, ⟨25, [.nl, .nl, .nl]⟩)]) rfl rfl (by repeat (first | exact .nil | (refine .cons rfl ?_ ?_; · first | exact .same | exact .ptr rfl))) (by repeat (first | exact .nil | (refine .keep (by decide) rfl ?_))) ?_
   refine AX.sR (rgCV [6, 7] (aI cf oT)) ?_
   refine AX.ret ⟨.inl rfl, ?_⟩
   exact dnQ5
  ·obtain rfl := j2 hm hl
   obtain rfl := b2 hm hl
   clear j1 j3 b1 b3 cf
   refine AX.sR (rgCV [3, 4, 5, 6, 8, 9, 10] (aI cj oT)) ?_
   refine AX.seq ?_
   refine AX.sR (rgAV [3, 4, 5, 6, 8, 9, 10, 28]) ?_
   refine AX.condT ?_
   refine AX.sR (rgAV [6, 7]) ?_
   refine AX.ret ⟨.inl rfl, ?_⟩
   exact Lift.Done.facE fa_lay_fac rfl rfl rfl
abbrev opAdd (a b : Rat) : Rat := a + b
def boQ (op : Rat → Rat → Rat) (t s : Nat → Nat) (q p : Nat → Rat) (n : Nat) : Rat := op (q (enT t (deT (joT t s) n))) (p (enT s (deT (joT t s) n)))
set_option maxHeartbeats 8000000 in
theorem fAdd_any (x y z : V) (V1 A1 X1 V2 A2 X2 A B C : List V) (e : Int) (hx : x = .agg [.sl V1, .sl A1, .sl X1]) (hy : y = .agg [.sl V2, .sl A2, .sl X2]) (hz : z = .tup [.agg [.sl A, .sl B, .sl C], .i .i64 e]) (c1 : PCall Tryz.prog 46 [x, y, .fn 47 []] z []) : PCall Tryz.prog 22 [x, y] z [] := by
 subst hx hy hz
 refine PCall.of_ax Tryz.call22 Tryz.func22 rfl (by simp [Tryz.ntmps22]) fun O w0 => ?_
 simp only [Tryz.ntmps22, Tryz.results22, argFr]
 refine AX.sR (rgAV [2, 3, 4]) ?_
 refine AX.sR (rgCV [4, 5] (aI c1 oT)) ?_
 refine AX.ret ⟨.inl rfl, ?_⟩
 exact dnQ5
theorem fAdd_ok (t s : Nat → Nat) (q p : Nat → Rat) (ht : okT t) (hs : okT s) (L : Nat) (hL : L ≤ 2 ^ 30) (hq : ∀ k, k < szT t → rL (q k) ≤ L) (hp : ∀ k, k < szT s → rL (p k) ≤ L) : PCall Tryz.prog 22 [FV t q, FV s p] (boV t s (boQ opAdd t s q p)) [] := by
 obtain ⟨A, B, C, e, hb⟩ := boV_ex t s (boQ opAdd t s q p)
 refine fAdd_any _ _ _ _ _ _ _ _ _ A B C e rfl rfl hb (fboth_ok t s q p ht hs (fun k hk => Nat.le_trans (hq k hk) hL) (fun k hk => Nat.le_trans (hp k hk) hL) _ _ fun hm n hn => ?_)
 exact qadd_ok (IsQ.of (hq _ (enT_lt (joT_in1 (deT_in _ n))))) (IsQ.of (hp _ (enT_lt (joT_in2 hm (deT_in _ n))))) (by omega)
end Go.Proofs.YtogpimmcodaljaaGreat
/- Factors: the reference's joined, Mul, Add. -/
set_option linter.unusedVariables false
set_option linter.unusedSimpArgs false
namespace Go.Proofs.YtogpimmcodaljaaGreat
open Go Go.Proofs.YtogpimmcodaljaaGreat.Lift
attribute [local irreducible] Lift.PCall Lift.HCall
end Go.Proofs.YtogpimmcodaljaaGreat
