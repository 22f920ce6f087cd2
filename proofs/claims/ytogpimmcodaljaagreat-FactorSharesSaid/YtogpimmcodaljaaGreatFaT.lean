/- Lists of whole numbers that are the call's own: an element is deleted (the library's contract as this framework wants it). -/
import Derived.Test.YtogpimmcodaljaaGreatFaB
import Derived.Shelf.Slices.Cells
set_option linter.unusedVariables false
set_option maxRecDepth 20000
set_option linter.unusedSimpArgs false
namespace Go.Proofs.YtogpimmcodaljaaGreat
open Go Go.Proofs.YtogpimmcodaljaaGreat.Lift
attribute [local irreducible] Lift.PCall Lift.HCall
theorem Lift.setCells_row {blk : Nat} {T : TypeId} : ∀ (vs : List Value) (o : Nat) (w : World) (c : Array Value), w.heap[blk]? = some (.cells c T (0, 0)) → w.setCells blk o vs = putRow w blk (setRange c o vs) T
 | [], o, w, c, h => by rw [World.setCells, setRange, putRow_self h]
 | v :: vs, o, w, c, h => by
  rw [World.setCells, setCell_row h, setCells_row vs (o + 1) _ _ (putRow_heap _ _ (lt_of_heap h)), putRow_putRow, setRange]
theorem Lift.step_putRow {w : World} {blk : Nat} {c c' : Array Value} {T : TypeId} (h : w.heap[blk]? = some (.cells c T (0, 0))) (hs : c'.size = c.size) {M : Nat → Prop} (hM : M blk) : Step M w (putRow w blk c' T) where
 size := by simp [putRow]
 os := rfl
 tape := rfl
 output := rfl
 keep b hb hm := by
  have : blk ≠ b := fun e => hm (e ▸ hM)
  simp [putRow, Array.getElem?_setIfInBounds_ne this]
 shape b c0 T0 z h0 := by
  by_cases e : b = blk
  ·subst e
   rw [h] at h0
   cases h0
   exact ⟨c', hs, putRow_heap _ _ (lt_of_heap h)⟩
  ·refine ⟨c0, rfl, ?_⟩
   simp [putRow, Array.getElem?_setIfInBounds_ne (Ne.symm e), h0]
def rhoL : Go.Shelf.Ren := ⟨fun
 | 21 => 102
 | 23 => 84
 | 27 => 111
 | 28 => 112
 | 35 => 116
 | 39 => 118
 | n => n, fun
 | 0 => 0
 | 3 => 3
 | 4 => 4
 | 22 => 22
 | n => n, fun n => n⟩
theorem layDel : Lays2.n23 Tryz.prog rhoL where
 mixed := by kernel_rfl
 f23 := by kernel_rfl
 t0 := by kernel_rfl
 a0 := fun _ => by kernel_rfl
 z0 := fun _ => by kernel_rfl
 v0 := fun _ => by kernel_rfl
 t3 := by kernel_rfl
 a3 := fun _ => by kernel_rfl
 z3 := fun _ => by kernel_rfl
 v3 := fun _ => by kernel_rfl
 t4 := by kernel_rfl
 a4 := fun _ => by kernel_rfl
 z4 := fun _ => by kernel_rfl
 v4 := fun _ => by kernel_rfl
 t22 := by kernel_rfl
 a22 := fun _ => by kernel_rfl
 z22 := fun _ => by kernel_rfl
 v22 := fun _ => by kernel_rfl
 i3 := by kernel_rfl
theorem zl_cells {F : Nat → Prop} {w : World} {env : Env} {D : Nat → Prop} {c : Array Value} {l : List Int} (h : ∀ k, k < l.length → Rep F w env D (c.getD k undef) ((zl l).getD k .junk)) : ∀ k, k < l.length → c.getD k undef = .int .i64 (l.getD k 0) := fun k hk => by
 have := h k hk
 rw [zl_get hk] at this
 exact this.int_inv.1
theorem zl_rep {F : Nat → Prop} {w : World} {env : Env} {D : Nat → Prop} {c : Array Value} {l : List Int} (h : ∀ k, k < l.length → c.getD k undef = .int .i64 (l.getD k 0)) (hb : ∀ k, k < l.length → -9223372036854775808 ≤ l.getD k 0 ∧ l.getD k 0 ≤ 9223372036854775807) : ∀ k, k < (zl l).length → Rep F w env D (c.getD k undef) ((zl l).getD k .junk) := fun k hk => by
 rw [zl_length] at hk
 rw [zl_get hk, h k hk]
 exact .i (hb k hk)
set_option maxHeartbeats 4000000 in
theorem fdel_g (l : List Int) (i : Nat) (hi : i < l.length) (hl : l.length < 2 ^ 40) (hb : ∀ k, k < l.length → -9223372036854775808 ≤ l.getD k 0 ∧ l.getD k 0 ≤ 9223372036854775807) :
  GCall Tryz.prog 84 [.own 0 0 l.length 1, .i .i64 (i : Nat), .i .i64 ((i + 1 : Nat) : Int)] [⟨3, zl l⟩] [⟨3, zl (l.take i ++ l.drop (i + 1) ++ [0])⟩] (.own 0 0 (l.length - 1) 1) := by
 refine ⟨rfl, Tryz.call84, fun O w G xs hO hGO hinj hrow hsz hr => ?_⟩
 obtain ⟨xl⟩ := xs
 match xl, hsz with
 | [a, b, d], hs3 =>
 have h0 : Rep _ w G _ a (.own 0 0 l.length 1) := hr 0 (by simp)
 have h1 : Rep _ w G _ b (.i .i64 (i : Nat)) := hr 1 (by simp)
 have h2 : Rep _ w G _ d (.i .i64 ((i + 1 : Nat) : Int)) := hr 2 (by simp)
 have e1 := h1.int_inv.1
 have e2 := h2.int_inv.1
 subst e1 e2
 obtain ⟨n, hn⟩ : ∃ n, l.length = n := ⟨_, rfl⟩
 rw [hn] at h0
 have hrow0 := hrow 0 Nat.zero_lt_one
 cases h0 with
 | own0 a1 => omega
 | own a1 a2 a3 a4 a5 =>
  rename_i cap blk
  rcases hrow0 with ⟨blk', c, he, hw, hcl, hcc⟩ | ⟨he, _⟩
  ·rw [a2] at he
   cases he
   replace hw : w.heap[blk]? = some (Obj.cells c 3 (0, 0)) := hw
   replace hcl : (zl l).length ≤ c.size := hcl
   rw [zl_length] at hcl
   have hcells := zl_cells (l := l) (fun k hk => hcc k (by show k < (zl l).length; rw [zl_length]; exact hk))
   obtain ⟨c9, T9, z9, hw9, hsz9⟩ := a5
   have hk := Any.slices_Delete_int_cells layDel blk 0 n cap i (i + 1) l w (by omega) a3 (by omega) (by omega) (by omega) (fun j hj => by rw [Nat.zero_add, cell_row hw (by omega), hcells j hj]) (fun j hj => by simp [World.frozen?, hw])
   refine Calls.mono hk ?_
   rintro e w' ⟨rfl, q, rfl⟩
   have hwq : (w.drewN q).heap[blk]? = some (Obj.cells c 3 (0, 0)) := hw
   rw [List.take_of_length_le (by omega : l.length ≤ n), show i + 1 - i = 1 by omega, show List.replicate 1 (0 : Int) = [0] from rfl, setCells_row _ _ _ _ hwq]
   obtain ⟨l', hl'⟩ : ∃ l', l.take i ++ l.drop (i + 1) ++ [0] = l' := ⟨_, rfl⟩
   have hlen : l'.length = n := by rw [← hl']; simp; omega
   have hb' : ∀ k, k < l'.length → -9223372036854775808 ≤ l'.getD k 0 ∧ l'.getD k 0 ≤ 9223372036854775807 := fun k hk => by
    have hm : l'.getD k 0 ∈ l' := by rw [List.getD_eq_getElem?_getD, List.getElem?_eq_getElem hk]; exact List.getElem_mem hk
    obtain ⟨x, hx⟩ : ∃ x, l'.getD k 0 = x := ⟨_, rfl⟩
    rw [hx] at hm ⊢
    rw [← hl', List.mem_append, List.mem_append, List.mem_singleton] at hm
    have hin : x ∈ l → -9223372036854775808 ≤ x ∧ x ≤ 9223372036854775807 := fun hx => by
     obtain ⟨j, hj, rfl⟩ := List.getElem_of_mem hx
     have := hb j hj
     rwa [List.getD_eq_getElem?_getD, List.getElem?_eq_getElem hj] at this
    rcases hm with (h | h) | h
    ·exact hin (List.mem_of_mem_take h)
    ·exact hin (List.mem_of_mem_drop h)
    ·rw [h]; omega
   rw [hl']
   have hst : Step (Gb 1 G) w (putRow (w.drewN q) blk (setRange c 0 (l'.map (Value.int .i64))) 3) :=
    (show Step (Gb 1 G) w (w.drewN q) from ⟨Nat.le_refl _, rfl, rfl, rfl, fun _ _ _ => rfl, fun _ c _ _ h => ⟨c, rfl, h⟩⟩).trans (step_putRow hwq (setRange_size _ _ _) ⟨0, Nat.zero_lt_one, a2⟩) (fun _ _ h => h)
   have hw' := putRow_heap (w := w.drewN q) (setRange c 0 (l'.map (Value.int .i64))) 3 (lt_of_heap hwq)
   refine ⟨_, rfl, hst, fun m hm => ?_, ?_⟩
   ·obtain rfl : m = 0 := Nat.lt_one_iff.1 hm
    refine .inl ⟨blk, _, a2, hw', ?_, ?_⟩
    ·show (zl l').length ≤ _
     rw [zl_length, setRange_size]
     omega
    ·exact zl_rep (fun k hk => by
      rw [setRange_get _ _ _ _ (by rw [List.length_map]; omega), if_pos ⟨Nat.zero_le _, by rw [List.length_map]; omega⟩, Nat.sub_zero, List.getD_eq_getElem?_getD, List.getElem?_map, List.getElem?_eq_getElem hk, List.getD_eq_getElem?_getD, List.getElem?_eq_getElem hk]
      rfl) hb'
   ·rw [hn]
    exact .own a1 a2 (by omega) (by omega) ⟨_, _, _, hw', by rw [setRange_size]; rw [hw] at hw9; cases hw9; exact hsz9⟩
  ·rw [a2] at he
   cases he
end Go.Proofs.YtogpimmcodaljaaGreat
