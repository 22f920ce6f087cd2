/-
  No cell of these rows narrows 'for every input' (looked for: loops, veiled, ifaces, maps, wideKeys, modest, calm, conditions, laid).
  DERIVED. THE GIVEN ROWS OF THIS SEAT. 5 by the template 'for every input the law returns true; each argument reads behind the call as it read before'; 0 by the template 'total and deterministic' (their statements: YtogpimmcodaljaaTotals.lean).
  GIVEN WITH THE SEED: the statements are not yours to turn. If you find one false, say at which input.
  Laid BY PROGRAM, IN A SANDBOX (cutbox-rows.mjs): the forced cells as the released guide's own fill.sh prints them over the translation 6b3b8dc9a786dd37… (all of the seat's roots in one cut). By AI agents, Wed Nov 11 2026. No macro, syntax, notation, axiom, sorry.
-/
import Derived.Test.YtogpimmcodaljaaChecked
import GoSem.Claim
import GoSem.ClaimJoined
import GoSem.ClaimMapViews
import Derived.JoinedTies
import Derived.KernelRfl
namespace Go.Proofs.Ytogpimmcodaljaa
/- THE CELL 'sum', in the pinned program and in every row, IS THE sha256 OF THE DUMP (.gsa) THAT YtogpimmcodaljaaProg.lean LOADS. Nothing in Lean hashes anything: it is a label: what it is worth is what the hold of that sum in a sandbox is worth. -/
noncomputable def Try.pinned : Pinned := { name := "ytogpimmcodaljaa", sum := "6b3b8dc9a786dd3770e4a4716f149a0a1eaa7a46abc604c87b99a33f293614eb", checked := Try.checked }
namespace Rows
def none {H : Type} : Left H := { results := [], args := [] }

/-- 'sortilegelaw26.FactorRights': WHATEVER THE INPUT: true; the input reads as it did. -/
def factorRightsSpec : ChangeSpec := { name := "factorRights", fn := fun _ => fun
  | [d1, d2, d3, d4] => { results := [.lit (.bool true)], args := [d1, d2, d3, d4] }
  | _ => none }
def factorRightsRow : OpenClaim := { program := "ytogpimmcodaljaa", sum := "6b3b8dc9a786dd3770e4a4716f149a0a1eaa7a46abc604c87b99a33f293614eb", func := "sortilege/sortilegelaw26.FactorRights", spec := "factorRights", unfollowed := true, recurses := true, apart := false }
def FactorRightsSaid : Prop := factorRightsRow.holds Try.pinned (OpenSpec.ofChange factorRightsSpec)

/-- ITS FALSE NEIGHBOUR: 'it returns false'. Refute it at one input. -/
def factorRightsWrong : ChangeSpec := { name := "factorRights", fn := fun _ => fun
  | [d1, d2, d3, d4] => { results := [.lit (.bool false)], args := [d1, d2, d3, d4] }
  | _ => none }
def FactorRightsWrongFalsely : Prop := factorRightsRow.holds Try.pinned (OpenSpec.ofChange factorRightsWrong)

/-- 'sortilegelaw26.FactorMosts': WHATEVER THE INPUT: true; the input reads as it did. -/
def factorMostsSpec : ChangeSpec := { name := "factorMosts", fn := fun _ => fun
  | [d1, d2, d3] => { results := [.lit (.bool true)], args := [d1, d2, d3] }
  | _ => none }
def factorMostsRow : OpenClaim := { program := "ytogpimmcodaljaa", sum := "6b3b8dc9a786dd3770e4a4716f149a0a1eaa7a46abc604c87b99a33f293614eb", func := "sortilege/sortilegelaw26.FactorMosts", spec := "factorMosts", unfollowed := true, recurses := true, apart := false }
def FactorMostsSaid : Prop := factorMostsRow.holds Try.pinned (OpenSpec.ofChange factorMostsSpec)

/-- ITS FALSE NEIGHBOUR: 'it returns false'. Refute it at one input. -/
def factorMostsWrong : ChangeSpec := { name := "factorMosts", fn := fun _ => fun
  | [d1, d2, d3] => { results := [.lit (.bool false)], args := [d1, d2, d3] }
  | _ => none }
def FactorMostsWrongFalsely : Prop := factorMostsRow.holds Try.pinned (OpenSpec.ofChange factorMostsWrong)

/-- 'sortilegelaw26.FactorMuls': WHATEVER THE INPUT: true; the input reads as it did. -/
def factorMulsSpec : ChangeSpec := { name := "factorMuls", fn := fun _ => fun
  | [d1, d2] => { results := [.lit (.bool true)], args := [d1, d2] }
  | _ => none }
def factorMulsRow : OpenClaim := { program := "ytogpimmcodaljaa", sum := "6b3b8dc9a786dd3770e4a4716f149a0a1eaa7a46abc604c87b99a33f293614eb", func := "sortilege/sortilegelaw26.FactorMuls", spec := "factorMuls", inPlace := ["slices.overlaps[int]"], unfollowed := true, recurses := true, apart := false }
def FactorMulsSaid : Prop := factorMulsRow.holds Try.pinned (OpenSpec.ofChange factorMulsSpec)

/-- ITS FALSE NEIGHBOUR: 'it returns false'. Refute it at one input. -/
def factorMulsWrong : ChangeSpec := { name := "factorMuls", fn := fun _ => fun
  | [d1, d2] => { results := [.lit (.bool false)], args := [d1, d2] }
  | _ => none }
def FactorMulsWrongFalsely : Prop := factorMulsRow.holds Try.pinned (OpenSpec.ofChange factorMulsWrong)

/-- 'sortilegelaw26.FactorCells': WHATEVER THE INPUT: true; the input reads as it did. -/
def factorCellsSpec : ChangeSpec := { name := "factorCells", fn := fun _ => fun
  | [d1, d2, d3] => { results := [.lit (.bool true)], args := [d1, d2, d3] }
  | _ => none }
def factorCellsRow : OpenClaim := { program := "ytogpimmcodaljaa", sum := "6b3b8dc9a786dd3770e4a4716f149a0a1eaa7a46abc604c87b99a33f293614eb", func := "sortilege/sortilegelaw26.FactorCells", spec := "factorCells", inPlace := ["slices.overlaps[int]"], unfollowed := true, recurses := true, apart := false }
def FactorCellsSaid : Prop := factorCellsRow.holds Try.pinned (OpenSpec.ofChange factorCellsSpec)

/-- ITS FALSE NEIGHBOUR: 'it returns false'. Refute it at one input. -/
def factorCellsWrong : ChangeSpec := { name := "factorCells", fn := fun _ => fun
  | [d1, d2, d3] => { results := [.lit (.bool false)], args := [d1, d2, d3] }
  | _ => none }
def FactorCellsWrongFalsely : Prop := factorCellsRow.holds Try.pinned (OpenSpec.ofChange factorCellsWrong)

/-- 'sortilegelaw26.FactorOrders': WHATEVER THE INPUT: true; the input reads as it did. -/
def factorOrdersSpec : ChangeSpec := { name := "factorOrders", fn := fun _ => fun
  | [d1, d2, d3, d4, d5] => { results := [.lit (.bool true)], args := [d1, d2, d3, d4, d5] }
  | _ => none }
def factorOrdersRow : OpenClaim := { program := "ytogpimmcodaljaa", sum := "6b3b8dc9a786dd3770e4a4716f149a0a1eaa7a46abc604c87b99a33f293614eb", func := "sortilege/sortilegelaw26.FactorOrders", spec := "factorOrders", inPlace := ["slices.overlaps[int]"], unfollowed := true, recurses := true, apart := false }
def FactorOrdersSaid : Prop := factorOrdersRow.holds Try.pinned (OpenSpec.ofChange factorOrdersSpec)

/-- ITS FALSE NEIGHBOUR: 'it returns false'. Refute it at one input. -/
def factorOrdersWrong : ChangeSpec := { name := "factorOrders", fn := fun _ => fun
  | [d1, d2, d3, d4, d5] => { results := [.lit (.bool false)], args := [d1, d2, d3, d4, d5] }
  | _ => none }
def FactorOrdersWrongFalsely : Prop := factorOrdersRow.holds Try.pinned (OpenSpec.ofChange factorOrdersWrong)

/- THE SECOND FORM. 'bulk': how many values and letters a reading holds, each counted each time it is reached (what is shared counts as often as it is met; a slice's spare places count too). A statement '..UptoSaid' is the law's where the arguments, and the package variables that the reading takes, are together of bulk at most 1048576: NARROWER than '..Said'. Prove '..Said' where nothing that the law and all that it calls make is longer than what came in: it says more and counts as full. Else prove '..UptoSaid'. A law counts once. -/
mutual
def uptoBulk {H : Type} : DataW H → Nat
  | .lit (.string bytes) => bytes.length + 1
  | .lit _ => 1
  | .nil => 1
  | .ptr d => uptoBulk d + 1
  | .slice elems spare => uptoBulkAll elems + uptoBulkAll spare + 1
  | .agg parts => uptoBulkAll parts + 1
  | .iface _ d => uptoBulk d + 1
  | .map entries => uptoBulkEntries entries + 1
  | .held _ => 1
def uptoBulkAll {H : Type} : List (DataW H) → Nat
  | [] => 0
  | d :: r => uptoBulk d + uptoBulkAll r
def uptoBulkEntries {H : Type} : List (Lit × DataW H) → Nat
  | [] => 0
  | x :: r => uptoBulkEntry x + uptoBulkEntries r
def uptoBulkEntry {H : Type} : Lit × DataW H → Nat
  | (.string bytes, d) => bytes.length + uptoBulk d + 1
  | (_, d) => uptoBulk d + 1
 end
def uptoSmall : (H : Type) → List (DataW H) → Bool := fun _ ds => decide (uptoBulkAll ds ≤ 1048576)
def OpenSpec.upto (s : _root_.Go.ChangeSpec) : _root_.Go.OpenSpec := { _root_.Go.OpenSpec.ofChange s with cond := some uptoSmall }

/-- 'sortilegelaw26.FactorRights', WHERE WHAT IT READS IS OF BULK AT MOST 1048576: true; the input reads as it did. -/
def factorRightsUptoRow : OpenClaim := { program := "ytogpimmcodaljaa", sum := "6b3b8dc9a786dd3770e4a4716f149a0a1eaa7a46abc604c87b99a33f293614eb", func := "sortilege/sortilegelaw26.FactorRights", spec := "factorRights", unfollowed := true, recurses := true, apart := false, narrowed := true }
def FactorRightsUptoSaid : Prop := factorRightsUptoRow.holds Try.pinned (OpenSpec.upto factorRightsSpec)

/-- 'sortilegelaw26.FactorMosts', WHERE WHAT IT READS IS OF BULK AT MOST 1048576: true; the input reads as it did. -/
def factorMostsUptoRow : OpenClaim := { program := "ytogpimmcodaljaa", sum := "6b3b8dc9a786dd3770e4a4716f149a0a1eaa7a46abc604c87b99a33f293614eb", func := "sortilege/sortilegelaw26.FactorMosts", spec := "factorMosts", unfollowed := true, recurses := true, apart := false, narrowed := true }
def FactorMostsUptoSaid : Prop := factorMostsUptoRow.holds Try.pinned (OpenSpec.upto factorMostsSpec)

/-- 'sortilegelaw26.FactorMuls', WHERE WHAT IT READS IS OF BULK AT MOST 1048576: true; the input reads as it did. -/
def factorMulsUptoRow : OpenClaim := { program := "ytogpimmcodaljaa", sum := "6b3b8dc9a786dd3770e4a4716f149a0a1eaa7a46abc604c87b99a33f293614eb", func := "sortilege/sortilegelaw26.FactorMuls", spec := "factorMuls", inPlace := ["slices.overlaps[int]"], unfollowed := true, recurses := true, apart := false, narrowed := true }
def FactorMulsUptoSaid : Prop := factorMulsUptoRow.holds Try.pinned (OpenSpec.upto factorMulsSpec)

/-- 'sortilegelaw26.FactorCells', WHERE WHAT IT READS IS OF BULK AT MOST 1048576: true; the input reads as it did. -/
def factorCellsUptoRow : OpenClaim := { program := "ytogpimmcodaljaa", sum := "6b3b8dc9a786dd3770e4a4716f149a0a1eaa7a46abc604c87b99a33f293614eb", func := "sortilege/sortilegelaw26.FactorCells", spec := "factorCells", inPlace := ["slices.overlaps[int]"], unfollowed := true, recurses := true, apart := false, narrowed := true }
def FactorCellsUptoSaid : Prop := factorCellsUptoRow.holds Try.pinned (OpenSpec.upto factorCellsSpec)

/-- 'sortilegelaw26.FactorOrders', WHERE WHAT IT READS IS OF BULK AT MOST 1048576: true; the input reads as it did. -/
def factorOrdersUptoRow : OpenClaim := { program := "ytogpimmcodaljaa", sum := "6b3b8dc9a786dd3770e4a4716f149a0a1eaa7a46abc604c87b99a33f293614eb", func := "sortilege/sortilegelaw26.FactorOrders", spec := "factorOrders", inPlace := ["slices.overlaps[int]"], unfollowed := true, recurses := true, apart := false, narrowed := true }
def FactorOrdersUptoSaid : Prop := factorOrdersUptoRow.holds Try.pinned (OpenSpec.upto factorOrdersSpec)

end Rows
end Go.Proofs.Ytogpimmcodaljaa
