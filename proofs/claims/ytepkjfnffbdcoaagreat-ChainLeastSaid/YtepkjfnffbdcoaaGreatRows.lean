/-
  No cell of these rows narrows 'for every input' (looked for: loops, veiled, ifaces, maps, wideKeys, modest, calm, conditions, laid).
  DERIVED. THE GIVEN ROWS OF THIS SEAT. 11 by the template 'for every input the law returns true; each argument reads behind the call as it read before'; 0 by the template 'total and deterministic' (their statements: YtepkjfnffbdcoaaGreatTotals.lean).
  GIVEN WITH THE SEED: the statements are not yours to turn. If you find one false, say at which input.
  Laid BY PROGRAM, IN A SANDBOX (cutbox-rows.mjs): the forced cells as the released guide's own fill.sh prints them over the translation 04ddd77be2e81433… (all of the seat's roots in one cut). By AI agents, Wed Nov 11 2026. No macro, syntax, notation, axiom, sorry.
-/
import Derived.Test.YtepkjfnffbdcoaaGreatChecked
import GoSem.Claim
import GoSem.ClaimJoined
import GoSem.ClaimMapViews
import Derived.JoinedTies
import Derived.KernelRfl
namespace Go.Proofs.YtepkjfnffbdcoaaGreat
/- THE CELL 'sum', in the pinned program and in every row, IS THE sha256 OF THE DUMP (.gsa) THAT YtepkjfnffbdcoaaGreatProg.lean LOADS. Nothing in Lean hashes anything: it is a label: what it is worth is what the hold of that sum in a sandbox is worth. -/
noncomputable def Tryz.pinned : Pinned := { name := "ytepkjfnffbdcoaagreat", sum := "04ddd77be2e81433aca1266c4e56347a98f42a97c250a22497450f5b612ce3de", checked := Tryz.checked }
namespace Rows
def none {H : Type} : Left H := { results := [], args := [] }

/-- 'sortilegelaw20.ChainEnds': WHATEVER THE INPUT: true; the input reads as it did. -/
def chainEndsSpec : ChangeSpec := { name := "chainEnds", fn := fun _ => fun
  | [d1, d2] => { results := [.lit (.bool true)], args := [d1, d2] }
  | _ => none }
def chainEndsRow : OpenClaim := { program := "ytepkjfnffbdcoaagreat", sum := "04ddd77be2e81433aca1266c4e56347a98f42a97c250a22497450f5b612ce3de", func := "sortilege/sortilegelaw20.ChainEnds", spec := "chainEnds", unfollowed := true, recurses := true, apart := false }
def ChainEndsSaid : Prop := chainEndsRow.holds Tryz.pinned (OpenSpec.ofChange chainEndsSpec)

/-- ITS FALSE NEIGHBOUR: 'it returns false'. Refute it at one input. -/
def chainEndsWrong : ChangeSpec := { name := "chainEnds", fn := fun _ => fun
  | [d1, d2] => { results := [.lit (.bool false)], args := [d1, d2] }
  | _ => none }
def ChainEndsWrongFalsely : Prop := chainEndsRow.holds Tryz.pinned (OpenSpec.ofChange chainEndsWrong)

/-- 'sortilegelaw20.ChainVisits': WHATEVER THE INPUT: true; the input reads as it did. -/
def chainVisitsSpec : ChangeSpec := { name := "chainVisits", fn := fun _ => fun
  | [d1, d2] => { results := [.lit (.bool true)], args := [d1, d2] }
  | _ => none }
def chainVisitsRow : OpenClaim := { program := "ytepkjfnffbdcoaagreat", sum := "04ddd77be2e81433aca1266c4e56347a98f42a97c250a22497450f5b612ce3de", func := "sortilege/sortilegelaw20.ChainVisits", spec := "chainVisits", unfollowed := true, recurses := true, apart := false }
def ChainVisitsSaid : Prop := chainVisitsRow.holds Tryz.pinned (OpenSpec.ofChange chainVisitsSpec)

/-- ITS FALSE NEIGHBOUR: 'it returns false'. Refute it at one input. -/
def chainVisitsWrong : ChangeSpec := { name := "chainVisits", fn := fun _ => fun
  | [d1, d2] => { results := [.lit (.bool false)], args := [d1, d2] }
  | _ => none }
def ChainVisitsWrongFalsely : Prop := chainVisitsRow.holds Tryz.pinned (OpenSpec.ofChange chainVisitsWrong)

/-- 'sortilegelaw20.ChainLeast': WHATEVER THE INPUT: true; the input reads as it did. -/
def chainLeastSpec : ChangeSpec := { name := "chainLeast", fn := fun _ => fun
  | [d1, d2] => { results := [.lit (.bool true)], args := [d1, d2] }
  | _ => none }
def chainLeastRow : OpenClaim := { program := "ytepkjfnffbdcoaagreat", sum := "04ddd77be2e81433aca1266c4e56347a98f42a97c250a22497450f5b612ce3de", func := "sortilege/sortilegelaw20.ChainLeast", spec := "chainLeast", unfollowed := true, recurses := true, apart := false }
def ChainLeastSaid : Prop := chainLeastRow.holds Tryz.pinned (OpenSpec.ofChange chainLeastSpec)

/-- ITS FALSE NEIGHBOUR: 'it returns false'. Refute it at one input. -/
def chainLeastWrong : ChangeSpec := { name := "chainLeast", fn := fun _ => fun
  | [d1, d2] => { results := [.lit (.bool false)], args := [d1, d2] }
  | _ => none }
def ChainLeastWrongFalsely : Prop := chainLeastRow.holds Tryz.pinned (OpenSpec.ofChange chainLeastWrong)

/-- 'sortilegelaw20.ChainMet': WHATEVER THE INPUT: true; the input reads as it did. -/
def chainMetSpec : ChangeSpec := { name := "chainMet", fn := fun _ => fun
  | [d1, d2] => { results := [.lit (.bool true)], args := [d1, d2] }
  | _ => none }
def chainMetRow : OpenClaim := { program := "ytepkjfnffbdcoaagreat", sum := "04ddd77be2e81433aca1266c4e56347a98f42a97c250a22497450f5b612ce3de", func := "sortilege/sortilegelaw20.ChainMet", spec := "chainMet", unfollowed := true, recurses := true, apart := false }
def ChainMetSaid : Prop := chainMetRow.holds Tryz.pinned (OpenSpec.ofChange chainMetSpec)

/-- ITS FALSE NEIGHBOUR: 'it returns false'. Refute it at one input. -/
def chainMetWrong : ChangeSpec := { name := "chainMet", fn := fun _ => fun
  | [d1, d2] => { results := [.lit (.bool false)], args := [d1, d2] }
  | _ => none }
def ChainMetWrongFalsely : Prop := chainMetRow.holds Tryz.pinned (OpenSpec.ofChange chainMetWrong)

/-- 'sortilegelaw20.ChainMoves': WHATEVER THE INPUT: true; the input reads as it did. -/
def chainMovesSpec : ChangeSpec := { name := "chainMoves", fn := fun _ => fun
  | [d1, d2, d3] => { results := [.lit (.bool true)], args := [d1, d2, d3] }
  | _ => none }
def chainMovesRow : OpenClaim := { program := "ytepkjfnffbdcoaagreat", sum := "04ddd77be2e81433aca1266c4e56347a98f42a97c250a22497450f5b612ce3de", func := "sortilege/sortilegelaw20.ChainMoves", spec := "chainMoves", unfollowed := true, recurses := true, apart := false }
def ChainMovesSaid : Prop := chainMovesRow.holds Tryz.pinned (OpenSpec.ofChange chainMovesSpec)

/-- ITS FALSE NEIGHBOUR: 'it returns false'. Refute it at one input. -/
def chainMovesWrong : ChangeSpec := { name := "chainMoves", fn := fun _ => fun
  | [d1, d2, d3] => { results := [.lit (.bool false)], args := [d1, d2, d3] }
  | _ => none }
def ChainMovesWrongFalsely : Prop := chainMovesRow.holds Tryz.pinned (OpenSpec.ofChange chainMovesWrong)

/-- 'sortilegelaw20.ChainRises': WHATEVER THE INPUT: true; the input reads as it did. -/
def chainRisesSpec : ChangeSpec := { name := "chainRises", fn := fun _ => fun
  | [d1, d2, d3] => { results := [.lit (.bool true)], args := [d1, d2, d3] }
  | _ => none }
def chainRisesRow : OpenClaim := { program := "ytepkjfnffbdcoaagreat", sum := "04ddd77be2e81433aca1266c4e56347a98f42a97c250a22497450f5b612ce3de", func := "sortilege/sortilegelaw20.ChainRises", spec := "chainRises", unfollowed := true, recurses := true, apart := false }
def ChainRisesSaid : Prop := chainRisesRow.holds Tryz.pinned (OpenSpec.ofChange chainRisesSpec)

/-- ITS FALSE NEIGHBOUR: 'it returns false'. Refute it at one input. -/
def chainRisesWrong : ChangeSpec := { name := "chainRises", fn := fun _ => fun
  | [d1, d2, d3] => { results := [.lit (.bool false)], args := [d1, d2, d3] }
  | _ => none }
def ChainRisesWrongFalsely : Prop := chainRisesRow.holds Tryz.pinned (OpenSpec.ofChange chainRisesWrong)

/-- 'sortilegelaw20.ChainNear': WHATEVER THE INPUT: true; the input reads as it did. -/
def chainNearSpec : ChangeSpec := { name := "chainNear", fn := fun _ => fun
  | [d1, d2] => { results := [.lit (.bool true)], args := [d1, d2] }
  | _ => none }
def chainNearRow : OpenClaim := { program := "ytepkjfnffbdcoaagreat", sum := "04ddd77be2e81433aca1266c4e56347a98f42a97c250a22497450f5b612ce3de", func := "sortilege/sortilegelaw20.ChainNear", spec := "chainNear", unfollowed := true, recurses := true, apart := false }
def ChainNearSaid : Prop := chainNearRow.holds Tryz.pinned (OpenSpec.ofChange chainNearSpec)

/-- ITS FALSE NEIGHBOUR: 'it returns false'. Refute it at one input. -/
def chainNearWrong : ChangeSpec := { name := "chainNear", fn := fun _ => fun
  | [d1, d2] => { results := [.lit (.bool false)], args := [d1, d2] }
  | _ => none }
def ChainNearWrongFalsely : Prop := chainNearRow.holds Tryz.pinned (OpenSpec.ofChange chainNearWrong)

/-- 'sortilegelaw20.ChainRows': WHATEVER THE INPUT: true; the input reads as it did. -/
def chainRowsSpec : ChangeSpec := { name := "chainRows", fn := fun _ => fun
  | [d1, d2] => { results := [.lit (.bool true)], args := [d1, d2] }
  | _ => none }
def chainRowsRow : OpenClaim := { program := "ytepkjfnffbdcoaagreat", sum := "04ddd77be2e81433aca1266c4e56347a98f42a97c250a22497450f5b612ce3de", func := "sortilege/sortilegelaw20.ChainRows", spec := "chainRows", unfollowed := true, recurses := true, apart := false }
def ChainRowsSaid : Prop := chainRowsRow.holds Tryz.pinned (OpenSpec.ofChange chainRowsSpec)

/-- ITS FALSE NEIGHBOUR: 'it returns false'. Refute it at one input. -/
def chainRowsWrong : ChangeSpec := { name := "chainRows", fn := fun _ => fun
  | [d1, d2] => { results := [.lit (.bool false)], args := [d1, d2] }
  | _ => none }
def ChainRowsWrongFalsely : Prop := chainRowsRow.holds Tryz.pinned (OpenSpec.ofChange chainRowsWrong)

/-- 'sortilegelaw20.ChainReaches': WHATEVER THE INPUT: true; the input reads as it did. -/
def chainReachesSpec : ChangeSpec := { name := "chainReaches", fn := fun _ => fun
  | [d] => { results := [.lit (.bool true)], args := [d] }
  | _ => none }
def chainReachesRow : OpenClaim := { program := "ytepkjfnffbdcoaagreat", sum := "04ddd77be2e81433aca1266c4e56347a98f42a97c250a22497450f5b612ce3de", func := "sortilege/sortilegelaw20.ChainReaches", spec := "chainReaches", unfollowed := true, recurses := true, apart := false }
def ChainReachesSaid : Prop := chainReachesRow.holds Tryz.pinned (OpenSpec.ofChange chainReachesSpec)

/-- ITS FALSE NEIGHBOUR: 'it returns false'. Refute it at one input. -/
def chainReachesWrong : ChangeSpec := { name := "chainReaches", fn := fun _ => fun
  | [d] => { results := [.lit (.bool false)], args := [d] }
  | _ => none }
def ChainReachesWrongFalsely : Prop := chainReachesRow.holds Tryz.pinned (OpenSpec.ofChange chainReachesWrong)

/-- 'sortilegelaw20.ChainHolds': WHATEVER THE INPUT: true; the input reads as it did. -/
def chainHoldsSpec : ChangeSpec := { name := "chainHolds", fn := fun _ => fun
  | [d1, d2] => { results := [.lit (.bool true)], args := [d1, d2] }
  | _ => none }
def chainHoldsRow : OpenClaim := { program := "ytepkjfnffbdcoaagreat", sum := "04ddd77be2e81433aca1266c4e56347a98f42a97c250a22497450f5b612ce3de", func := "sortilege/sortilegelaw20.ChainHolds", spec := "chainHolds", unfollowed := true, recurses := true, apart := false }
def ChainHoldsSaid : Prop := chainHoldsRow.holds Tryz.pinned (OpenSpec.ofChange chainHoldsSpec)

/-- ITS FALSE NEIGHBOUR: 'it returns false'. Refute it at one input. -/
def chainHoldsWrong : ChangeSpec := { name := "chainHolds", fn := fun _ => fun
  | [d1, d2] => { results := [.lit (.bool false)], args := [d1, d2] }
  | _ => none }
def ChainHoldsWrongFalsely : Prop := chainHoldsRow.holds Tryz.pinned (OpenSpec.ofChange chainHoldsWrong)

/-- 'sortilegelaw20.ChainOnly': WHATEVER THE INPUT: true; the input reads as it did. -/
def chainOnlySpec : ChangeSpec := { name := "chainOnly", fn := fun _ => fun
  | [d1, d2, d3] => { results := [.lit (.bool true)], args := [d1, d2, d3] }
  | _ => none }
def chainOnlyRow : OpenClaim := { program := "ytepkjfnffbdcoaagreat", sum := "04ddd77be2e81433aca1266c4e56347a98f42a97c250a22497450f5b612ce3de", func := "sortilege/sortilegelaw20.ChainOnly", spec := "chainOnly", unfollowed := true, recurses := true, apart := false }
def ChainOnlySaid : Prop := chainOnlyRow.holds Tryz.pinned (OpenSpec.ofChange chainOnlySpec)

/-- ITS FALSE NEIGHBOUR: 'it returns false'. Refute it at one input. -/
def chainOnlyWrong : ChangeSpec := { name := "chainOnly", fn := fun _ => fun
  | [d1, d2, d3] => { results := [.lit (.bool false)], args := [d1, d2, d3] }
  | _ => none }
def ChainOnlyWrongFalsely : Prop := chainOnlyRow.holds Tryz.pinned (OpenSpec.ofChange chainOnlyWrong)

/- THE SECOND FORM. 'bulk': how many values and letters a reading holds, each counted each time it is reached (what is shared counts as often as it is met; a slice's spare places count too). A statement '..UptoSaid' is the law's where the arguments, and the package variables that the reading takes, are together of bulk at most 1048576: NARROWER than '..Said'. Prove '..Said' where nothing that the law and all that it calls make is longer than what came in: it says more and counts as full. Else prove '..UptoSaid'. A law counts once. -/
mutual
def uptoBulk {H : Type} : DataW H → Nat
  | .lit (.string bytes) => bytes.length + 1
  | .lit _ => 1
  | .nil => 1
  | .ptr d => uptoBulk d + 1
  | .slice elems spare => uptoBulkAll elems + uptoBulkAll spare + 1
  | .agg parts => uptoBulkAll parts + 1
  | .iface _ d => uptoBulk d + 1
  | .map entries => uptoBulkEntries entries + 1
  | .held _ => 1
def uptoBulkAll {H : Type} : List (DataW H) → Nat
  | [] => 0
  | d :: r => uptoBulk d + uptoBulkAll r
def uptoBulkEntries {H : Type} : List (Lit × DataW H) → Nat
  | [] => 0
  | x :: r => uptoBulkEntry x + uptoBulkEntries r
def uptoBulkEntry {H : Type} : Lit × DataW H → Nat
  | (.string bytes, d) => bytes.length + uptoBulk d + 1
  | (_, d) => uptoBulk d + 1
 end
def uptoSmall : (H : Type) → List (DataW H) → Bool := fun _ ds => decide (uptoBulkAll ds ≤ 1048576)
def OpenSpec.upto (s : _root_.Go.ChangeSpec) : _root_.Go.OpenSpec := { _root_.Go.OpenSpec.ofChange s with cond := some uptoSmall }

/-- 'sortilegelaw20.ChainEnds', WHERE WHAT IT READS IS OF BULK AT MOST 1048576: true; the input reads as it did. -/
def chainEndsUptoRow : OpenClaim := { program := "ytepkjfnffbdcoaagreat", sum := "04ddd77be2e81433aca1266c4e56347a98f42a97c250a22497450f5b612ce3de", func := "sortilege/sortilegelaw20.ChainEnds", spec := "chainEnds", unfollowed := true, recurses := true, apart := false, narrowed := true }
def ChainEndsUptoSaid : Prop := chainEndsUptoRow.holds Tryz.pinned (OpenSpec.upto chainEndsSpec)

/-- 'sortilegelaw20.ChainVisits', WHERE WHAT IT READS IS OF BULK AT MOST 1048576: true; the input reads as it did. -/
def chainVisitsUptoRow : OpenClaim := { program := "ytepkjfnffbdcoaagreat", sum := "04ddd77be2e81433aca1266c4e56347a98f42a97c250a22497450f5b612ce3de", func := "sortilege/sortilegelaw20.ChainVisits", spec := "chainVisits", unfollowed := true, recurses := true, apart := false, narrowed := true }
def ChainVisitsUptoSaid : Prop := chainVisitsUptoRow.holds Tryz.pinned (OpenSpec.upto chainVisitsSpec)

/-- 'sortilegelaw20.ChainLeast', WHERE WHAT IT READS IS OF BULK AT MOST 1048576: true; the input reads as it did. -/
def chainLeastUptoRow : OpenClaim := { program := "ytepkjfnffbdcoaagreat", sum := "04ddd77be2e81433aca1266c4e56347a98f42a97c250a22497450f5b612ce3de", func := "sortilege/sortilegelaw20.ChainLeast", spec := "chainLeast", unfollowed := true, recurses := true, apart := false, narrowed := true }
def ChainLeastUptoSaid : Prop := chainLeastUptoRow.holds Tryz.pinned (OpenSpec.upto chainLeastSpec)

/-- 'sortilegelaw20.ChainMet', WHERE WHAT IT READS IS OF BULK AT MOST 1048576: true; the input reads as it did. -/
def chainMetUptoRow : OpenClaim := { program := "ytepkjfnffbdcoaagreat", sum := "04ddd77be2e81433aca1266c4e56347a98f42a97c250a22497450f5b612ce3de", func := "sortilege/sortilegelaw20.ChainMet", spec := "chainMet", unfollowed := true, recurses := true, apart := false, narrowed := true }
def ChainMetUptoSaid : Prop := chainMetUptoRow.holds Tryz.pinned (OpenSpec.upto chainMetSpec)

/-- 'sortilegelaw20.ChainMoves', WHERE WHAT IT READS IS OF BULK AT MOST 1048576: true; the input reads as it did. -/
def chainMovesUptoRow : OpenClaim := { program := "ytepkjfnffbdcoaagreat", sum := "04ddd77be2e81433aca1266c4e56347a98f42a97c250a22497450f5b612ce3de", func := "sortilege/sortilegelaw20.ChainMoves", spec := "chainMoves", unfollowed := true, recurses := true, apart := false, narrowed := true }
def ChainMovesUptoSaid : Prop := chainMovesUptoRow.holds Tryz.pinned (OpenSpec.upto chainMovesSpec)

/-- 'sortilegelaw20.ChainRises', WHERE WHAT IT READS IS OF BULK AT MOST 1048576: true; the input reads as it did. -/
def chainRisesUptoRow : OpenClaim := { program := "ytepkjfnffbdcoaagreat", sum := "04ddd77be2e81433aca1266c4e56347a98f42a97c250a22497450f5b612ce3de", func := "sortilege/sortilegelaw20.ChainRises", spec := "chainRises", unfollowed := true, recurses := true, apart := false, narrowed := true }
def ChainRisesUptoSaid : Prop := chainRisesUptoRow.holds Tryz.pinned (OpenSpec.upto chainRisesSpec)

/-- 'sortilegelaw20.ChainNear', WHERE WHAT IT READS IS OF BULK AT MOST 1048576: true; the input reads as it did. -/
def chainNearUptoRow : OpenClaim := { program := "ytepkjfnffbdcoaagreat", sum := "04ddd77be2e81433aca1266c4e56347a98f42a97c250a22497450f5b612ce3de", func := "sortilege/sortilegelaw20.ChainNear", spec := "chainNear", unfollowed := true, recurses := true, apart := false, narrowed := true }
def ChainNearUptoSaid : Prop := chainNearUptoRow.holds Tryz.pinned (OpenSpec.upto chainNearSpec)

/-- 'sortilegelaw20.ChainRows', WHERE WHAT IT READS IS OF BULK AT MOST 1048576: true; the input reads as it did. -/
def chainRowsUptoRow : OpenClaim := { program := "ytepkjfnffbdcoaagreat", sum := "04ddd77be2e81433aca1266c4e56347a98f42a97c250a22497450f5b612ce3de", func := "sortilege/sortilegelaw20.ChainRows", spec := "chainRows", unfollowed := true, recurses := true, apart := false, narrowed := true }
def ChainRowsUptoSaid : Prop := chainRowsUptoRow.holds Tryz.pinned (OpenSpec.upto chainRowsSpec)

/-- 'sortilegelaw20.ChainReaches', WHERE WHAT IT READS IS OF BULK AT MOST 1048576: true; the input reads as it did. -/
def chainReachesUptoRow : OpenClaim := { program := "ytepkjfnffbdcoaagreat", sum := "04ddd77be2e81433aca1266c4e56347a98f42a97c250a22497450f5b612ce3de", func := "sortilege/sortilegelaw20.ChainReaches", spec := "chainReaches", unfollowed := true, recurses := true, apart := false, narrowed := true }
def ChainReachesUptoSaid : Prop := chainReachesUptoRow.holds Tryz.pinned (OpenSpec.upto chainReachesSpec)

/-- 'sortilegelaw20.ChainHolds', WHERE WHAT IT READS IS OF BULK AT MOST 1048576: true; the input reads as it did. -/
def chainHoldsUptoRow : OpenClaim := { program := "ytepkjfnffbdcoaagreat", sum := "04ddd77be2e81433aca1266c4e56347a98f42a97c250a22497450f5b612ce3de", func := "sortilege/sortilegelaw20.ChainHolds", spec := "chainHolds", unfollowed := true, recurses := true, apart := false, narrowed := true }
def ChainHoldsUptoSaid : Prop := chainHoldsUptoRow.holds Tryz.pinned (OpenSpec.upto chainHoldsSpec)

/-- 'sortilegelaw20.ChainOnly', WHERE WHAT IT READS IS OF BULK AT MOST 1048576: true; the input reads as it did. -/
def chainOnlyUptoRow : OpenClaim := { program := "ytepkjfnffbdcoaagreat", sum := "04ddd77be2e81433aca1266c4e56347a98f42a97c250a22497450f5b612ce3de", func := "sortilege/sortilegelaw20.ChainOnly", spec := "chainOnly", unfollowed := true, recurses := true, apart := false, narrowed := true }
def ChainOnlyUptoSaid : Prop := chainOnlyUptoRow.holds Tryz.pinned (OpenSpec.upto chainOnlySpec)

end Rows
end Go.Proofs.YtepkjfnffbdcoaaGreat
