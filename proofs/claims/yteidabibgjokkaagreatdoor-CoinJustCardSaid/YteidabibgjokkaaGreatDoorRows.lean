/-
  NARROWER THAN 'FOR EVERY INPUT', by the rows' own cells (each row's printed sentence says how): CoinMakes: laid · CoinSpreads: laid · CoinWays: laid · CoinRuns: laid · CoinBehind: laid · CoinAll: laid · CoinJust: laid · CoinNoLess: laid.
  DERIVED. THE GIVEN ROWS OF THIS SEAT. 8 by the template 'for every input the law returns true; each argument reads behind the call as it read before'; 0 by the template 'total and deterministic' (their statements: YteidabibgjokkaaGreatDoorTotals.lean).
  GIVEN WITH THE SEED: the statements are not yours to turn. If you find one false, say at which input.
  Laid BY PROGRAM, IN A SANDBOX (cutbox-rows.mjs): the forced cells as the released guide's own fill.sh prints them over the translation 2b5ab104a936830d… (all of the seat's roots in one cut). By AI agents, Wed Nov 11 2026. No macro, syntax, notation, axiom, sorry.
-/
import Derived.Test.YteidabibgjokkaaGreatDoorChecked
import GoSem.Claim
import GoSem.ClaimJoined
import GoSem.ClaimMapViews
import Derived.JoinedTies
import Derived.KernelRfl
namespace Go.Proofs.YteidabibgjokkaaGreatDoor
/- THE CELL 'sum', in the pinned program and in every row, IS THE sha256 OF THE DUMP (.gsa) THAT YteidabibgjokkaaGreatDoorProg.lean LOADS. Nothing in Lean hashes anything: it is a label: what it is worth is what the hold of that sum in a sandbox is worth. -/
noncomputable def Tryz.pinned : Pinned := { name := "yteidabibgjokkaagreatdoor", sum := "2b5ab104a936830d62f04bd195e25c4ce25e257f8768e99c19076b455b87524f", checked := Tryz.checked }
namespace Rows
def none {H : Type} : Left H := { results := [], args := [] }

/- WHAT THE LISTED PACKAGE-LEVEL VARIABLES READ AS WHEN THE CALL BEGINS. Each datum BY PROGRAM (the guide's laid-datum.mjs) off the statement by which the dump's own 'gosem.cut.vars' lays the variable. In a bare row this is a premise. The card (YteidabibgjokkaaGreatDoorCards.lean) ties it to the program's text. -/
def laid_math_bits_deBruijn32tab {H : Type} : DataW H := .agg [.lit (.int .u8 0), .lit (.int .u8 1), .lit (.int .u8 28), .lit (.int .u8 2), .lit (.int .u8 29), .lit (.int .u8 14), .lit (.int .u8 24), .lit (.int .u8 3), .lit (.int .u8 30), .lit (.int .u8 22), .lit (.int .u8 20), .lit (.int .u8 15), .lit (.int .u8 25), .lit (.int .u8 17), .lit (.int .u8 4), .lit (.int .u8 8), .lit (.int .u8 31), .lit (.int .u8 27), .lit (.int .u8 13), .lit (.int .u8 23), .lit (.int .u8 21), .lit (.int .u8 19), .lit (.int .u8 16), .lit (.int .u8 7), .lit (.int .u8 26), .lit (.int .u8 12), .lit (.int .u8 18), .lit (.int .u8 6), .lit (.int .u8 11), .lit (.int .u8 5), .lit (.int .u8 10), .lit (.int .u8 9)]
def laid_math_bits_deBruijn64tab {H : Type} : DataW H := .agg [.lit (.int .u8 0), .lit (.int .u8 1), .lit (.int .u8 56), .lit (.int .u8 2), .lit (.int .u8 57), .lit (.int .u8 49), .lit (.int .u8 28), .lit (.int .u8 3), .lit (.int .u8 61), .lit (.int .u8 58), .lit (.int .u8 42), .lit (.int .u8 50), .lit (.int .u8 38), .lit (.int .u8 29), .lit (.int .u8 17), .lit (.int .u8 4), .lit (.int .u8 62), .lit (.int .u8 47), .lit (.int .u8 59), .lit (.int .u8 36), .lit (.int .u8 45), .lit (.int .u8 43), .lit (.int .u8 51), .lit (.int .u8 22), .lit (.int .u8 53), .lit (.int .u8 39), .lit (.int .u8 33), .lit (.int .u8 30), .lit (.int .u8 24), .lit (.int .u8 18), .lit (.int .u8 12), .lit (.int .u8 5), .lit (.int .u8 63), .lit (.int .u8 55), .lit (.int .u8 48), .lit (.int .u8 27), .lit (.int .u8 60), .lit (.int .u8 41), .lit (.int .u8 37), .lit (.int .u8 16), .lit (.int .u8 46), .lit (.int .u8 35), .lit (.int .u8 44), .lit (.int .u8 21), .lit (.int .u8 52), .lit (.int .u8 32), .lit (.int .u8 23), .lit (.int .u8 11), .lit (.int .u8 54), .lit (.int .u8 26), .lit (.int .u8 40), .lit (.int .u8 15), .lit (.int .u8 34), .lit (.int .u8 20), .lit (.int .u8 31), .lit (.int .u8 10), .lit (.int .u8 25), .lit (.int .u8 14), .lit (.int .u8 19), .lit (.int .u8 9), .lit (.int .u8 13), .lit (.int .u8 8), .lit (.int .u8 7), .lit (.int .u8 6)]
def laid_internal_strconv_uint64pow10 {H : Type} : DataW H := .agg [.lit (.int .u64 1), .lit (.int .u64 10), .lit (.int .u64 100), .lit (.int .u64 1000), .lit (.int .u64 10000), .lit (.int .u64 100000), .lit (.int .u64 1000000), .lit (.int .u64 10000000), .lit (.int .u64 100000000), .lit (.int .u64 1000000000), .lit (.int .u64 10000000000), .lit (.int .u64 100000000000), .lit (.int .u64 1000000000000), .lit (.int .u64 10000000000000), .lit (.int .u64 100000000000000), .lit (.int .u64 1000000000000000), .lit (.int .u64 10000000000000000), .lit (.int .u64 100000000000000000), .lit (.int .u64 1000000000000000000), .lit (.int .u64 10000000000000000000)]

/-- 'sortilegelaw29.CoinMakes': WHATEVER THE INPUT: true; the input reads as it did. -/
def coinMakesSpec : ChangeSpec := { name := "coinMakes", fn := fun _ => fun
  | [d1, d2] => { results := [.lit (.bool true)], args := [d1, d2] }
  | _ => none }
def coinMakesRow : OpenClaim := { program := "yteidabibgjokkaagreatdoor", sum := "2b5ab104a936830d62f04bd195e25c4ce25e257f8768e99c19076b455b87524f", func := "sortilege/sortilegelaw29.CoinMakes", spec := "coinMakes", unfollowed := true, recurses := true, named := ["internal/strconv.uint64pow10", "math/bits.deBruijn32tab", "math/bits.deBruijn64tab"], apart := false, laid := [("math/bits.deBruijn32tab", laid_math_bits_deBruijn32tab), ("math/bits.deBruijn64tab", laid_math_bits_deBruijn64tab), ("internal/strconv.uint64pow10", laid_internal_strconv_uint64pow10)] }
def CoinMakesSaid : Prop := coinMakesRow.holds Tryz.pinned (OpenSpec.ofChange coinMakesSpec)

/-- ITS FALSE NEIGHBOUR: 'it returns false'. Refute it at one input. -/
def coinMakesWrong : ChangeSpec := { name := "coinMakes", fn := fun _ => fun
  | [d1, d2] => { results := [.lit (.bool false)], args := [d1, d2] }
  | _ => none }
def CoinMakesWrongFalsely : Prop := coinMakesRow.holds Tryz.pinned (OpenSpec.ofChange coinMakesWrong)

/-- 'sortilegelaw29.CoinSpreads': WHATEVER THE INPUT: true; the input reads as it did. -/
def coinSpreadsSpec : ChangeSpec := { name := "coinSpreads", fn := fun _ => fun
  | [d] => { results := [.lit (.bool true)], args := [d] }
  | _ => none }
def coinSpreadsRow : OpenClaim := { program := "yteidabibgjokkaagreatdoor", sum := "2b5ab104a936830d62f04bd195e25c4ce25e257f8768e99c19076b455b87524f", func := "sortilege/sortilegelaw29.CoinSpreads", spec := "coinSpreads", unfollowed := true, recurses := true, named := ["internal/strconv.uint64pow10", "math/bits.deBruijn32tab", "math/bits.deBruijn64tab"], apart := false, laid := [("math/bits.deBruijn32tab", laid_math_bits_deBruijn32tab), ("math/bits.deBruijn64tab", laid_math_bits_deBruijn64tab), ("internal/strconv.uint64pow10", laid_internal_strconv_uint64pow10)] }
def CoinSpreadsSaid : Prop := coinSpreadsRow.holds Tryz.pinned (OpenSpec.ofChange coinSpreadsSpec)

/-- ITS FALSE NEIGHBOUR: 'it returns false'. Refute it at one input. -/
def coinSpreadsWrong : ChangeSpec := { name := "coinSpreads", fn := fun _ => fun
  | [d] => { results := [.lit (.bool false)], args := [d] }
  | _ => none }
def CoinSpreadsWrongFalsely : Prop := coinSpreadsRow.holds Tryz.pinned (OpenSpec.ofChange coinSpreadsWrong)

/-- 'sortilegelaw29.CoinWays': WHATEVER THE INPUT: true; the input reads as it did. -/
def coinWaysSpec : ChangeSpec := { name := "coinWays", fn := fun _ => fun
  | [d1, d2] => { results := [.lit (.bool true)], args := [d1, d2] }
  | _ => none }
def coinWaysRow : OpenClaim := { program := "yteidabibgjokkaagreatdoor", sum := "2b5ab104a936830d62f04bd195e25c4ce25e257f8768e99c19076b455b87524f", func := "sortilege/sortilegelaw29.CoinWays", spec := "coinWays", unfollowed := true, recurses := true, named := ["internal/strconv.uint64pow10", "math/bits.deBruijn32tab", "math/bits.deBruijn64tab"], apart := false, laid := [("math/bits.deBruijn32tab", laid_math_bits_deBruijn32tab), ("math/bits.deBruijn64tab", laid_math_bits_deBruijn64tab), ("internal/strconv.uint64pow10", laid_internal_strconv_uint64pow10)] }
def CoinWaysSaid : Prop := coinWaysRow.holds Tryz.pinned (OpenSpec.ofChange coinWaysSpec)

/-- ITS FALSE NEIGHBOUR: 'it returns false'. Refute it at one input. -/
def coinWaysWrong : ChangeSpec := { name := "coinWays", fn := fun _ => fun
  | [d1, d2] => { results := [.lit (.bool false)], args := [d1, d2] }
  | _ => none }
def CoinWaysWrongFalsely : Prop := coinWaysRow.holds Tryz.pinned (OpenSpec.ofChange coinWaysWrong)

/-- 'sortilegelaw29.CoinRuns': WHATEVER THE INPUT: true; the input reads as it did. -/
def coinRunsSpec : ChangeSpec := { name := "coinRuns", fn := fun _ => fun
  | [d1, d2] => { results := [.lit (.bool true)], args := [d1, d2] }
  | _ => none }
def coinRunsRow : OpenClaim := { program := "yteidabibgjokkaagreatdoor", sum := "2b5ab104a936830d62f04bd195e25c4ce25e257f8768e99c19076b455b87524f", func := "sortilege/sortilegelaw29.CoinRuns", spec := "coinRuns", unfollowed := true, recurses := true, named := ["internal/strconv.uint64pow10", "math/bits.deBruijn32tab", "math/bits.deBruijn64tab"], apart := false, laid := [("math/bits.deBruijn32tab", laid_math_bits_deBruijn32tab), ("math/bits.deBruijn64tab", laid_math_bits_deBruijn64tab), ("internal/strconv.uint64pow10", laid_internal_strconv_uint64pow10)] }
def CoinRunsSaid : Prop := coinRunsRow.holds Tryz.pinned (OpenSpec.ofChange coinRunsSpec)

/-- ITS FALSE NEIGHBOUR: 'it returns false'. Refute it at one input. -/
def coinRunsWrong : ChangeSpec := { name := "coinRuns", fn := fun _ => fun
  | [d1, d2] => { results := [.lit (.bool false)], args := [d1, d2] }
  | _ => none }
def CoinRunsWrongFalsely : Prop := coinRunsRow.holds Tryz.pinned (OpenSpec.ofChange coinRunsWrong)

/-- 'sortilegelaw29.CoinBehind': WHATEVER THE INPUT: true; the input reads as it did. -/
def coinBehindSpec : ChangeSpec := { name := "coinBehind", fn := fun _ => fun
  | [d1, d2, d3] => { results := [.lit (.bool true)], args := [d1, d2, d3] }
  | _ => none }
def coinBehindRow : OpenClaim := { program := "yteidabibgjokkaagreatdoor", sum := "2b5ab104a936830d62f04bd195e25c4ce25e257f8768e99c19076b455b87524f", func := "sortilege/sortilegelaw29.CoinBehind", spec := "coinBehind", unfollowed := true, recurses := true, named := ["internal/strconv.uint64pow10", "math/bits.deBruijn32tab", "math/bits.deBruijn64tab"], apart := false, laid := [("math/bits.deBruijn32tab", laid_math_bits_deBruijn32tab), ("math/bits.deBruijn64tab", laid_math_bits_deBruijn64tab), ("internal/strconv.uint64pow10", laid_internal_strconv_uint64pow10)] }
def CoinBehindSaid : Prop := coinBehindRow.holds Tryz.pinned (OpenSpec.ofChange coinBehindSpec)

/-- ITS FALSE NEIGHBOUR: 'it returns false'. Refute it at one input. -/
def coinBehindWrong : ChangeSpec := { name := "coinBehind", fn := fun _ => fun
  | [d1, d2, d3] => { results := [.lit (.bool false)], args := [d1, d2, d3] }
  | _ => none }
def CoinBehindWrongFalsely : Prop := coinBehindRow.holds Tryz.pinned (OpenSpec.ofChange coinBehindWrong)

/-- 'sortilegelaw29.CoinAll': WHATEVER THE INPUT: true; the input reads as it did. -/
def coinAllSpec : ChangeSpec := { name := "coinAll", fn := fun _ => fun
  | [d1, d2] => { results := [.lit (.bool true)], args := [d1, d2] }
  | _ => none }
def coinAllRow : OpenClaim := { program := "yteidabibgjokkaagreatdoor", sum := "2b5ab104a936830d62f04bd195e25c4ce25e257f8768e99c19076b455b87524f", func := "sortilege/sortilegelaw29.CoinAll", spec := "coinAll", unfollowed := true, recurses := true, named := ["internal/strconv.uint64pow10", "math/bits.deBruijn32tab", "math/bits.deBruijn64tab"], apart := false, laid := [("math/bits.deBruijn32tab", laid_math_bits_deBruijn32tab), ("math/bits.deBruijn64tab", laid_math_bits_deBruijn64tab), ("internal/strconv.uint64pow10", laid_internal_strconv_uint64pow10)] }
def CoinAllSaid : Prop := coinAllRow.holds Tryz.pinned (OpenSpec.ofChange coinAllSpec)

/-- ITS FALSE NEIGHBOUR: 'it returns false'. Refute it at one input. -/
def coinAllWrong : ChangeSpec := { name := "coinAll", fn := fun _ => fun
  | [d1, d2] => { results := [.lit (.bool false)], args := [d1, d2] }
  | _ => none }
def CoinAllWrongFalsely : Prop := coinAllRow.holds Tryz.pinned (OpenSpec.ofChange coinAllWrong)

/-- 'sortilegelaw29.CoinJust': WHATEVER THE INPUT: true; the input reads as it did. -/
def coinJustSpec : ChangeSpec := { name := "coinJust", fn := fun _ => fun
  | [d] => { results := [.lit (.bool true)], args := [d] }
  | _ => none }
def coinJustRow : OpenClaim := { program := "yteidabibgjokkaagreatdoor", sum := "2b5ab104a936830d62f04bd195e25c4ce25e257f8768e99c19076b455b87524f", func := "sortilege/sortilegelaw29.CoinJust", spec := "coinJust", unfollowed := true, recurses := true, named := ["internal/strconv.uint64pow10", "math/bits.deBruijn32tab", "math/bits.deBruijn64tab"], apart := false, laid := [("math/bits.deBruijn32tab", laid_math_bits_deBruijn32tab), ("math/bits.deBruijn64tab", laid_math_bits_deBruijn64tab), ("internal/strconv.uint64pow10", laid_internal_strconv_uint64pow10)] }
def CoinJustSaid : Prop := coinJustRow.holds Tryz.pinned (OpenSpec.ofChange coinJustSpec)

/-- ITS FALSE NEIGHBOUR: 'it returns false'. Refute it at one input. -/
def coinJustWrong : ChangeSpec := { name := "coinJust", fn := fun _ => fun
  | [d] => { results := [.lit (.bool false)], args := [d] }
  | _ => none }
def CoinJustWrongFalsely : Prop := coinJustRow.holds Tryz.pinned (OpenSpec.ofChange coinJustWrong)

/-- 'sortilegelaw29.CoinNoLess': WHATEVER THE INPUT: true; the input reads as it did. -/
def coinNoLessSpec : ChangeSpec := { name := "coinNoLess", fn := fun _ => fun
  | [d] => { results := [.lit (.bool true)], args := [d] }
  | _ => none }
def coinNoLessRow : OpenClaim := { program := "yteidabibgjokkaagreatdoor", sum := "2b5ab104a936830d62f04bd195e25c4ce25e257f8768e99c19076b455b87524f", func := "sortilege/sortilegelaw29.CoinNoLess", spec := "coinNoLess", unfollowed := true, recurses := true, named := ["internal/strconv.uint64pow10", "math/bits.deBruijn32tab", "math/bits.deBruijn64tab"], apart := false, laid := [("math/bits.deBruijn32tab", laid_math_bits_deBruijn32tab), ("math/bits.deBruijn64tab", laid_math_bits_deBruijn64tab), ("internal/strconv.uint64pow10", laid_internal_strconv_uint64pow10)] }
def CoinNoLessSaid : Prop := coinNoLessRow.holds Tryz.pinned (OpenSpec.ofChange coinNoLessSpec)

/-- ITS FALSE NEIGHBOUR: 'it returns false'. Refute it at one input. -/
def coinNoLessWrong : ChangeSpec := { name := "coinNoLess", fn := fun _ => fun
  | [d] => { results := [.lit (.bool false)], args := [d] }
  | _ => none }
def CoinNoLessWrongFalsely : Prop := coinNoLessRow.holds Tryz.pinned (OpenSpec.ofChange coinNoLessWrong)

/- THE SECOND FORM. 'bulk': how many values and letters a reading holds, each counted each time it is reached (what is shared counts as often as it is met; a slice's spare places count too). A statement '..UptoSaid' is the law's where the arguments, and the package variables that the reading takes, are together of bulk at most 1048576: NARROWER than '..Said'. Prove '..Said' where nothing that the law and all that it calls make is longer than what came in: it says more and counts as full. Else prove '..UptoSaid'. A law counts once. -/
mutual
def uptoBulk {H : Type} : DataW H → Nat
  | .lit (.string bytes) => bytes.length + 1
  | .lit _ => 1
  | .nil => 1
  | .ptr d => uptoBulk d + 1
  | .slice elems spare => uptoBulkAll elems + uptoBulkAll spare + 1
  | .agg parts => uptoBulkAll parts + 1
  | .iface _ d => uptoBulk d + 1
  | .map entries => uptoBulkEntries entries + 1
  | .held _ => 1
def uptoBulkAll {H : Type} : List (DataW H) → Nat
  | [] => 0
  | d :: r => uptoBulk d + uptoBulkAll r
def uptoBulkEntries {H : Type} : List (Lit × DataW H) → Nat
  | [] => 0
  | x :: r => uptoBulkEntry x + uptoBulkEntries r
def uptoBulkEntry {H : Type} : Lit × DataW H → Nat
  | (.string bytes, d) => bytes.length + uptoBulk d + 1
  | (_, d) => uptoBulk d + 1
 end
def uptoSmall : (H : Type) → List (DataW H) → Bool := fun _ ds => decide (uptoBulkAll ds ≤ 1048576)
def OpenSpec.upto (s : _root_.Go.ChangeSpec) : _root_.Go.OpenSpec := { _root_.Go.OpenSpec.ofChange s with cond := some uptoSmall }

/-- 'sortilegelaw29.CoinMakes', WHERE WHAT IT READS IS OF BULK AT MOST 1048576: true; the input reads as it did. -/
def coinMakesUptoRow : OpenClaim := { program := "yteidabibgjokkaagreatdoor", sum := "2b5ab104a936830d62f04bd195e25c4ce25e257f8768e99c19076b455b87524f", func := "sortilege/sortilegelaw29.CoinMakes", spec := "coinMakes", unfollowed := true, recurses := true, named := ["internal/strconv.uint64pow10", "math/bits.deBruijn32tab", "math/bits.deBruijn64tab"], apart := false, laid := [("math/bits.deBruijn32tab", laid_math_bits_deBruijn32tab), ("math/bits.deBruijn64tab", laid_math_bits_deBruijn64tab), ("internal/strconv.uint64pow10", laid_internal_strconv_uint64pow10)], narrowed := true }
def CoinMakesUptoSaid : Prop := coinMakesUptoRow.holds Tryz.pinned (OpenSpec.upto coinMakesSpec)

/-- 'sortilegelaw29.CoinSpreads', WHERE WHAT IT READS IS OF BULK AT MOST 1048576: true; the input reads as it did. -/
def coinSpreadsUptoRow : OpenClaim := { program := "yteidabibgjokkaagreatdoor", sum := "2b5ab104a936830d62f04bd195e25c4ce25e257f8768e99c19076b455b87524f", func := "sortilege/sortilegelaw29.CoinSpreads", spec := "coinSpreads", unfollowed := true, recurses := true, named := ["internal/strconv.uint64pow10", "math/bits.deBruijn32tab", "math/bits.deBruijn64tab"], apart := false, laid := [("math/bits.deBruijn32tab", laid_math_bits_deBruijn32tab), ("math/bits.deBruijn64tab", laid_math_bits_deBruijn64tab), ("internal/strconv.uint64pow10", laid_internal_strconv_uint64pow10)], narrowed := true }
def CoinSpreadsUptoSaid : Prop := coinSpreadsUptoRow.holds Tryz.pinned (OpenSpec.upto coinSpreadsSpec)

/-- 'sortilegelaw29.CoinWays', WHERE WHAT IT READS IS OF BULK AT MOST 1048576: true; the input reads as it did. -/
def coinWaysUptoRow : OpenClaim := { program := "yteidabibgjokkaagreatdoor", sum := "2b5ab104a936830d62f04bd195e25c4ce25e257f8768e99c19076b455b87524f", func := "sortilege/sortilegelaw29.CoinWays", spec := "coinWays", unfollowed := true, recurses := true, named := ["internal/strconv.uint64pow10", "math/bits.deBruijn32tab", "math/bits.deBruijn64tab"], apart := false, laid := [("math/bits.deBruijn32tab", laid_math_bits_deBruijn32tab), ("math/bits.deBruijn64tab", laid_math_bits_deBruijn64tab), ("internal/strconv.uint64pow10", laid_internal_strconv_uint64pow10)], narrowed := true }
def CoinWaysUptoSaid : Prop := coinWaysUptoRow.holds Tryz.pinned (OpenSpec.upto coinWaysSpec)

/-- 'sortilegelaw29.CoinRuns', WHERE WHAT IT READS IS OF BULK AT MOST 1048576: true; the input reads as it did. -/
def coinRunsUptoRow : OpenClaim := { program := "yteidabibgjokkaagreatdoor", sum := "2b5ab104a936830d62f04bd195e25c4ce25e257f8768e99c19076b455b87524f", func := "sortilege/sortilegelaw29.CoinRuns", spec := "coinRuns", unfollowed := true, recurses := true, named := ["internal/strconv.uint64pow10", "math/bits.deBruijn32tab", "math/bits.deBruijn64tab"], apart := false, laid := [("math/bits.deBruijn32tab", laid_math_bits_deBruijn32tab), ("math/bits.deBruijn64tab", laid_math_bits_deBruijn64tab), ("internal/strconv.uint64pow10", laid_internal_strconv_uint64pow10)], narrowed := true }
def CoinRunsUptoSaid : Prop := coinRunsUptoRow.holds Tryz.pinned (OpenSpec.upto coinRunsSpec)

/-- 'sortilegelaw29.CoinBehind', WHERE WHAT IT READS IS OF BULK AT MOST 1048576: true; the input reads as it did. -/
def coinBehindUptoRow : OpenClaim := { program := "yteidabibgjokkaagreatdoor", sum := "2b5ab104a936830d62f04bd195e25c4ce25e257f8768e99c19076b455b87524f", func := "sortilege/sortilegelaw29.CoinBehind", spec := "coinBehind", unfollowed := true, recurses := true, named := ["internal/strconv.uint64pow10", "math/bits.deBruijn32tab", "math/bits.deBruijn64tab"], apart := false, laid := [("math/bits.deBruijn32tab", laid_math_bits_deBruijn32tab), ("math/bits.deBruijn64tab", laid_math_bits_deBruijn64tab), ("internal/strconv.uint64pow10", laid_internal_strconv_uint64pow10)], narrowed := true }
def CoinBehindUptoSaid : Prop := coinBehindUptoRow.holds Tryz.pinned (OpenSpec.upto coinBehindSpec)

/-- 'sortilegelaw29.CoinAll', WHERE WHAT IT READS IS OF BULK AT MOST 1048576: true; the input reads as it did. -/
def coinAllUptoRow : OpenClaim := { program := "yteidabibgjokkaagreatdoor", sum := "2b5ab104a936830d62f04bd195e25c4ce25e257f8768e99c19076b455b87524f", func := "sortilege/sortilegelaw29.CoinAll", spec := "coinAll", unfollowed := true, recurses := true, named := ["internal/strconv.uint64pow10", "math/bits.deBruijn32tab", "math/bits.deBruijn64tab"], apart := false, laid := [("math/bits.deBruijn32tab", laid_math_bits_deBruijn32tab), ("math/bits.deBruijn64tab", laid_math_bits_deBruijn64tab), ("internal/strconv.uint64pow10", laid_internal_strconv_uint64pow10)], narrowed := true }
def CoinAllUptoSaid : Prop := coinAllUptoRow.holds Tryz.pinned (OpenSpec.upto coinAllSpec)

/-- 'sortilegelaw29.CoinJust', WHERE WHAT IT READS IS OF BULK AT MOST 1048576: true; the input reads as it did. -/
def coinJustUptoRow : OpenClaim := { program := "yteidabibgjokkaagreatdoor", sum := "2b5ab104a936830d62f04bd195e25c4ce25e257f8768e99c19076b455b87524f", func := "sortilege/sortilegelaw29.CoinJust", spec := "coinJust", unfollowed := true, recurses := true, named := ["internal/strconv.uint64pow10", "math/bits.deBruijn32tab", "math/bits.deBruijn64tab"], apart := false, laid := [("math/bits.deBruijn32tab", laid_math_bits_deBruijn32tab), ("math/bits.deBruijn64tab", laid_math_bits_deBruijn64tab), ("internal/strconv.uint64pow10", laid_internal_strconv_uint64pow10)], narrowed := true }
def CoinJustUptoSaid : Prop := coinJustUptoRow.holds Tryz.pinned (OpenSpec.upto coinJustSpec)

/-- 'sortilegelaw29.CoinNoLess', WHERE WHAT IT READS IS OF BULK AT MOST 1048576: true; the input reads as it did. -/
def coinNoLessUptoRow : OpenClaim := { program := "yteidabibgjokkaagreatdoor", sum := "2b5ab104a936830d62f04bd195e25c4ce25e257f8768e99c19076b455b87524f", func := "sortilege/sortilegelaw29.CoinNoLess", spec := "coinNoLess", unfollowed := true, recurses := true, named := ["internal/strconv.uint64pow10", "math/bits.deBruijn32tab", "math/bits.deBruijn64tab"], apart := false, laid := [("math/bits.deBruijn32tab", laid_math_bits_deBruijn32tab), ("math/bits.deBruijn64tab", laid_math_bits_deBruijn64tab), ("internal/strconv.uint64pow10", laid_internal_strconv_uint64pow10)], narrowed := true }
def CoinNoLessUptoSaid : Prop := coinNoLessUptoRow.holds Tryz.pinned (OpenSpec.upto coinNoLessSpec)

end Rows
end Go.Proofs.YteidabibgjokkaaGreatDoor
