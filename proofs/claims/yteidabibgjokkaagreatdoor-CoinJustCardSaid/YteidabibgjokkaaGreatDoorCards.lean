/-
  DERIVED. GIVEN WITH THE SEED: THE CARDS: each row of YteidabibgjokkaaGreatDoorRows.lean that lists a variable, with what it lists TIED to the program's text (the seventh form; the later family's looks); each row that meets fmt, with fmt's text TOLD by the authors' own Lean function (tested against real Go, not proved from fmt's source: count such statements apart). THE CARD IS WHAT COUNTS. Prove the row's statement (the work); the ties are given (YteidabibgjokkaaGreatDoorTie.lean); close each card by the builder's one call (the guide's Derived/Test/ToyasCard.lean, 'card_holds'). Laid BY PROGRAM, IN A SANDBOX (cutbox-door.mjs). By AI agents, Wed Nov 11 2026. No macro, syntax, notation, axiom, sorry.
-/
import Derived.Test.YteidabibgjokkaaGreatDoorRows
import GoSem.ClaimSeven
namespace Go.Proofs.YteidabibgjokkaaGreatDoor
namespace Rows

/-- THE TIED CARD OF 'sortilegelaw29.CoinMakes'. -/
def coinMakesCard : Claim7 := { stood := { row := coinMakesRow, standIns := [], harness := (true, "b363eb4400e47a5ca1dd551400ce0f82c136cacd7102b3e9f42644c7305a601f"), looks := false }, kinds := [], alts := [], laidByText := true, laidKinds := [.data, .data, .data], laidTests := true, laidLooks := .later }
def CoinMakesCardSaid : Prop := Claim7.holds Tryz.pinned (.plain (OpenSpec.ofChange coinMakesSpec)) coinMakesCard

/-- THE TIED CARD OF 'sortilegelaw29.CoinSpreads'. -/
def coinSpreadsCard : Claim7 := { stood := { row := coinSpreadsRow, standIns := [], harness := (true, "b363eb4400e47a5ca1dd551400ce0f82c136cacd7102b3e9f42644c7305a601f"), looks := false }, kinds := [], alts := [], laidByText := true, laidKinds := [.data, .data, .data], laidTests := true, laidLooks := .later }
def CoinSpreadsCardSaid : Prop := Claim7.holds Tryz.pinned (.plain (OpenSpec.ofChange coinSpreadsSpec)) coinSpreadsCard

/-- THE TIED CARD OF 'sortilegelaw29.CoinWays'. -/
def coinWaysCard : Claim7 := { stood := { row := coinWaysRow, standIns := [], harness := (true, "b363eb4400e47a5ca1dd551400ce0f82c136cacd7102b3e9f42644c7305a601f"), looks := false }, kinds := [], alts := [], laidByText := true, laidKinds := [.data, .data, .data], laidTests := true, laidLooks := .later }
def CoinWaysCardSaid : Prop := Claim7.holds Tryz.pinned (.plain (OpenSpec.ofChange coinWaysSpec)) coinWaysCard

/-- THE TIED CARD OF 'sortilegelaw29.CoinRuns'. -/
def coinRunsCard : Claim7 := { stood := { row := coinRunsRow, standIns := [], harness := (true, "b363eb4400e47a5ca1dd551400ce0f82c136cacd7102b3e9f42644c7305a601f"), looks := false }, kinds := [], alts := [], laidByText := true, laidKinds := [.data, .data, .data], laidTests := true, laidLooks := .later }
def CoinRunsCardSaid : Prop := Claim7.holds Tryz.pinned (.plain (OpenSpec.ofChange coinRunsSpec)) coinRunsCard

/-- THE TIED CARD OF 'sortilegelaw29.CoinBehind'. -/
def coinBehindCard : Claim7 := { stood := { row := coinBehindRow, standIns := [], harness := (true, "b363eb4400e47a5ca1dd551400ce0f82c136cacd7102b3e9f42644c7305a601f"), looks := false }, kinds := [], alts := [], laidByText := true, laidKinds := [.data, .data, .data], laidTests := true, laidLooks := .later }
def CoinBehindCardSaid : Prop := Claim7.holds Tryz.pinned (.plain (OpenSpec.ofChange coinBehindSpec)) coinBehindCard

/-- THE TIED CARD OF 'sortilegelaw29.CoinAll'. -/
def coinAllCard : Claim7 := { stood := { row := coinAllRow, standIns := [], harness := (true, "b363eb4400e47a5ca1dd551400ce0f82c136cacd7102b3e9f42644c7305a601f"), looks := false }, kinds := [], alts := [], laidByText := true, laidKinds := [.data, .data, .data], laidTests := true, laidLooks := .later }
def CoinAllCardSaid : Prop := Claim7.holds Tryz.pinned (.plain (OpenSpec.ofChange coinAllSpec)) coinAllCard

/-- THE TIED CARD OF 'sortilegelaw29.CoinJust'. -/
def coinJustCard : Claim7 := { stood := { row := coinJustRow, standIns := [], harness := (true, "b363eb4400e47a5ca1dd551400ce0f82c136cacd7102b3e9f42644c7305a601f"), looks := false }, kinds := [], alts := [], laidByText := true, laidKinds := [.data, .data, .data], laidTests := true, laidLooks := .later }
def CoinJustCardSaid : Prop := Claim7.holds Tryz.pinned (.plain (OpenSpec.ofChange coinJustSpec)) coinJustCard

/-- THE TIED CARD OF 'sortilegelaw29.CoinNoLess'. -/
def coinNoLessCard : Claim7 := { stood := { row := coinNoLessRow, standIns := [], harness := (true, "b363eb4400e47a5ca1dd551400ce0f82c136cacd7102b3e9f42644c7305a601f"), looks := false }, kinds := [], alts := [], laidByText := true, laidKinds := [.data, .data, .data], laidTests := true, laidLooks := .later }
def CoinNoLessCardSaid : Prop := Claim7.holds Tryz.pinned (.plain (OpenSpec.ofChange coinNoLessSpec)) coinNoLessCard

/-- THE SECOND FORM's CARD OF 'sortilegelaw29.CoinMakes'. -/
def coinMakesUptoCard : Claim7 := { stood := { row := coinMakesUptoRow, standIns := [], harness := (true, "b363eb4400e47a5ca1dd551400ce0f82c136cacd7102b3e9f42644c7305a601f"), looks := false }, kinds := [], alts := [], laidByText := true, laidKinds := [.data, .data, .data], laidTests := true, laidLooks := .later }
def CoinMakesUptoCardSaid : Prop := Claim7.holds Tryz.pinned (.plain (OpenSpec.upto coinMakesSpec)) coinMakesUptoCard

/-- THE SECOND FORM's CARD OF 'sortilegelaw29.CoinSpreads'. -/
def coinSpreadsUptoCard : Claim7 := { stood := { row := coinSpreadsUptoRow, standIns := [], harness := (true, "b363eb4400e47a5ca1dd551400ce0f82c136cacd7102b3e9f42644c7305a601f"), looks := false }, kinds := [], alts := [], laidByText := true, laidKinds := [.data, .data, .data], laidTests := true, laidLooks := .later }
def CoinSpreadsUptoCardSaid : Prop := Claim7.holds Tryz.pinned (.plain (OpenSpec.upto coinSpreadsSpec)) coinSpreadsUptoCard

/-- THE SECOND FORM's CARD OF 'sortilegelaw29.CoinWays'. -/
def coinWaysUptoCard : Claim7 := { stood := { row := coinWaysUptoRow, standIns := [], harness := (true, "b363eb4400e47a5ca1dd551400ce0f82c136cacd7102b3e9f42644c7305a601f"), looks := false }, kinds := [], alts := [], laidByText := true, laidKinds := [.data, .data, .data], laidTests := true, laidLooks := .later }
def CoinWaysUptoCardSaid : Prop := Claim7.holds Tryz.pinned (.plain (OpenSpec.upto coinWaysSpec)) coinWaysUptoCard

/-- THE SECOND FORM's CARD OF 'sortilegelaw29.CoinRuns'. -/
def coinRunsUptoCard : Claim7 := { stood := { row := coinRunsUptoRow, standIns := [], harness := (true, "b363eb4400e47a5ca1dd551400ce0f82c136cacd7102b3e9f42644c7305a601f"), looks := false }, kinds := [], alts := [], laidByText := true, laidKinds := [.data, .data, .data], laidTests := true, laidLooks := .later }
def CoinRunsUptoCardSaid : Prop := Claim7.holds Tryz.pinned (.plain (OpenSpec.upto coinRunsSpec)) coinRunsUptoCard

/-- THE SECOND FORM's CARD OF 'sortilegelaw29.CoinBehind'. -/
def coinBehindUptoCard : Claim7 := { stood := { row := coinBehindUptoRow, standIns := [], harness := (true, "b363eb4400e47a5ca1dd551400ce0f82c136cacd7102b3e9f42644c7305a601f"), looks := false }, kinds := [], alts := [], laidByText := true, laidKinds := [.data, .data, .data], laidTests := true, laidLooks := .later }
def CoinBehindUptoCardSaid : Prop := Claim7.holds Tryz.pinned (.plain (OpenSpec.upto coinBehindSpec)) coinBehindUptoCard

/-- THE SECOND FORM's CARD OF 'sortilegelaw29.CoinAll'. -/
def coinAllUptoCard : Claim7 := { stood := { row := coinAllUptoRow, standIns := [], harness := (true, "b363eb4400e47a5ca1dd551400ce0f82c136cacd7102b3e9f42644c7305a601f"), looks := false }, kinds := [], alts := [], laidByText := true, laidKinds := [.data, .data, .data], laidTests := true, laidLooks := .later }
def CoinAllUptoCardSaid : Prop := Claim7.holds Tryz.pinned (.plain (OpenSpec.upto coinAllSpec)) coinAllUptoCard

/-- THE SECOND FORM's CARD OF 'sortilegelaw29.CoinJust'. -/
def coinJustUptoCard : Claim7 := { stood := { row := coinJustUptoRow, standIns := [], harness := (true, "b363eb4400e47a5ca1dd551400ce0f82c136cacd7102b3e9f42644c7305a601f"), looks := false }, kinds := [], alts := [], laidByText := true, laidKinds := [.data, .data, .data], laidTests := true, laidLooks := .later }
def CoinJustUptoCardSaid : Prop := Claim7.holds Tryz.pinned (.plain (OpenSpec.upto coinJustSpec)) coinJustUptoCard

/-- THE SECOND FORM's CARD OF 'sortilegelaw29.CoinNoLess'. -/
def coinNoLessUptoCard : Claim7 := { stood := { row := coinNoLessUptoRow, standIns := [], harness := (true, "b363eb4400e47a5ca1dd551400ce0f82c136cacd7102b3e9f42644c7305a601f"), looks := false }, kinds := [], alts := [], laidByText := true, laidKinds := [.data, .data, .data], laidTests := true, laidLooks := .later }
def CoinNoLessUptoCardSaid : Prop := Claim7.holds Tryz.pinned (.plain (OpenSpec.upto coinNoLessSpec)) coinNoLessUptoCard
end Rows
end Go.Proofs.YteidabibgjokkaaGreatDoor
