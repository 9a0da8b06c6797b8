/-
  DERIVED. GIVEN WITH THE SEED: THE CARDS: each row of YtmbpcjacbnloaaaDoorRows.lean that lists a variable, with what it lists TIED to the program's text (the seventh form; the later family's looks); each row that meets fmt, with fmt's text TOLD by the authors' own Lean function (tested against real Go, not proved from fmt's source: count such statements apart). THE CARD IS WHAT COUNTS. Prove the row's statement (the work); the ties are given (YtmbpcjacbnloaaaDoorTie.lean); close each card by the builder's one call (the guide's Derived/Test/ToyasCard.lean, 'card_holds'). Laid BY PROGRAM, IN A SANDBOX (cutbox-door.mjs). By AI agents, Wed Nov 11 2026. No macro, syntax, notation, axiom, sorry.
-/
import Derived.Test.YtmbpcjacbnloaaaDoorRows
import GoSem.ClaimSeven
namespace Go.Proofs.YtmbpcjacbnloaaaDoor
namespace Rows

/-- THE TIED CARD OF 'laws.FnExactTextSwap'. -/
def fnExactTextSwapCard : Claim7 := { stood := { row := fnExactTextSwapRow, standIns := [], harness := (true, "499c1a6fa11ca8119383c219a2adfe745b432e27eeae4a9613cdd1638905dc75"), looks := false }, kinds := [], alts := [], laidByText := true, laidKinds := [.data, .pinned], laidTests := true, laidLooks := .later }
def FnExactTextSwapCardSaid : Prop := Claim7.holds Tryd.pinned (.plain (OpenSpec.ofChange fnExactTextSwapSpec)) fnExactTextSwapCard

/-- THE TIED CARD OF 'laws.FnTextSplit'. -/
def fnTextSplitCard : Claim7 := { stood := { row := fnTextSplitRow, standIns := [], harness := (true, "499c1a6fa11ca8119383c219a2adfe745b432e27eeae4a9613cdd1638905dc75"), looks := false }, kinds := [], alts := [], laidByText := true, laidKinds := [.data, .pinned], laidTests := true, laidLooks := .later }
def FnTextSplitCardSaid : Prop := Claim7.holds Tryd.pinned (.plain (OpenSpec.ofChange fnTextSplitSpec)) fnTextSplitCard

/-- THE TIED CARD OF 'laws.FnSplitSwap'. -/
def fnSplitSwapCard : Claim7 := { stood := { row := fnSplitSwapRow, standIns := [], harness := (true, "499c1a6fa11ca8119383c219a2adfe745b432e27eeae4a9613cdd1638905dc75"), looks := false }, kinds := [], alts := [], laidByText := true, laidKinds := [.data, .pinned], laidTests := true, laidLooks := .later }
def FnSplitSwapCardSaid : Prop := Claim7.holds Tryd.pinned (.plain (OpenSpec.ofChange fnSplitSwapSpec)) fnSplitSwapCard

/-- THE TIED CARD OF 'laws.FnTextSwap'. -/
def fnTextSwapCard : Claim7 := { stood := { row := fnTextSwapRow, standIns := [], harness := (true, "499c1a6fa11ca8119383c219a2adfe745b432e27eeae4a9613cdd1638905dc75"), looks := false }, kinds := [], alts := [], laidByText := true, laidKinds := [.data, .pinned], laidTests := true, laidLooks := .later }
def FnTextSwapCardSaid : Prop := Claim7.holds Tryd.pinned (.plain (OpenSpec.ofChange fnTextSwapSpec)) fnTextSwapCard

/-- THE SECOND FORM's CARD OF 'laws.FnExactTextSwap'. -/
def fnExactTextSwapUptoCard : Claim7 := { stood := { row := fnExactTextSwapUptoRow, standIns := [], harness := (true, "499c1a6fa11ca8119383c219a2adfe745b432e27eeae4a9613cdd1638905dc75"), looks := false }, kinds := [], alts := [], laidByText := true, laidKinds := [.data, .pinned], laidTests := true, laidLooks := .later }
def FnExactTextSwapUptoCardSaid : Prop := Claim7.holds Tryd.pinned (.plain (OpenSpec.upto fnExactTextSwapSpec)) fnExactTextSwapUptoCard

/-- THE SECOND FORM's CARD OF 'laws.FnTextSplit'. -/
def fnTextSplitUptoCard : Claim7 := { stood := { row := fnTextSplitUptoRow, standIns := [], harness := (true, "499c1a6fa11ca8119383c219a2adfe745b432e27eeae4a9613cdd1638905dc75"), looks := false }, kinds := [], alts := [], laidByText := true, laidKinds := [.data, .pinned], laidTests := true, laidLooks := .later }
def FnTextSplitUptoCardSaid : Prop := Claim7.holds Tryd.pinned (.plain (OpenSpec.upto fnTextSplitSpec)) fnTextSplitUptoCard

/-- THE SECOND FORM's CARD OF 'laws.FnSplitSwap'. -/
def fnSplitSwapUptoCard : Claim7 := { stood := { row := fnSplitSwapUptoRow, standIns := [], harness := (true, "499c1a6fa11ca8119383c219a2adfe745b432e27eeae4a9613cdd1638905dc75"), looks := false }, kinds := [], alts := [], laidByText := true, laidKinds := [.data, .pinned], laidTests := true, laidLooks := .later }
def FnSplitSwapUptoCardSaid : Prop := Claim7.holds Tryd.pinned (.plain (OpenSpec.upto fnSplitSwapSpec)) fnSplitSwapUptoCard

/-- THE SECOND FORM's CARD OF 'laws.FnTextSwap'. -/
def fnTextSwapUptoCard : Claim7 := { stood := { row := fnTextSwapUptoRow, standIns := [], harness := (true, "499c1a6fa11ca8119383c219a2adfe745b432e27eeae4a9613cdd1638905dc75"), looks := false }, kinds := [], alts := [], laidByText := true, laidKinds := [.data, .pinned], laidTests := true, laidLooks := .later }
def FnTextSwapUptoCardSaid : Prop := Claim7.holds Tryd.pinned (.plain (OpenSpec.upto fnTextSwapSpec)) fnTextSwapUptoCard
end Rows
end Go.Proofs.YtmbpcjacbnloaaaDoor
