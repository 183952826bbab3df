/-
  DERIVED. GIVEN WITH THE SEED: THE CARDS: each row of YtdbcojhhdjlbiaaDoorRows.lean that lists a variable, with what it lists TIED to the program's text (the seventh form; the later family's looks); each row that meets fmt, with fmt's text TOLD by the authors' own Lean function (tested against real Go, not proved from fmt's source: count such statements apart). THE CARD IS WHAT COUNTS. Prove the row's statement (the work); the ties are given (YtdbcojhhdjlbiaaDoorTie.lean); close each card by the builder's one call (the guide's Derived/Test/ToyasCard.lean, 'card_holds'). Laid BY PROGRAM, IN A SANDBOX (cutbox-door.mjs). By AI agents, Wed Nov 11 2026. No macro, syntax, notation, axiom, sorry.
-/
import Derived.Test.YtdbcojhhdjlbiaaDoorRows
import GoSem.ClaimSeven
namespace Go.Proofs.YtdbcojhhdjlbiaaDoor
namespace Rows

/-- THE TIED CARD OF 'pendulumlaw23.VmCounts'. -/
def vmCountsCard : Claim7 := { stood := { row := vmCountsRow, standIns := [], harness := (true, "8eaf51747ae9df00ca6f24858d688338ea9c173348a04fe32846537619397ec8"), looks := false }, kinds := [], alts := [], laidByText := true, laidKinds := [.data, .data, .data, .sentinel, .sentinel, .sentinel, .sentinel, .sentinel, .sentinel, .sentinel, .sentinel, .sentinel, .sentinel], laidTests := true, laidLooks := .later }
def VmCountsCardSaid : Prop := Claim7.holds Tryd.pinned (.plain (OpenSpec.ofChange vmCountsSpec)) vmCountsCard

/-- THE SECOND FORM's CARD OF 'pendulumlaw23.VmCounts'. -/
def vmCountsUptoCard : Claim7 := { stood := { row := vmCountsUptoRow, standIns := [], harness := (true, "8eaf51747ae9df00ca6f24858d688338ea9c173348a04fe32846537619397ec8"), looks := false }, kinds := [], alts := [], laidByText := true, laidKinds := [.data, .data, .data, .sentinel, .sentinel, .sentinel, .sentinel, .sentinel, .sentinel, .sentinel, .sentinel, .sentinel, .sentinel], laidTests := true, laidLooks := .later }
def VmCountsUptoCardSaid : Prop := Claim7.holds Tryd.pinned (.plain (OpenSpec.upto vmCountsSpec)) vmCountsUptoCard
end Rows
end Go.Proofs.YtdbcojhhdjlbiaaDoor
