/-
  DERIVED. GIVEN WITH THE SEED: THE CARDS: each row of YtiiokhoonailaaaDoorRows.lean that lists a variable, with what it lists TIED to the program's text (the seventh form; the later family's looks); each row that meets fmt, with fmt's text TOLD by the authors' own Lean function (tested against real Go, not proved from fmt's source: count such statements apart). THE CARD IS WHAT COUNTS. Prove the row's statement (the work); the ties are given (YtiiokhoonailaaaDoorTie.lean); close each card by the builder's one call (the guide's Derived/Test/ToyasCard.lean, 'card_holds'). Laid BY PROGRAM, IN A SANDBOX (cutbox-door.mjs). By AI agents, Wed Nov 11 2026. No macro, syntax, notation, axiom, sorry.
-/
import Derived.Test.YtiiokhoonailaaaDoorRows
import GoSem.ClaimSeven
namespace Go.Proofs.YtiiokhoonailaaaDoor
namespace Rows

/-- THE TIED CARD OF 'brokerlaw42.PlaceLoads'. -/
def placeLoadsCard : Claim7 := { stood := { row := placeLoadsRow, standIns := [], harness := (true, "d80f2e1ecf213e2cc8902743d7674a54fa9d19591dcdf1d1233a358ec82d807f"), looks := false }, kinds := [], alts := [], laidByText := true, laidKinds := [.data, .data, .data], laidTests := true, laidLooks := .later }
def PlaceLoadsCardSaid : Prop := Claim7.holds Tryd.pinned (.plain (OpenSpec.ofChange placeLoadsSpec)) placeLoadsCard

/-- THE TIED CARD OF 'brokerlaw42.PlaceLittle'. -/
def placeLittleCard : Claim7 := { stood := { row := placeLittleRow, standIns := [], harness := (true, "d80f2e1ecf213e2cc8902743d7674a54fa9d19591dcdf1d1233a358ec82d807f"), looks := false }, kinds := [], alts := [], laidByText := true, laidKinds := [.data, .data, .data], laidTests := true, laidLooks := .later }
def PlaceLittleCardSaid : Prop := Claim7.holds Tryd.pinned (.plain (OpenSpec.ofChange placeLittleSpec)) placeLittleCard

/-- THE TIED CARD OF 'brokerlaw42.PlaceRanks'. -/
def placeRanksCard : Claim7 := { stood := { row := placeRanksRow, standIns := [], harness := (true, "d80f2e1ecf213e2cc8902743d7674a54fa9d19591dcdf1d1233a358ec82d807f"), looks := false }, kinds := [], alts := [], laidByText := true, laidKinds := [.data, .data, .data], laidTests := true, laidLooks := .later }
def PlaceRanksCardSaid : Prop := Claim7.holds Tryd.pinned (.plain (OpenSpec.ofChange placeRanksSpec)) placeRanksCard

/-- THE TIED CARD OF 'brokerlaw42.PlaceMoves'. -/
def placeMovesCard : Claim7 := { stood := { row := placeMovesRow, standIns := [], harness := (true, "d80f2e1ecf213e2cc8902743d7674a54fa9d19591dcdf1d1233a358ec82d807f"), looks := false }, kinds := [], alts := [], laidByText := true, laidKinds := [.data, .data, .data], laidTests := true, laidLooks := .later }
def PlaceMovesCardSaid : Prop := Claim7.holds Tryd.pinned (.plain (OpenSpec.ofChange placeMovesSpec)) placeMovesCard

/-- THE SECOND FORM's CARD OF 'brokerlaw42.PlaceLoads'. -/
def placeLoadsUptoCard : Claim7 := { stood := { row := placeLoadsUptoRow, standIns := [], harness := (true, "d80f2e1ecf213e2cc8902743d7674a54fa9d19591dcdf1d1233a358ec82d807f"), looks := false }, kinds := [], alts := [], laidByText := true, laidKinds := [.data, .data, .data], laidTests := true, laidLooks := .later }
def PlaceLoadsUptoCardSaid : Prop := Claim7.holds Tryd.pinned (.plain (OpenSpec.upto placeLoadsSpec)) placeLoadsUptoCard

/-- THE SECOND FORM's CARD OF 'brokerlaw42.PlaceLittle'. -/
def placeLittleUptoCard : Claim7 := { stood := { row := placeLittleUptoRow, standIns := [], harness := (true, "d80f2e1ecf213e2cc8902743d7674a54fa9d19591dcdf1d1233a358ec82d807f"), looks := false }, kinds := [], alts := [], laidByText := true, laidKinds := [.data, .data, .data], laidTests := true, laidLooks := .later }
def PlaceLittleUptoCardSaid : Prop := Claim7.holds Tryd.pinned (.plain (OpenSpec.upto placeLittleSpec)) placeLittleUptoCard

/-- THE SECOND FORM's CARD OF 'brokerlaw42.PlaceRanks'. -/
def placeRanksUptoCard : Claim7 := { stood := { row := placeRanksUptoRow, standIns := [], harness := (true, "d80f2e1ecf213e2cc8902743d7674a54fa9d19591dcdf1d1233a358ec82d807f"), looks := false }, kinds := [], alts := [], laidByText := true, laidKinds := [.data, .data, .data], laidTests := true, laidLooks := .later }
def PlaceRanksUptoCardSaid : Prop := Claim7.holds Tryd.pinned (.plain (OpenSpec.upto placeRanksSpec)) placeRanksUptoCard

/-- THE SECOND FORM's CARD OF 'brokerlaw42.PlaceMoves'. -/
def placeMovesUptoCard : Claim7 := { stood := { row := placeMovesUptoRow, standIns := [], harness := (true, "d80f2e1ecf213e2cc8902743d7674a54fa9d19591dcdf1d1233a358ec82d807f"), looks := false }, kinds := [], alts := [], laidByText := true, laidKinds := [.data, .data, .data], laidTests := true, laidLooks := .later }
def PlaceMovesUptoCardSaid : Prop := Claim7.holds Tryd.pinned (.plain (OpenSpec.upto placeMovesSpec)) placeMovesUptoCard
end Rows
end Go.Proofs.YtiiokhoonailaaaDoor
