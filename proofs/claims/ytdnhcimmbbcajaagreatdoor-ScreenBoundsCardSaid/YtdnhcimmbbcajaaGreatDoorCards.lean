/-
  DERIVED. GIVEN WITH THE SEED: THE CARDS: each row of YtdnhcimmbbcajaaGreatDoorRows.lean that lists a variable, with what it lists TIED to the program's text (the seventh form; the later family's looks); each row that meets fmt, with fmt's text TOLD by the authors' own Lean function (tested against real Go, not proved from fmt's source: count such statements apart). THE CARD IS WHAT COUNTS. Prove the row's statement (the work); the ties are given (YtdnhcimmbbcajaaGreatDoorTie.lean); close each card by the builder's one call (the guide's Derived/Test/ToyasCard.lean, 'card_holds'). Laid BY PROGRAM, IN A SANDBOX (cutbox-door.mjs). By AI agents, Wed Nov 11 2026. No macro, syntax, notation, axiom, sorry.
-/
import Derived.Test.YtdnhcimmbbcajaaGreatDoorRows
import GoSem.ClaimSeven
namespace Go.Proofs.YtdnhcimmbbcajaaGreatDoor
namespace Rows

/-- THE TIED CARD OF 'phosphorlaw17.ScreenSaves'. -/
def screenSavesCard : Claim7 := { stood := { row := screenSavesRow, standIns := [], harness := (true, "045ea0e73072d982c52a801f57a92fe785584d3970daaef186ecfe44ca6d540c"), looks := false }, kinds := [], alts := [], laidByText := true, laidKinds := [.data, .data, .data, .data, .pinned], laidTests := true, laidLooks := .later }
def ScreenSavesCardSaid : Prop := Claim7.holds Tryz.pinned (.plain (OpenSpec.ofChange screenSavesSpec)) screenSavesCard

/-- THE TIED CARD OF 'phosphorlaw17.ScreenBounds'. -/
def screenBoundsCard : Claim7 := { stood := { row := screenBoundsRow, standIns := [], harness := (true, "045ea0e73072d982c52a801f57a92fe785584d3970daaef186ecfe44ca6d540c"), looks := false }, kinds := [], alts := [], laidByText := true, laidKinds := [.data, .data, .data, .data, .pinned], laidTests := true, laidLooks := .later }
def ScreenBoundsCardSaid : Prop := Claim7.holds Tryz.pinned (.plain (OpenSpec.ofChange screenBoundsSpec)) screenBoundsCard

/-- THE SECOND FORM's CARD OF 'phosphorlaw17.ScreenSaves'. -/
def screenSavesUptoCard : Claim7 := { stood := { row := screenSavesUptoRow, standIns := [], harness := (true, "045ea0e73072d982c52a801f57a92fe785584d3970daaef186ecfe44ca6d540c"), looks := false }, kinds := [], alts := [], laidByText := true, laidKinds := [.data, .data, .data, .data, .pinned], laidTests := true, laidLooks := .later }
def ScreenSavesUptoCardSaid : Prop := Claim7.holds Tryz.pinned (.plain (OpenSpec.upto screenSavesSpec)) screenSavesUptoCard

/-- THE SECOND FORM's CARD OF 'phosphorlaw17.ScreenBounds'. -/
def screenBoundsUptoCard : Claim7 := { stood := { row := screenBoundsUptoRow, standIns := [], harness := (true, "045ea0e73072d982c52a801f57a92fe785584d3970daaef186ecfe44ca6d540c"), looks := false }, kinds := [], alts := [], laidByText := true, laidKinds := [.data, .data, .data, .data, .pinned], laidTests := true, laidLooks := .later }
def ScreenBoundsUptoCardSaid : Prop := Claim7.holds Tryz.pinned (.plain (OpenSpec.upto screenBoundsSpec)) screenBoundsUptoCard
end Rows
end Go.Proofs.YtdnhcimmbbcajaaGreatDoor
