/-
  DERIVED. GIVEN WITH THE SEED: THE CARDS: each row of YteefbiehcfmoeaaGreatDoorRows.lean that lists a variable, with what it lists TIED to the program's text (the seventh form; the later family's looks); each row that meets fmt, with fmt's text TOLD by the authors' own Lean function (tested against real Go, not proved from fmt's source: count such statements apart). THE CARD IS WHAT COUNTS. Prove the row's statement (the work); the ties are given (YteefbiehcfmoeaaGreatDoorTie.lean); close each card by the builder's one call (the guide's Derived/Test/ToyasCard.lean, 'card_holds'). Laid BY PROGRAM, IN A SANDBOX (cutbox-door.mjs). By AI agents, Wed Nov 11 2026. No macro, syntax, notation, axiom, sorry.
-/
import Derived.Test.YteefbiehcfmoeaaGreatDoorRows
import GoSem.ClaimSeven
namespace Go.Proofs.YteefbiehcfmoeaaGreatDoor
namespace Rows

/-- THE TIED CARD OF 'kelirlaw10.DalangNil'. -/
def dalangNilCard : Claim7 := { stood := { row := dalangNilRow, standIns := [], harness := (true, "4bf2ca954bdccf1a6fe9f8a01242d163ad742ccac6dfefa1658c0d68424d412b"), looks := true }, kinds := [], alts := [], laidByText := true, laidKinds := [.data, .data, .data, .data, .pinned], laidTests := true, laidLooks := .later }
def DalangNilCardSaid : Prop := Claim7.holds Tryz.pinned (.plain (OpenSpec.ofChange dalangNilSpec)) dalangNilCard

/-- THE TIED CARD OF 'kelirlaw10.DalangLines'. -/
def dalangLinesCard : Claim7 := { stood := { row := dalangLinesRow, standIns := [], harness := (true, "4bf2ca954bdccf1a6fe9f8a01242d163ad742ccac6dfefa1658c0d68424d412b"), looks := true }, kinds := [], alts := [], laidByText := true, laidKinds := [.data, .data, .data, .data, .pinned], laidTests := true, laidLooks := .later }
def DalangLinesCardSaid : Prop := Claim7.holds Tryz.pinned (.plain (OpenSpec.ofChange dalangLinesSpec)) dalangLinesCard

/-- THE TIED CARD OF 'kelirlaw10.DalangParses'. -/
def dalangParsesCard : Claim7 := { stood := { row := dalangParsesRow, standIns := [], harness := (true, "4bf2ca954bdccf1a6fe9f8a01242d163ad742ccac6dfefa1658c0d68424d412b"), looks := true }, kinds := [], alts := [], laidByText := true, laidKinds := [.data, .data, .data, .data, .pinned], laidTests := true, laidLooks := .later }
def DalangParsesCardSaid : Prop := Claim7.holds Tryz.pinned (.plain (OpenSpec.ofChange dalangParsesSpec)) dalangParsesCard

/-- THE SECOND FORM's CARD OF 'kelirlaw10.DalangNil'. -/
def dalangNilUptoCard : Claim7 := { stood := { row := dalangNilUptoRow, standIns := [], harness := (true, "4bf2ca954bdccf1a6fe9f8a01242d163ad742ccac6dfefa1658c0d68424d412b"), looks := true }, kinds := [], alts := [], laidByText := true, laidKinds := [.data, .data, .data, .data, .pinned], laidTests := true, laidLooks := .later }
def DalangNilUptoCardSaid : Prop := Claim7.holds Tryz.pinned (.plain (OpenSpec.upto dalangNilSpec)) dalangNilUptoCard

/-- THE SECOND FORM's CARD OF 'kelirlaw10.DalangLines'. -/
def dalangLinesUptoCard : Claim7 := { stood := { row := dalangLinesUptoRow, standIns := [], harness := (true, "4bf2ca954bdccf1a6fe9f8a01242d163ad742ccac6dfefa1658c0d68424d412b"), looks := true }, kinds := [], alts := [], laidByText := true, laidKinds := [.data, .data, .data, .data, .pinned], laidTests := true, laidLooks := .later }
def DalangLinesUptoCardSaid : Prop := Claim7.holds Tryz.pinned (.plain (OpenSpec.upto dalangLinesSpec)) dalangLinesUptoCard

/-- THE SECOND FORM's CARD OF 'kelirlaw10.DalangParses'. -/
def dalangParsesUptoCard : Claim7 := { stood := { row := dalangParsesUptoRow, standIns := [], harness := (true, "4bf2ca954bdccf1a6fe9f8a01242d163ad742ccac6dfefa1658c0d68424d412b"), looks := true }, kinds := [], alts := [], laidByText := true, laidKinds := [.data, .data, .data, .data, .pinned], laidTests := true, laidLooks := .later }
def DalangParsesUptoCardSaid : Prop := Claim7.holds Tryz.pinned (.plain (OpenSpec.upto dalangParsesSpec)) dalangParsesUptoCard
end Rows
end Go.Proofs.YteefbiehcfmoeaaGreatDoor
