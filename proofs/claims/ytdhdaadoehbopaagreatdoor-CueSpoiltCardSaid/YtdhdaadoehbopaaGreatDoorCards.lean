/-
  DERIVED. GIVEN WITH THE SEED: THE CARDS: each row of YtdhdaadoehbopaaGreatDoorRows.lean that lists a variable, with what it lists TIED to the program's text (the seventh form; the later family's looks); each row that meets fmt, with fmt's text TOLD by the authors' own Lean function (tested against real Go, not proved from fmt's source: count such statements apart). THE CARD IS WHAT COUNTS. Prove the row's statement (the work); the ties are given (YtdhdaadoehbopaaGreatDoorTie.lean); close each card by the builder's one call (the guide's Derived/Test/ToyasCard.lean, 'card_holds'). Laid BY PROGRAM, IN A SANDBOX (cutbox-door.mjs). By AI agents, Wed Nov 11 2026. No macro, syntax, notation, axiom, sorry.
-/
import Derived.Test.YtdhdaadoehbopaaGreatDoorRows
import GoSem.ClaimSeven
namespace Go.Proofs.YtdhdaadoehbopaaGreatDoor
namespace Rows

/-- THE TIED CARD OF 'kelirlaw04.CueOnly'. -/
def cueOnlyCard : Claim7 := { stood := { row := cueOnlyRow, standIns := [], harness := (true, "d200c2f9484011b2fecf6d987098eee6f4d6857560912b686a09e1298a9b974d"), looks := true }, kinds := [], alts := [], laidByText := true, laidKinds := [.data, .data, .data, .data, .pinned], laidTests := true, laidLooks := .later }
def CueOnlyCardSaid : Prop := Claim7.holds Tryz.pinned (.plain (OpenSpec.ofChange cueOnlySpec)) cueOnlyCard

/-- THE TIED CARD OF 'kelirlaw04.CueRemains'. -/
def cueRemainsCard : Claim7 := { stood := { row := cueRemainsRow, standIns := [], harness := (true, "d200c2f9484011b2fecf6d987098eee6f4d6857560912b686a09e1298a9b974d"), looks := true }, kinds := [], alts := [], laidByText := true, laidKinds := [.data, .data, .data, .data, .pinned], laidTests := true, laidLooks := .later }
def CueRemainsCardSaid : Prop := Claim7.holds Tryz.pinned (.plain (OpenSpec.ofChange cueRemainsSpec)) cueRemainsCard

/-- THE TIED CARD OF 'kelirlaw04.CueTrue'. -/
def cueTrueCard : Claim7 := { stood := { row := cueTrueRow, standIns := [], harness := (true, "d200c2f9484011b2fecf6d987098eee6f4d6857560912b686a09e1298a9b974d"), looks := true }, kinds := [], alts := [], laidByText := true, laidKinds := [.data, .data, .data, .data, .pinned], laidTests := true, laidLooks := .later }
def CueTrueCardSaid : Prop := Claim7.holds Tryz.pinned (.plain (OpenSpec.ofChange cueTrueSpec)) cueTrueCard

/-- THE TIED CARD OF 'kelirlaw04.CueCounts'. -/
def cueCountsCard : Claim7 := { stood := { row := cueCountsRow, standIns := [], harness := (true, "d200c2f9484011b2fecf6d987098eee6f4d6857560912b686a09e1298a9b974d"), looks := true }, kinds := [], alts := [], laidByText := true, laidKinds := [.data, .data, .data, .data, .pinned], laidTests := true, laidLooks := .later }
def CueCountsCardSaid : Prop := Claim7.holds Tryz.pinned (.plain (OpenSpec.ofChange cueCountsSpec)) cueCountsCard

/-- THE TIED CARD OF 'kelirlaw04.CueAdds'. -/
def cueAddsCard : Claim7 := { stood := { row := cueAddsRow, standIns := [], harness := (true, "d200c2f9484011b2fecf6d987098eee6f4d6857560912b686a09e1298a9b974d"), looks := true }, kinds := [], alts := [], laidByText := true, laidKinds := [.data, .data, .data, .data, .pinned], laidTests := true, laidLooks := .later }
def CueAddsCardSaid : Prop := Claim7.holds Tryz.pinned (.plain (OpenSpec.ofChange cueAddsSpec)) cueAddsCard

/-- THE TIED CARD OF 'kelirlaw04.CueTells'. -/
def cueTellsCard : Claim7 := { stood := { row := cueTellsRow, standIns := [], harness := (true, "d200c2f9484011b2fecf6d987098eee6f4d6857560912b686a09e1298a9b974d"), looks := true }, kinds := [], alts := [], laidByText := true, laidKinds := [.data, .data, .data, .data, .pinned], laidTests := true, laidLooks := .later }
def CueTellsCardSaid : Prop := Claim7.holds Tryz.pinned (.plain (OpenSpec.ofChange cueTellsSpec)) cueTellsCard

/-- THE TIED CARD OF 'kelirlaw04.CueApart'. -/
def cueApartCard : Claim7 := { stood := { row := cueApartRow, standIns := [], harness := (true, "d200c2f9484011b2fecf6d987098eee6f4d6857560912b686a09e1298a9b974d"), looks := true }, kinds := [], alts := [], laidByText := true, laidKinds := [.data, .data, .data, .data, .pinned], laidTests := true, laidLooks := .later }
def CueApartCardSaid : Prop := Claim7.holds Tryz.pinned (.plain (OpenSpec.ofChange cueApartSpec)) cueApartCard

/-- THE TIED CARD OF 'kelirlaw04.CueSettles'. -/
def cueSettlesCard : Claim7 := { stood := { row := cueSettlesRow, standIns := [], harness := (true, "d200c2f9484011b2fecf6d987098eee6f4d6857560912b686a09e1298a9b974d"), looks := true }, kinds := [], alts := [], laidByText := true, laidKinds := [.data, .data, .data, .data, .pinned], laidTests := true, laidLooks := .later }
def CueSettlesCardSaid : Prop := Claim7.holds Tryz.pinned (.plain (OpenSpec.ofChange cueSettlesSpec)) cueSettlesCard

/-- THE TIED CARD OF 'kelirlaw04.CueSettled'. -/
def cueSettledCard : Claim7 := { stood := { row := cueSettledRow, standIns := [], harness := (true, "d200c2f9484011b2fecf6d987098eee6f4d6857560912b686a09e1298a9b974d"), looks := true }, kinds := [], alts := [], laidByText := true, laidKinds := [.data, .data, .data, .data, .pinned], laidTests := true, laidLooks := .later }
def CueSettledCardSaid : Prop := Claim7.holds Tryz.pinned (.plain (OpenSpec.ofChange cueSettledSpec)) cueSettledCard

/-- THE TIED CARD OF 'kelirlaw04.CueAsks'. -/
def cueAsksCard : Claim7 := { stood := { row := cueAsksRow, standIns := [], harness := (true, "d200c2f9484011b2fecf6d987098eee6f4d6857560912b686a09e1298a9b974d"), looks := true }, kinds := [], alts := [], laidByText := true, laidKinds := [.data, .data, .data, .data, .pinned], laidTests := true, laidLooks := .later }
def CueAsksCardSaid : Prop := Claim7.holds Tryz.pinned (.plain (OpenSpec.ofChange cueAsksSpec)) cueAsksCard

/-- THE TIED CARD OF 'kelirlaw04.CueGame'. -/
def cueGameCard : Claim7 := { stood := { row := cueGameRow, standIns := [], harness := (true, "d200c2f9484011b2fecf6d987098eee6f4d6857560912b686a09e1298a9b974d"), looks := true }, kinds := [], alts := [], laidByText := true, laidKinds := [.data, .data, .data, .data, .pinned], laidTests := true, laidLooks := .later }
def CueGameCardSaid : Prop := Claim7.holds Tryz.pinned (.plain (OpenSpec.ofChange cueGameSpec)) cueGameCard

/-- THE TIED CARD OF 'kelirlaw04.CueJoins'. -/
def cueJoinsCard : Claim7 := { stood := { row := cueJoinsRow, standIns := [], harness := (true, "d200c2f9484011b2fecf6d987098eee6f4d6857560912b686a09e1298a9b974d"), looks := true }, kinds := [], alts := [], laidByText := true, laidKinds := [.data, .data, .data, .data, .pinned], laidTests := true, laidLooks := .later }
def CueJoinsCardSaid : Prop := Claim7.holds Tryz.pinned (.plain (OpenSpec.ofChange cueJoinsSpec)) cueJoinsCard

/-- THE TIED CARD OF 'kelirlaw04.CueJoined'. -/
def cueJoinedCard : Claim7 := { stood := { row := cueJoinedRow, standIns := [], harness := (true, "d200c2f9484011b2fecf6d987098eee6f4d6857560912b686a09e1298a9b974d"), looks := true }, kinds := [], alts := [], laidByText := true, laidKinds := [.data, .data, .data, .data, .pinned], laidTests := true, laidLooks := .later }
def CueJoinedCardSaid : Prop := Claim7.holds Tryz.pinned (.plain (OpenSpec.ofChange cueJoinedSpec)) cueJoinedCard

/-- THE TIED CARD OF 'kelirlaw04.CueReduces'. -/
def cueReducesCard : Claim7 := { stood := { row := cueReducesRow, standIns := [], harness := (true, "d200c2f9484011b2fecf6d987098eee6f4d6857560912b686a09e1298a9b974d"), looks := true }, kinds := [], alts := [], laidByText := true, laidKinds := [.data, .data, .data, .data, .pinned], laidTests := true, laidLooks := .later }
def CueReducesCardSaid : Prop := Claim7.holds Tryz.pinned (.plain (OpenSpec.ofChange cueReducesSpec)) cueReducesCard

/-- THE TIED CARD OF 'kelirlaw04.CueLeast'. -/
def cueLeastCard : Claim7 := { stood := { row := cueLeastRow, standIns := [], harness := (true, "d200c2f9484011b2fecf6d987098eee6f4d6857560912b686a09e1298a9b974d"), looks := true }, kinds := [], alts := [], laidByText := true, laidKinds := [.data, .data, .data, .data, .pinned], laidTests := true, laidLooks := .later }
def CueLeastCardSaid : Prop := Claim7.holds Tryz.pinned (.plain (OpenSpec.ofChange cueLeastSpec)) cueLeastCard

/-- THE TIED CARD OF 'kelirlaw04.CueMishears'. -/
def cueMishearsCard : Claim7 := { stood := { row := cueMishearsRow, standIns := [], harness := (true, "d200c2f9484011b2fecf6d987098eee6f4d6857560912b686a09e1298a9b974d"), looks := true }, kinds := [], alts := [], laidByText := true, laidKinds := [.data, .data, .data, .data, .pinned], laidTests := true, laidLooks := .later }
def CueMishearsCardSaid : Prop := Claim7.holds Tryz.pinned (.plain (OpenSpec.ofChange cueMishearsSpec)) cueMishearsCard

/-- THE TIED CARD OF 'kelirlaw04.CueHeard'. -/
def cueHeardCard : Claim7 := { stood := { row := cueHeardRow, standIns := [], harness := (true, "d200c2f9484011b2fecf6d987098eee6f4d6857560912b686a09e1298a9b974d"), looks := true }, kinds := [], alts := [], laidByText := true, laidKinds := [.data, .data, .data, .data, .pinned], laidTests := true, laidLooks := .later }
def CueHeardCardSaid : Prop := Claim7.holds Tryz.pinned (.plain (OpenSpec.ofChange cueHeardSpec)) cueHeardCard

/-- THE TIED CARD OF 'kelirlaw04.CueNevers'. -/
def cueNeversCard : Claim7 := { stood := { row := cueNeversRow, standIns := [], harness := (true, "d200c2f9484011b2fecf6d987098eee6f4d6857560912b686a09e1298a9b974d"), looks := true }, kinds := [], alts := [], laidByText := true, laidKinds := [.data, .data, .data, .data, .pinned], laidTests := true, laidLooks := .later }
def CueNeversCardSaid : Prop := Claim7.holds Tryz.pinned (.plain (OpenSpec.ofChange cueNeversSpec)) cueNeversCard

/-- THE TIED CARD OF 'kelirlaw04.CueFenced'. -/
def cueFencedCard : Claim7 := { stood := { row := cueFencedRow, standIns := [], harness := (true, "d200c2f9484011b2fecf6d987098eee6f4d6857560912b686a09e1298a9b974d"), looks := true }, kinds := [], alts := [], laidByText := true, laidKinds := [.data, .data, .data, .data, .pinned], laidTests := true, laidLooks := .later }
def CueFencedCardSaid : Prop := Claim7.holds Tryz.pinned (.plain (OpenSpec.ofChange cueFencedSpec)) cueFencedCard

/-- THE TIED CARD OF 'kelirlaw04.CueMore'. -/
def cueMoreCard : Claim7 := { stood := { row := cueMoreRow, standIns := [], harness := (true, "d200c2f9484011b2fecf6d987098eee6f4d6857560912b686a09e1298a9b974d"), looks := true }, kinds := [], alts := [], laidByText := true, laidKinds := [.data, .data, .data, .data, .pinned], laidTests := true, laidLooks := .later }
def CueMoreCardSaid : Prop := Claim7.holds Tryz.pinned (.plain (OpenSpec.ofChange cueMoreSpec)) cueMoreCard

/-- THE TIED CARD OF 'kelirlaw04.CuePlays'. -/
def cuePlaysCard : Claim7 := { stood := { row := cuePlaysRow, standIns := [], harness := (true, "d200c2f9484011b2fecf6d987098eee6f4d6857560912b686a09e1298a9b974d"), looks := true }, kinds := [], alts := [], laidByText := true, laidKinds := [.data, .data, .data, .data, .pinned], laidTests := true, laidLooks := .later }
def CuePlaysCardSaid : Prop := Claim7.holds Tryz.pinned (.plain (OpenSpec.ofChange cuePlaysSpec)) cuePlaysCard

/-- THE TIED CARD OF 'kelirlaw04.CuePrints'. -/
def cuePrintsCard : Claim7 := { stood := { row := cuePrintsRow, standIns := [], harness := (true, "d200c2f9484011b2fecf6d987098eee6f4d6857560912b686a09e1298a9b974d"), looks := true }, kinds := [], alts := [], laidByText := true, laidKinds := [.data, .data, .data, .data, .pinned], laidTests := true, laidLooks := .later }
def CuePrintsCardSaid : Prop := Claim7.holds Tryz.pinned (.plain (OpenSpec.ofChange cuePrintsSpec)) cuePrintsCard

/-- THE TIED CARD OF 'kelirlaw04.CueReads'. -/
def cueReadsCard : Claim7 := { stood := { row := cueReadsRow, standIns := [], harness := (true, "d200c2f9484011b2fecf6d987098eee6f4d6857560912b686a09e1298a9b974d"), looks := true }, kinds := [], alts := [], laidByText := true, laidKinds := [.data, .data, .data, .data, .pinned], laidTests := true, laidLooks := .later }
def CueReadsCardSaid : Prop := Claim7.holds Tryz.pinned (.plain (OpenSpec.ofChange cueReadsSpec)) cueReadsCard

/-- THE TIED CARD OF 'kelirlaw04.CueSpoilt'. -/
def cueSpoiltCard : Claim7 := { stood := { row := cueSpoiltRow, standIns := [], harness := (true, "d200c2f9484011b2fecf6d987098eee6f4d6857560912b686a09e1298a9b974d"), looks := true }, kinds := [], alts := [], laidByText := true, laidKinds := [.data, .data, .data, .data, .pinned], laidTests := true, laidLooks := .later }
def CueSpoiltCardSaid : Prop := Claim7.holds Tryz.pinned (.plain (OpenSpec.ofChange cueSpoiltSpec)) cueSpoiltCard

/-- THE SECOND FORM's CARD OF 'kelirlaw04.CueOnly'. -/
def cueOnlyUptoCard : Claim7 := { stood := { row := cueOnlyUptoRow, standIns := [], harness := (true, "d200c2f9484011b2fecf6d987098eee6f4d6857560912b686a09e1298a9b974d"), looks := true }, kinds := [], alts := [], laidByText := true, laidKinds := [.data, .data, .data, .data, .pinned], laidTests := true, laidLooks := .later }
def CueOnlyUptoCardSaid : Prop := Claim7.holds Tryz.pinned (.plain (OpenSpec.upto cueOnlySpec)) cueOnlyUptoCard

/-- THE SECOND FORM's CARD OF 'kelirlaw04.CueRemains'. -/
def cueRemainsUptoCard : Claim7 := { stood := { row := cueRemainsUptoRow, standIns := [], harness := (true, "d200c2f9484011b2fecf6d987098eee6f4d6857560912b686a09e1298a9b974d"), looks := true }, kinds := [], alts := [], laidByText := true, laidKinds := [.data, .data, .data, .data, .pinned], laidTests := true, laidLooks := .later }
def CueRemainsUptoCardSaid : Prop := Claim7.holds Tryz.pinned (.plain (OpenSpec.upto cueRemainsSpec)) cueRemainsUptoCard

/-- THE SECOND FORM's CARD OF 'kelirlaw04.CueTrue'. -/
def cueTrueUptoCard : Claim7 := { stood := { row := cueTrueUptoRow, standIns := [], harness := (true, "d200c2f9484011b2fecf6d987098eee6f4d6857560912b686a09e1298a9b974d"), looks := true }, kinds := [], alts := [], laidByText := true, laidKinds := [.data, .data, .data, .data, .pinned], laidTests := true, laidLooks := .later }
def CueTrueUptoCardSaid : Prop := Claim7.holds Tryz.pinned (.plain (OpenSpec.upto cueTrueSpec)) cueTrueUptoCard

/-- THE SECOND FORM's CARD OF 'kelirlaw04.CueCounts'. -/
def cueCountsUptoCard : Claim7 := { stood := { row := cueCountsUptoRow, standIns := [], harness := (true, "d200c2f9484011b2fecf6d987098eee6f4d6857560912b686a09e1298a9b974d"), looks := true }, kinds := [], alts := [], laidByText := true, laidKinds := [.data, .data, .data, .data, .pinned], laidTests := true, laidLooks := .later }
def CueCountsUptoCardSaid : Prop := Claim7.holds Tryz.pinned (.plain (OpenSpec.upto cueCountsSpec)) cueCountsUptoCard

/-- THE SECOND FORM's CARD OF 'kelirlaw04.CueAdds'. -/
def cueAddsUptoCard : Claim7 := { stood := { row := cueAddsUptoRow, standIns := [], harness := (true, "d200c2f9484011b2fecf6d987098eee6f4d6857560912b686a09e1298a9b974d"), looks := true }, kinds := [], alts := [], laidByText := true, laidKinds := [.data, .data, .data, .data, .pinned], laidTests := true, laidLooks := .later }
def CueAddsUptoCardSaid : Prop := Claim7.holds Tryz.pinned (.plain (OpenSpec.upto cueAddsSpec)) cueAddsUptoCard

/-- THE SECOND FORM's CARD OF 'kelirlaw04.CueTells'. -/
def cueTellsUptoCard : Claim7 := { stood := { row := cueTellsUptoRow, standIns := [], harness := (true, "d200c2f9484011b2fecf6d987098eee6f4d6857560912b686a09e1298a9b974d"), looks := true }, kinds := [], alts := [], laidByText := true, laidKinds := [.data, .data, .data, .data, .pinned], laidTests := true, laidLooks := .later }
def CueTellsUptoCardSaid : Prop := Claim7.holds Tryz.pinned (.plain (OpenSpec.upto cueTellsSpec)) cueTellsUptoCard

/-- THE SECOND FORM's CARD OF 'kelirlaw04.CueApart'. -/
def cueApartUptoCard : Claim7 := { stood := { row := cueApartUptoRow, standIns := [], harness := (true, "d200c2f9484011b2fecf6d987098eee6f4d6857560912b686a09e1298a9b974d"), looks := true }, kinds := [], alts := [], laidByText := true, laidKinds := [.data, .data, .data, .data, .pinned], laidTests := true, laidLooks := .later }
def CueApartUptoCardSaid : Prop := Claim7.holds Tryz.pinned (.plain (OpenSpec.upto cueApartSpec)) cueApartUptoCard

/-- THE SECOND FORM's CARD OF 'kelirlaw04.CueSettles'. -/
def cueSettlesUptoCard : Claim7 := { stood := { row := cueSettlesUptoRow, standIns := [], harness := (true, "d200c2f9484011b2fecf6d987098eee6f4d6857560912b686a09e1298a9b974d"), looks := true }, kinds := [], alts := [], laidByText := true, laidKinds := [.data, .data, .data, .data, .pinned], laidTests := true, laidLooks := .later }
def CueSettlesUptoCardSaid : Prop := Claim7.holds Tryz.pinned (.plain (OpenSpec.upto cueSettlesSpec)) cueSettlesUptoCard

/-- THE SECOND FORM's CARD OF 'kelirlaw04.CueSettled'. -/
def cueSettledUptoCard : Claim7 := { stood := { row := cueSettledUptoRow, standIns := [], harness := (true, "d200c2f9484011b2fecf6d987098eee6f4d6857560912b686a09e1298a9b974d"), looks := true }, kinds := [], alts := [], laidByText := true, laidKinds := [.data, .data, .data, .data, .pinned], laidTests := true, laidLooks := .later }
def CueSettledUptoCardSaid : Prop := Claim7.holds Tryz.pinned (.plain (OpenSpec.upto cueSettledSpec)) cueSettledUptoCard

/-- THE SECOND FORM's CARD OF 'kelirlaw04.CueAsks'. -/
def cueAsksUptoCard : Claim7 := { stood := { row := cueAsksUptoRow, standIns := [], harness := (true, "d200c2f9484011b2fecf6d987098eee6f4d6857560912b686a09e1298a9b974d"), looks := true }, kinds := [], alts := [], laidByText := true, laidKinds := [.data, .data, .data, .data, .pinned], laidTests := true, laidLooks := .later }
def CueAsksUptoCardSaid : Prop := Claim7.holds Tryz.pinned (.plain (OpenSpec.upto cueAsksSpec)) cueAsksUptoCard

/-- THE SECOND FORM's CARD OF 'kelirlaw04.CueGame'. -/
def cueGameUptoCard : Claim7 := { stood := { row := cueGameUptoRow, standIns := [], harness := (true, "d200c2f9484011b2fecf6d987098eee6f4d6857560912b686a09e1298a9b974d"), looks := true }, kinds := [], alts := [], laidByText := true, laidKinds := [.data, .data, .data, .data, .pinned], laidTests := true, laidLooks := .later }
def CueGameUptoCardSaid : Prop := Claim7.holds Tryz.pinned (.plain (OpenSpec.upto cueGameSpec)) cueGameUptoCard

/-- THE SECOND FORM's CARD OF 'kelirlaw04.CueJoins'. -/
def cueJoinsUptoCard : Claim7 := { stood := { row := cueJoinsUptoRow, standIns := [], harness := (true, "d200c2f9484011b2fecf6d987098eee6f4d6857560912b686a09e1298a9b974d"), looks := true }, kinds := [], alts := [], laidByText := true, laidKinds := [.data, .data, .data, .data, .pinned], laidTests := true, laidLooks := .later }
def CueJoinsUptoCardSaid : Prop := Claim7.holds Tryz.pinned (.plain (OpenSpec.upto cueJoinsSpec)) cueJoinsUptoCard

/-- THE SECOND FORM's CARD OF 'kelirlaw04.CueJoined'. -/
def cueJoinedUptoCard : Claim7 := { stood := { row := cueJoinedUptoRow, standIns := [], harness := (true, "d200c2f9484011b2fecf6d987098eee6f4d6857560912b686a09e1298a9b974d"), looks := true }, kinds := [], alts := [], laidByText := true, laidKinds := [.data, .data, .data, .data, .pinned], laidTests := true, laidLooks := .later }
def CueJoinedUptoCardSaid : Prop := Claim7.holds Tryz.pinned (.plain (OpenSpec.upto cueJoinedSpec)) cueJoinedUptoCard

/-- THE SECOND FORM's CARD OF 'kelirlaw04.CueReduces'. -/
def cueReducesUptoCard : Claim7 := { stood := { row := cueReducesUptoRow, standIns := [], harness := (true, "d200c2f9484011b2fecf6d987098eee6f4d6857560912b686a09e1298a9b974d"), looks := true }, kinds := [], alts := [], laidByText := true, laidKinds := [.data, .data, .data, .data, .pinned], laidTests := true, laidLooks := .later }
def CueReducesUptoCardSaid : Prop := Claim7.holds Tryz.pinned (.plain (OpenSpec.upto cueReducesSpec)) cueReducesUptoCard

/-- THE SECOND FORM's CARD OF 'kelirlaw04.CueLeast'. -/
def cueLeastUptoCard : Claim7 := { stood := { row := cueLeastUptoRow, standIns := [], harness := (true, "d200c2f9484011b2fecf6d987098eee6f4d6857560912b686a09e1298a9b974d"), looks := true }, kinds := [], alts := [], laidByText := true, laidKinds := [.data, .data, .data, .data, .pinned], laidTests := true, laidLooks := .later }
def CueLeastUptoCardSaid : Prop := Claim7.holds Tryz.pinned (.plain (OpenSpec.upto cueLeastSpec)) cueLeastUptoCard

/-- THE SECOND FORM's CARD OF 'kelirlaw04.CueMishears'. -/
def cueMishearsUptoCard : Claim7 := { stood := { row := cueMishearsUptoRow, standIns := [], harness := (true, "d200c2f9484011b2fecf6d987098eee6f4d6857560912b686a09e1298a9b974d"), looks := true }, kinds := [], alts := [], laidByText := true, laidKinds := [.data, .data, .data, .data, .pinned], laidTests := true, laidLooks := .later }
def CueMishearsUptoCardSaid : Prop := Claim7.holds Tryz.pinned (.plain (OpenSpec.upto cueMishearsSpec)) cueMishearsUptoCard

/-- THE SECOND FORM's CARD OF 'kelirlaw04.CueHeard'. -/
def cueHeardUptoCard : Claim7 := { stood := { row := cueHeardUptoRow, standIns := [], harness := (true, "d200c2f9484011b2fecf6d987098eee6f4d6857560912b686a09e1298a9b974d"), looks := true }, kinds := [], alts := [], laidByText := true, laidKinds := [.data, .data, .data, .data, .pinned], laidTests := true, laidLooks := .later }
def CueHeardUptoCardSaid : Prop := Claim7.holds Tryz.pinned (.plain (OpenSpec.upto cueHeardSpec)) cueHeardUptoCard

/-- THE SECOND FORM's CARD OF 'kelirlaw04.CueNevers'. -/
def cueNeversUptoCard : Claim7 := { stood := { row := cueNeversUptoRow, standIns := [], harness := (true, "d200c2f9484011b2fecf6d987098eee6f4d6857560912b686a09e1298a9b974d"), looks := true }, kinds := [], alts := [], laidByText := true, laidKinds := [.data, .data, .data, .data, .pinned], laidTests := true, laidLooks := .later }
def CueNeversUptoCardSaid : Prop := Claim7.holds Tryz.pinned (.plain (OpenSpec.upto cueNeversSpec)) cueNeversUptoCard

/-- THE SECOND FORM's CARD OF 'kelirlaw04.CueFenced'. -/
def cueFencedUptoCard : Claim7 := { stood := { row := cueFencedUptoRow, standIns := [], harness := (true, "d200c2f9484011b2fecf6d987098eee6f4d6857560912b686a09e1298a9b974d"), looks := true }, kinds := [], alts := [], laidByText := true, laidKinds := [.data, .data, .data, .data, .pinned], laidTests := true, laidLooks := .later }
def CueFencedUptoCardSaid : Prop := Claim7.holds Tryz.pinned (.plain (OpenSpec.upto cueFencedSpec)) cueFencedUptoCard

/-- THE SECOND FORM's CARD OF 'kelirlaw04.CueMore'. -/
def cueMoreUptoCard : Claim7 := { stood := { row := cueMoreUptoRow, standIns := [], harness := (true, "d200c2f9484011b2fecf6d987098eee6f4d6857560912b686a09e1298a9b974d"), looks := true }, kinds := [], alts := [], laidByText := true, laidKinds := [.data, .data, .data, .data, .pinned], laidTests := true, laidLooks := .later }
def CueMoreUptoCardSaid : Prop := Claim7.holds Tryz.pinned (.plain (OpenSpec.upto cueMoreSpec)) cueMoreUptoCard

/-- THE SECOND FORM's CARD OF 'kelirlaw04.CuePlays'. -/
def cuePlaysUptoCard : Claim7 := { stood := { row := cuePlaysUptoRow, standIns := [], harness := (true, "d200c2f9484011b2fecf6d987098eee6f4d6857560912b686a09e1298a9b974d"), looks := true }, kinds := [], alts := [], laidByText := true, laidKinds := [.data, .data, .data, .data, .pinned], laidTests := true, laidLooks := .later }
def CuePlaysUptoCardSaid : Prop := Claim7.holds Tryz.pinned (.plain (OpenSpec.upto cuePlaysSpec)) cuePlaysUptoCard

/-- THE SECOND FORM's CARD OF 'kelirlaw04.CuePrints'. -/
def cuePrintsUptoCard : Claim7 := { stood := { row := cuePrintsUptoRow, standIns := [], harness := (true, "d200c2f9484011b2fecf6d987098eee6f4d6857560912b686a09e1298a9b974d"), looks := true }, kinds := [], alts := [], laidByText := true, laidKinds := [.data, .data, .data, .data, .pinned], laidTests := true, laidLooks := .later }
def CuePrintsUptoCardSaid : Prop := Claim7.holds Tryz.pinned (.plain (OpenSpec.upto cuePrintsSpec)) cuePrintsUptoCard

/-- THE SECOND FORM's CARD OF 'kelirlaw04.CueReads'. -/
def cueReadsUptoCard : Claim7 := { stood := { row := cueReadsUptoRow, standIns := [], harness := (true, "d200c2f9484011b2fecf6d987098eee6f4d6857560912b686a09e1298a9b974d"), looks := true }, kinds := [], alts := [], laidByText := true, laidKinds := [.data, .data, .data, .data, .pinned], laidTests := true, laidLooks := .later }
def CueReadsUptoCardSaid : Prop := Claim7.holds Tryz.pinned (.plain (OpenSpec.upto cueReadsSpec)) cueReadsUptoCard

/-- THE SECOND FORM's CARD OF 'kelirlaw04.CueSpoilt'. -/
def cueSpoiltUptoCard : Claim7 := { stood := { row := cueSpoiltUptoRow, standIns := [], harness := (true, "d200c2f9484011b2fecf6d987098eee6f4d6857560912b686a09e1298a9b974d"), looks := true }, kinds := [], alts := [], laidByText := true, laidKinds := [.data, .data, .data, .data, .pinned], laidTests := true, laidLooks := .later }
def CueSpoiltUptoCardSaid : Prop := Claim7.holds Tryz.pinned (.plain (OpenSpec.upto cueSpoiltSpec)) cueSpoiltUptoCard
end Rows
end Go.Proofs.YtdhdaadoehbopaaGreatDoor
