/-
  DERIVED. GIVEN WITH THE SEED: THE CARDS: each row of YtaebebpldkciiaaGreatDoorRows.lean that lists a variable, with what it lists TIED to the program's text (the seventh form; the later family's looks); each row that meets fmt, with fmt's text TOLD by the authors' own Lean function (tested against real Go, not proved from fmt's source: count such statements apart). THE CARD IS WHAT COUNTS. Prove the row's statement (the work); the ties are given (YtaebebpldkciiaaGreatDoorTie.lean); close each card by the builder's one call (the guide's Derived/Test/ToyasCard.lean, 'card_holds'). Laid BY PROGRAM, IN A SANDBOX (cutbox-door.mjs). By AI agents, Wed Nov 11 2026. No macro, syntax, notation, axiom, sorry.
-/
import Derived.Test.YtaebebpldkciiaaGreatDoorRows
import GoSem.ClaimSeven
namespace Go.Proofs.YtaebebpldkciiaaGreatDoor
namespace Rows

/-- THE TIED CARD OF 'skywaytop.TopCentre'. -/
def topCentreCard : Claim7 := { stood := { row := topCentreRow, standIns := [], harness := (true, "b60ba911c76117f3f22dfa764f057c9700a57528149170f104fa12fd18804aa1"), looks := true }, kinds := [], alts := [], laidByText := true, laidKinds := [.data, .data, .data, .data, .data, .pinned], laidTests := true, laidLooks := .later }
def TopCentreCardSaid : Prop := Claim7.holds Tryz.pinned (.plain (OpenSpec.ofChange topCentreSpec)) topCentreCard

/-- THE TIED CARD OF 'skywaytop.TopHolds'. -/
def topHoldsCard : Claim7 := { stood := { row := topHoldsRow, standIns := [], harness := (true, "b60ba911c76117f3f22dfa764f057c9700a57528149170f104fa12fd18804aa1"), looks := true }, kinds := [], alts := [], laidByText := true, laidKinds := [.data, .data, .data, .data, .data, .pinned], laidTests := true, laidLooks := .later }
def TopHoldsCardSaid : Prop := Claim7.holds Tryz.pinned (.plain (OpenSpec.ofChange topHoldsSpec)) topHoldsCard

/-- THE TIED CARD OF 'skywaykeep4.SeasonPicks'. -/
def seasonPicksCard : Claim7 := { stood := { row := seasonPicksRow, standIns := [], harness := (true, "b60ba911c76117f3f22dfa764f057c9700a57528149170f104fa12fd18804aa1"), looks := true }, kinds := [], alts := [], laidByText := true, laidKinds := [.data, .data, .data, .data, .data, .pinned], laidTests := true, laidLooks := .later }
def SeasonPicksCardSaid : Prop := Claim7.holds Tryz.pinned (.plain (OpenSpec.ofChange seasonPicksSpec)) seasonPicksCard

/-- THE TIED CARD OF 'skywaykeep4.SeasonSafe'. -/
def seasonSafeCard : Claim7 := { stood := { row := seasonSafeRow, standIns := [], harness := (true, "b60ba911c76117f3f22dfa764f057c9700a57528149170f104fa12fd18804aa1"), looks := true }, kinds := [], alts := [], laidByText := true, laidKinds := [.data, .data, .data, .data, .data, .pinned], laidTests := true, laidLooks := .later }
def SeasonSafeCardSaid : Prop := Claim7.holds Tryz.pinned (.plain (OpenSpec.ofChange seasonSafeSpec)) seasonSafeCard

/-- THE TIED CARD OF 'skywaykeep4.SeasonCounts'. -/
def seasonCountsCard : Claim7 := { stood := { row := seasonCountsRow, standIns := [], harness := (true, "b60ba911c76117f3f22dfa764f057c9700a57528149170f104fa12fd18804aa1"), looks := true }, kinds := [], alts := [], laidByText := true, laidKinds := [.data, .data, .data, .data, .data, .pinned], laidTests := true, laidLooks := .later }
def SeasonCountsCardSaid : Prop := Claim7.holds Tryz.pinned (.plain (OpenSpec.ofChange seasonCountsSpec)) seasonCountsCard

/-- THE TIED CARD OF 'skywaytop.TopPromise'. -/
def topPromiseCard : Claim7 := { stood := { row := topPromiseRow, standIns := [], harness := (true, "b60ba911c76117f3f22dfa764f057c9700a57528149170f104fa12fd18804aa1"), looks := true }, kinds := [], alts := [], laidByText := true, laidKinds := [.data, .data, .data, .data, .data, .pinned], laidTests := true, laidLooks := .later }
def TopPromiseCardSaid : Prop := Claim7.holds Tryz.pinned (.plain (OpenSpec.ofChange topPromiseSpec)) topPromiseCard

/-- THE TIED CARD OF 'skywaytop.TopTorn'. -/
def topTornCard : Claim7 := { stood := { row := topTornRow, standIns := [], harness := (true, "b60ba911c76117f3f22dfa764f057c9700a57528149170f104fa12fd18804aa1"), looks := true }, kinds := [], alts := [], laidByText := true, laidKinds := [.data, .data, .data, .data, .data, .data, .data, .sentinel, .sentinel, .data, .pinned], laidTests := true, laidLooks := .later }
def TopTornCardSaid : Prop := Claim7.holds Tryz.pinned (.plain (OpenSpec.ofChange topTornSpec)) topTornCard

/-- THE SECOND FORM's CARD OF 'skywaytop.TopCentre'. -/
def topCentreUptoCard : Claim7 := { stood := { row := topCentreUptoRow, standIns := [], harness := (true, "b60ba911c76117f3f22dfa764f057c9700a57528149170f104fa12fd18804aa1"), looks := true }, kinds := [], alts := [], laidByText := true, laidKinds := [.data, .data, .data, .data, .data, .pinned], laidTests := true, laidLooks := .later }
def TopCentreUptoCardSaid : Prop := Claim7.holds Tryz.pinned (.plain (OpenSpec.upto topCentreSpec)) topCentreUptoCard

/-- THE SECOND FORM's CARD OF 'skywaytop.TopHolds'. -/
def topHoldsUptoCard : Claim7 := { stood := { row := topHoldsUptoRow, standIns := [], harness := (true, "b60ba911c76117f3f22dfa764f057c9700a57528149170f104fa12fd18804aa1"), looks := true }, kinds := [], alts := [], laidByText := true, laidKinds := [.data, .data, .data, .data, .data, .pinned], laidTests := true, laidLooks := .later }
def TopHoldsUptoCardSaid : Prop := Claim7.holds Tryz.pinned (.plain (OpenSpec.upto topHoldsSpec)) topHoldsUptoCard

/-- THE SECOND FORM's CARD OF 'skywaykeep4.SeasonPicks'. -/
def seasonPicksUptoCard : Claim7 := { stood := { row := seasonPicksUptoRow, standIns := [], harness := (true, "b60ba911c76117f3f22dfa764f057c9700a57528149170f104fa12fd18804aa1"), looks := true }, kinds := [], alts := [], laidByText := true, laidKinds := [.data, .data, .data, .data, .data, .pinned], laidTests := true, laidLooks := .later }
def SeasonPicksUptoCardSaid : Prop := Claim7.holds Tryz.pinned (.plain (OpenSpec.upto seasonPicksSpec)) seasonPicksUptoCard

/-- THE SECOND FORM's CARD OF 'skywaykeep4.SeasonSafe'. -/
def seasonSafeUptoCard : Claim7 := { stood := { row := seasonSafeUptoRow, standIns := [], harness := (true, "b60ba911c76117f3f22dfa764f057c9700a57528149170f104fa12fd18804aa1"), looks := true }, kinds := [], alts := [], laidByText := true, laidKinds := [.data, .data, .data, .data, .data, .pinned], laidTests := true, laidLooks := .later }
def SeasonSafeUptoCardSaid : Prop := Claim7.holds Tryz.pinned (.plain (OpenSpec.upto seasonSafeSpec)) seasonSafeUptoCard

/-- THE SECOND FORM's CARD OF 'skywaykeep4.SeasonCounts'. -/
def seasonCountsUptoCard : Claim7 := { stood := { row := seasonCountsUptoRow, standIns := [], harness := (true, "b60ba911c76117f3f22dfa764f057c9700a57528149170f104fa12fd18804aa1"), looks := true }, kinds := [], alts := [], laidByText := true, laidKinds := [.data, .data, .data, .data, .data, .pinned], laidTests := true, laidLooks := .later }
def SeasonCountsUptoCardSaid : Prop := Claim7.holds Tryz.pinned (.plain (OpenSpec.upto seasonCountsSpec)) seasonCountsUptoCard

/-- THE SECOND FORM's CARD OF 'skywaytop.TopPromise'. -/
def topPromiseUptoCard : Claim7 := { stood := { row := topPromiseUptoRow, standIns := [], harness := (true, "b60ba911c76117f3f22dfa764f057c9700a57528149170f104fa12fd18804aa1"), looks := true }, kinds := [], alts := [], laidByText := true, laidKinds := [.data, .data, .data, .data, .data, .pinned], laidTests := true, laidLooks := .later }
def TopPromiseUptoCardSaid : Prop := Claim7.holds Tryz.pinned (.plain (OpenSpec.upto topPromiseSpec)) topPromiseUptoCard

/-- THE SECOND FORM's CARD OF 'skywaytop.TopTorn'. -/
def topTornUptoCard : Claim7 := { stood := { row := topTornUptoRow, standIns := [], harness := (true, "b60ba911c76117f3f22dfa764f057c9700a57528149170f104fa12fd18804aa1"), looks := true }, kinds := [], alts := [], laidByText := true, laidKinds := [.data, .data, .data, .data, .data, .data, .data, .sentinel, .sentinel, .data, .pinned], laidTests := true, laidLooks := .later }
def TopTornUptoCardSaid : Prop := Claim7.holds Tryz.pinned (.plain (OpenSpec.upto topTornSpec)) topTornUptoCard
end Rows
end Go.Proofs.YtaebebpldkciiaaGreatDoor
