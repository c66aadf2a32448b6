/-
  DERIVED. GIVEN WITH THE SEED: THE CARDS: each row of YtchlicgjdlkidaaDoorRows.lean that lists a variable, with what it lists TIED to the program's text (the seventh form; the later family's looks); each row that meets fmt, with fmt's text TOLD by the authors' own Lean function (tested against real Go, not proved from fmt's source: count such statements apart). THE CARD IS WHAT COUNTS. Prove the row's statement (the work); the ties are given (YtchlicgjdlkidaaDoorTie.lean); close each card by the builder's one call (the guide's Derived/Test/ToyasCard.lean, 'card_holds'). Laid BY PROGRAM, IN A SANDBOX (cutbox-door.mjs). By AI agents, Wed Nov 11 2026. No macro, syntax, notation, axiom, sorry.
-/
import Derived.Test.YtchlicgjdlkidaaDoorRows
import GoSem.ClaimSeven
namespace Go.Proofs.YtchlicgjdlkidaaDoor
namespace Rows

/-- THE TIED CARD OF 'hoardlaw10.ArcFits'. -/
def arcFitsCard : Claim7 := { stood := { row := arcFitsRow, standIns := [], harness := (true, "68e68f94280013e38535ce3110d4d7a2f06d65707ecf75a2928263fd445a7689"), looks := false }, kinds := [], alts := [], laidByText := true, laidKinds := [.data, .data, .data], laidTests := true, laidLooks := .later }
def ArcFitsCardSaid : Prop := Claim7.holds Tryd.pinned (.plain (OpenSpec.ofChange arcFitsSpec)) arcFitsCard

/-- THE TIED CARD OF 'hoardlaw10.ArcOne'. -/
def arcOneCard : Claim7 := { stood := { row := arcOneRow, standIns := [], harness := (true, "68e68f94280013e38535ce3110d4d7a2f06d65707ecf75a2928263fd445a7689"), looks := false }, kinds := [], alts := [], laidByText := true, laidKinds := [.data, .data, .data], laidTests := true, laidLooks := .later }
def ArcOneCardSaid : Prop := Claim7.holds Tryd.pinned (.plain (OpenSpec.ofChange arcOneSpec)) arcOneCard

/-- THE TIED CARD OF 'hoardlaw10.ArcCounts'. -/
def arcCountsCard : Claim7 := { stood := { row := arcCountsRow, standIns := [], harness := (true, "68e68f94280013e38535ce3110d4d7a2f06d65707ecf75a2928263fd445a7689"), looks := false }, kinds := [], alts := [], laidByText := true, laidKinds := [.data, .data, .data], laidTests := true, laidLooks := .later }
def ArcCountsCardSaid : Prop := Claim7.holds Tryd.pinned (.plain (OpenSpec.ofChange arcCountsSpec)) arcCountsCard

/-- THE TIED CARD OF 'hoardlaw10.ArcOften'. -/
def arcOftenCard : Claim7 := { stood := { row := arcOftenRow, standIns := [], harness := (true, "68e68f94280013e38535ce3110d4d7a2f06d65707ecf75a2928263fd445a7689"), looks := false }, kinds := [], alts := [], laidByText := true, laidKinds := [.data, .data, .data], laidTests := true, laidLooks := .later }
def ArcOftenCardSaid : Prop := Claim7.holds Tryd.pinned (.plain (OpenSpec.ofChange arcOftenSpec)) arcOftenCard

/-- THE TIED CARD OF 'hoardlaw10.ArcTold'. -/
def arcToldCard : Claim7 := { stood := { row := arcToldRow, standIns := [], harness := (true, "68e68f94280013e38535ce3110d4d7a2f06d65707ecf75a2928263fd445a7689"), looks := false }, kinds := [], alts := [], laidByText := true, laidKinds := [.data, .data, .data], laidTests := true, laidLooks := .later }
def ArcToldCardSaid : Prop := Claim7.holds Tryd.pinned (.plain (OpenSpec.ofChange arcToldSpec)) arcToldCard

/-- THE TIED CARD OF 'hoardlaw10.ArcEmpties'. -/
def arcEmptiesCard : Claim7 := { stood := { row := arcEmptiesRow, standIns := [], harness := (true, "68e68f94280013e38535ce3110d4d7a2f06d65707ecf75a2928263fd445a7689"), looks := false }, kinds := [], alts := [], laidByText := true, laidKinds := [.data, .data, .data], laidTests := true, laidLooks := .later }
def ArcEmptiesCardSaid : Prop := Claim7.holds Tryd.pinned (.plain (OpenSpec.ofChange arcEmptiesSpec)) arcEmptiesCard

/-- THE TIED CARD OF 'hoardlaw10.ArcLoads'. -/
def arcLoadsCard : Claim7 := { stood := { row := arcLoadsRow, standIns := [], harness := (true, "68e68f94280013e38535ce3110d4d7a2f06d65707ecf75a2928263fd445a7689"), looks := false }, kinds := [], alts := [], laidByText := true, laidKinds := [.data, .data, .data], laidTests := true, laidLooks := .later }
def ArcLoadsCardSaid : Prop := Claim7.holds Tryd.pinned (.plain (OpenSpec.ofChange arcLoadsSpec)) arcLoadsCard

/-- THE TIED CARD OF 'hoardlaw10.ArcRemoves'. -/
def arcRemovesCard : Claim7 := { stood := { row := arcRemovesRow, standIns := [], harness := (true, "68e68f94280013e38535ce3110d4d7a2f06d65707ecf75a2928263fd445a7689"), looks := false }, kinds := [], alts := [], laidByText := true, laidKinds := [.data, .data, .data], laidTests := true, laidLooks := .later }
def ArcRemovesCardSaid : Prop := Claim7.holds Tryd.pinned (.plain (OpenSpec.ofChange arcRemovesSpec)) arcRemovesCard

/-- THE TIED CARD OF 'hoardlaw10.ArcOwn'. -/
def arcOwnCard : Claim7 := { stood := { row := arcOwnRow, standIns := [], harness := (true, "68e68f94280013e38535ce3110d4d7a2f06d65707ecf75a2928263fd445a7689"), looks := false }, kinds := [], alts := [], laidByText := true, laidKinds := [.data, .data, .data], laidTests := true, laidLooks := .later }
def ArcOwnCardSaid : Prop := Claim7.holds Tryd.pinned (.plain (OpenSpec.ofChange arcOwnSpec)) arcOwnCard

/-- THE TIED CARD OF 'hoardlaw10.ArcPlays'. -/
def arcPlaysCard : Claim7 := { stood := { row := arcPlaysRow, standIns := [], harness := (true, "68e68f94280013e38535ce3110d4d7a2f06d65707ecf75a2928263fd445a7689"), looks := false }, kinds := [], alts := [], laidByText := true, laidKinds := [.data, .data, .data], laidTests := true, laidLooks := .later }
def ArcPlaysCardSaid : Prop := Claim7.holds Tryd.pinned (.plain (OpenSpec.ofChange arcPlaysSpec)) arcPlaysCard

/-- THE TIED CARD OF 'hoardlaw10.ArcBounds'. -/
def arcBoundsCard : Claim7 := { stood := { row := arcBoundsRow, standIns := [], harness := (true, "68e68f94280013e38535ce3110d4d7a2f06d65707ecf75a2928263fd445a7689"), looks := false }, kinds := [], alts := [], laidByText := true, laidKinds := [.data, .data, .data], laidTests := true, laidLooks := .later }
def ArcBoundsCardSaid : Prop := Claim7.holds Tryd.pinned (.plain (OpenSpec.ofChange arcBoundsSpec)) arcBoundsCard

/-- THE TIED CARD OF 'hoardlaw10.ArcOfNothing'. -/
def arcOfNothingCard : Claim7 := { stood := { row := arcOfNothingRow, standIns := [], harness := (true, "68e68f94280013e38535ce3110d4d7a2f06d65707ecf75a2928263fd445a7689"), looks := false }, kinds := [], alts := [], laidByText := true, laidKinds := [.data, .data, .data], laidTests := true, laidLooks := .later }
def ArcOfNothingCardSaid : Prop := Claim7.holds Tryd.pinned (.plain (OpenSpec.ofChange arcOfNothingSpec)) arcOfNothingCard

/-- THE SECOND FORM's CARD OF 'hoardlaw10.ArcFits'. -/
def arcFitsUptoCard : Claim7 := { stood := { row := arcFitsUptoRow, standIns := [], harness := (true, "68e68f94280013e38535ce3110d4d7a2f06d65707ecf75a2928263fd445a7689"), looks := false }, kinds := [], alts := [], laidByText := true, laidKinds := [.data, .data, .data], laidTests := true, laidLooks := .later }
def ArcFitsUptoCardSaid : Prop := Claim7.holds Tryd.pinned (.plain (OpenSpec.upto arcFitsSpec)) arcFitsUptoCard

/-- THE SECOND FORM's CARD OF 'hoardlaw10.ArcOne'. -/
def arcOneUptoCard : Claim7 := { stood := { row := arcOneUptoRow, standIns := [], harness := (true, "68e68f94280013e38535ce3110d4d7a2f06d65707ecf75a2928263fd445a7689"), looks := false }, kinds := [], alts := [], laidByText := true, laidKinds := [.data, .data, .data], laidTests := true, laidLooks := .later }
def ArcOneUptoCardSaid : Prop := Claim7.holds Tryd.pinned (.plain (OpenSpec.upto arcOneSpec)) arcOneUptoCard

/-- THE SECOND FORM's CARD OF 'hoardlaw10.ArcCounts'. -/
def arcCountsUptoCard : Claim7 := { stood := { row := arcCountsUptoRow, standIns := [], harness := (true, "68e68f94280013e38535ce3110d4d7a2f06d65707ecf75a2928263fd445a7689"), looks := false }, kinds := [], alts := [], laidByText := true, laidKinds := [.data, .data, .data], laidTests := true, laidLooks := .later }
def ArcCountsUptoCardSaid : Prop := Claim7.holds Tryd.pinned (.plain (OpenSpec.upto arcCountsSpec)) arcCountsUptoCard

/-- THE SECOND FORM's CARD OF 'hoardlaw10.ArcOften'. -/
def arcOftenUptoCard : Claim7 := { stood := { row := arcOftenUptoRow, standIns := [], harness := (true, "68e68f94280013e38535ce3110d4d7a2f06d65707ecf75a2928263fd445a7689"), looks := false }, kinds := [], alts := [], laidByText := true, laidKinds := [.data, .data, .data], laidTests := true, laidLooks := .later }
def ArcOftenUptoCardSaid : Prop := Claim7.holds Tryd.pinned (.plain (OpenSpec.upto arcOftenSpec)) arcOftenUptoCard

/-- THE SECOND FORM's CARD OF 'hoardlaw10.ArcTold'. -/
def arcToldUptoCard : Claim7 := { stood := { row := arcToldUptoRow, standIns := [], harness := (true, "68e68f94280013e38535ce3110d4d7a2f06d65707ecf75a2928263fd445a7689"), looks := false }, kinds := [], alts := [], laidByText := true, laidKinds := [.data, .data, .data], laidTests := true, laidLooks := .later }
def ArcToldUptoCardSaid : Prop := Claim7.holds Tryd.pinned (.plain (OpenSpec.upto arcToldSpec)) arcToldUptoCard

/-- THE SECOND FORM's CARD OF 'hoardlaw10.ArcEmpties'. -/
def arcEmptiesUptoCard : Claim7 := { stood := { row := arcEmptiesUptoRow, standIns := [], harness := (true, "68e68f94280013e38535ce3110d4d7a2f06d65707ecf75a2928263fd445a7689"), looks := false }, kinds := [], alts := [], laidByText := true, laidKinds := [.data, .data, .data], laidTests := true, laidLooks := .later }
def ArcEmptiesUptoCardSaid : Prop := Claim7.holds Tryd.pinned (.plain (OpenSpec.upto arcEmptiesSpec)) arcEmptiesUptoCard

/-- THE SECOND FORM's CARD OF 'hoardlaw10.ArcLoads'. -/
def arcLoadsUptoCard : Claim7 := { stood := { row := arcLoadsUptoRow, standIns := [], harness := (true, "68e68f94280013e38535ce3110d4d7a2f06d65707ecf75a2928263fd445a7689"), looks := false }, kinds := [], alts := [], laidByText := true, laidKinds := [.data, .data, .data], laidTests := true, laidLooks := .later }
def ArcLoadsUptoCardSaid : Prop := Claim7.holds Tryd.pinned (.plain (OpenSpec.upto arcLoadsSpec)) arcLoadsUptoCard

/-- THE SECOND FORM's CARD OF 'hoardlaw10.ArcRemoves'. -/
def arcRemovesUptoCard : Claim7 := { stood := { row := arcRemovesUptoRow, standIns := [], harness := (true, "68e68f94280013e38535ce3110d4d7a2f06d65707ecf75a2928263fd445a7689"), looks := false }, kinds := [], alts := [], laidByText := true, laidKinds := [.data, .data, .data], laidTests := true, laidLooks := .later }
def ArcRemovesUptoCardSaid : Prop := Claim7.holds Tryd.pinned (.plain (OpenSpec.upto arcRemovesSpec)) arcRemovesUptoCard

/-- THE SECOND FORM's CARD OF 'hoardlaw10.ArcOwn'. -/
def arcOwnUptoCard : Claim7 := { stood := { row := arcOwnUptoRow, standIns := [], harness := (true, "68e68f94280013e38535ce3110d4d7a2f06d65707ecf75a2928263fd445a7689"), looks := false }, kinds := [], alts := [], laidByText := true, laidKinds := [.data, .data, .data], laidTests := true, laidLooks := .later }
def ArcOwnUptoCardSaid : Prop := Claim7.holds Tryd.pinned (.plain (OpenSpec.upto arcOwnSpec)) arcOwnUptoCard

/-- THE SECOND FORM's CARD OF 'hoardlaw10.ArcPlays'. -/
def arcPlaysUptoCard : Claim7 := { stood := { row := arcPlaysUptoRow, standIns := [], harness := (true, "68e68f94280013e38535ce3110d4d7a2f06d65707ecf75a2928263fd445a7689"), looks := false }, kinds := [], alts := [], laidByText := true, laidKinds := [.data, .data, .data], laidTests := true, laidLooks := .later }
def ArcPlaysUptoCardSaid : Prop := Claim7.holds Tryd.pinned (.plain (OpenSpec.upto arcPlaysSpec)) arcPlaysUptoCard

/-- THE SECOND FORM's CARD OF 'hoardlaw10.ArcBounds'. -/
def arcBoundsUptoCard : Claim7 := { stood := { row := arcBoundsUptoRow, standIns := [], harness := (true, "68e68f94280013e38535ce3110d4d7a2f06d65707ecf75a2928263fd445a7689"), looks := false }, kinds := [], alts := [], laidByText := true, laidKinds := [.data, .data, .data], laidTests := true, laidLooks := .later }
def ArcBoundsUptoCardSaid : Prop := Claim7.holds Tryd.pinned (.plain (OpenSpec.upto arcBoundsSpec)) arcBoundsUptoCard

/-- THE SECOND FORM's CARD OF 'hoardlaw10.ArcOfNothing'. -/
def arcOfNothingUptoCard : Claim7 := { stood := { row := arcOfNothingUptoRow, standIns := [], harness := (true, "68e68f94280013e38535ce3110d4d7a2f06d65707ecf75a2928263fd445a7689"), looks := false }, kinds := [], alts := [], laidByText := true, laidKinds := [.data, .data, .data], laidTests := true, laidLooks := .later }
def ArcOfNothingUptoCardSaid : Prop := Claim7.holds Tryd.pinned (.plain (OpenSpec.upto arcOfNothingSpec)) arcOfNothingUptoCard
end Rows
end Go.Proofs.YtchlicgjdlkidaaDoor
