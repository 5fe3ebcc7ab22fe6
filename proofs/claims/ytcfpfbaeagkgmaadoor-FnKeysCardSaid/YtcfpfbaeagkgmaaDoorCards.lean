/-
  DERIVED. GIVEN WITH THE SEED: THE CARDS: each row of YtcfpfbaeagkgmaaDoorRows.lean that lists a variable, with what it lists TIED to the program's text (the seventh form; the later family's looks); each row that meets fmt, with fmt's text TOLD by the authors' own Lean function (tested against real Go, not proved from fmt's source: count such statements apart). THE CARD IS WHAT COUNTS. Prove the row's statement (the work); the ties are given (YtcfpfbaeagkgmaaDoorTie.lean); close each card by the builder's one call (the guide's Derived/Test/ToyasCard.lean, 'card_holds'). Laid BY PROGRAM, IN A SANDBOX (cutbox-door.mjs). By AI agents, Wed Nov 11 2026. No macro, syntax, notation, axiom, sorry.
-/
import Derived.Test.YtcfpfbaeagkgmaaDoorRows
import GoSem.ClaimSeven
namespace Go.Proofs.YtcfpfbaeagkgmaaDoor
namespace Rows

/-- THE TIED CARD OF 'laws.FnKeys'. -/
def fnKeysCard : Claim7 := { stood := { row := fnKeysRow, standIns := [], harness := (true, "d4be36aed918c8b680d475c5678dc480fed99f1942a877adccc89eec9d537e68"), looks := true }, kinds := [], alts := [], laidByText := true, laidKinds := [.data, .pinned], laidTests := true, laidLooks := .later }
def FnKeysCardSaid : Prop := Claim7.holds Tryd.pinned (.plain (OpenSpec.ofChange fnKeysSpec)) fnKeysCard

/-- THE TIED CARD OF 'laws.FnTracks'. -/
def fnTracksCard : Claim7 := { stood := { row := fnTracksRow, standIns := [], harness := (true, "d4be36aed918c8b680d475c5678dc480fed99f1942a877adccc89eec9d537e68"), looks := true }, kinds := [], alts := [], laidByText := true, laidKinds := [.data, .pinned], laidTests := true, laidLooks := .later }
def FnTracksCardSaid : Prop := Claim7.holds Tryd.pinned (.plain (OpenSpec.ofChange fnTracksSpec)) fnTracksCard

/-- THE TIED CARD OF 'laws.FnExactStoreTrack'. -/
def fnExactStoreTrackCard : Claim7 := { stood := { row := fnExactStoreTrackRow, standIns := [], harness := (true, "d4be36aed918c8b680d475c5678dc480fed99f1942a877adccc89eec9d537e68"), looks := true }, kinds := [], alts := [], laidByText := true, laidKinds := [.data, .pinned], laidTests := true, laidLooks := .later }
def FnExactStoreTrackCardSaid : Prop := Claim7.holds Tryd.pinned (.plain (OpenSpec.ofChange fnExactStoreTrackSpec)) fnExactStoreTrackCard

/-- THE TIED CARD OF 'laws.FnExactStoreTracks'. -/
def fnExactStoreTracksCard : Claim7 := { stood := { row := fnExactStoreTracksRow, standIns := [], harness := (true, "d4be36aed918c8b680d475c5678dc480fed99f1942a877adccc89eec9d537e68"), looks := true }, kinds := [], alts := [], laidByText := true, laidKinds := [.data, .pinned], laidTests := true, laidLooks := .later }
def FnExactStoreTracksCardSaid : Prop := Claim7.holds Tryd.pinned (.plain (OpenSpec.ofChange fnExactStoreTracksSpec)) fnExactStoreTracksCard

/-- THE TIED CARD OF 'laws.FnExactReadPlaces'. -/
def fnExactReadPlacesCard : Claim7 := { stood := { row := fnExactReadPlacesRow, standIns := [], harness := (true, "d4be36aed918c8b680d475c5678dc480fed99f1942a877adccc89eec9d537e68"), looks := true }, kinds := [], alts := [], laidByText := true, laidKinds := [.data, .data, .data, .data, .sentinel, .sentinel, .pinned], laidTests := true, laidLooks := .later }
def FnExactReadPlacesCardSaid : Prop := Claim7.holds Tryd.pinned (.plain (OpenSpec.ofChange fnExactReadPlacesSpec)) fnExactReadPlacesCard

/-- THE SECOND FORM's CARD OF 'laws.FnKeys'. -/
def fnKeysUptoCard : Claim7 := { stood := { row := fnKeysUptoRow, standIns := [], harness := (true, "d4be36aed918c8b680d475c5678dc480fed99f1942a877adccc89eec9d537e68"), looks := true }, kinds := [], alts := [], laidByText := true, laidKinds := [.data, .pinned], laidTests := true, laidLooks := .later }
def FnKeysUptoCardSaid : Prop := Claim7.holds Tryd.pinned (.plain (OpenSpec.upto fnKeysSpec)) fnKeysUptoCard

/-- THE SECOND FORM's CARD OF 'laws.FnTracks'. -/
def fnTracksUptoCard : Claim7 := { stood := { row := fnTracksUptoRow, standIns := [], harness := (true, "d4be36aed918c8b680d475c5678dc480fed99f1942a877adccc89eec9d537e68"), looks := true }, kinds := [], alts := [], laidByText := true, laidKinds := [.data, .pinned], laidTests := true, laidLooks := .later }
def FnTracksUptoCardSaid : Prop := Claim7.holds Tryd.pinned (.plain (OpenSpec.upto fnTracksSpec)) fnTracksUptoCard

/-- THE SECOND FORM's CARD OF 'laws.FnExactStoreTrack'. -/
def fnExactStoreTrackUptoCard : Claim7 := { stood := { row := fnExactStoreTrackUptoRow, standIns := [], harness := (true, "d4be36aed918c8b680d475c5678dc480fed99f1942a877adccc89eec9d537e68"), looks := true }, kinds := [], alts := [], laidByText := true, laidKinds := [.data, .pinned], laidTests := true, laidLooks := .later }
def FnExactStoreTrackUptoCardSaid : Prop := Claim7.holds Tryd.pinned (.plain (OpenSpec.upto fnExactStoreTrackSpec)) fnExactStoreTrackUptoCard

/-- THE SECOND FORM's CARD OF 'laws.FnExactStoreTracks'. -/
def fnExactStoreTracksUptoCard : Claim7 := { stood := { row := fnExactStoreTracksUptoRow, standIns := [], harness := (true, "d4be36aed918c8b680d475c5678dc480fed99f1942a877adccc89eec9d537e68"), looks := true }, kinds := [], alts := [], laidByText := true, laidKinds := [.data, .pinned], laidTests := true, laidLooks := .later }
def FnExactStoreTracksUptoCardSaid : Prop := Claim7.holds Tryd.pinned (.plain (OpenSpec.upto fnExactStoreTracksSpec)) fnExactStoreTracksUptoCard

/-- THE SECOND FORM's CARD OF 'laws.FnExactReadPlaces'. -/
def fnExactReadPlacesUptoCard : Claim7 := { stood := { row := fnExactReadPlacesUptoRow, standIns := [], harness := (true, "d4be36aed918c8b680d475c5678dc480fed99f1942a877adccc89eec9d537e68"), looks := true }, kinds := [], alts := [], laidByText := true, laidKinds := [.data, .data, .data, .data, .sentinel, .sentinel, .pinned], laidTests := true, laidLooks := .later }
def FnExactReadPlacesUptoCardSaid : Prop := Claim7.holds Tryd.pinned (.plain (OpenSpec.upto fnExactReadPlacesSpec)) fnExactReadPlacesUptoCard
end Rows
end Go.Proofs.YtcfpfbaeagkgmaaDoor
