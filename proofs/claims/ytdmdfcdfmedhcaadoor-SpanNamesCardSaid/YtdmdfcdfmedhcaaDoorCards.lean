/-
  DERIVED. GIVEN WITH THE SEED: THE CARDS: each row of YtdmdfcdfmedhcaaDoorRows.lean that lists a variable, with what it lists TIED to the program's text (the seventh form; the later family's looks); each row that meets fmt, with fmt's text TOLD by the authors' own Lean function (tested against real Go, not proved from fmt's source: count such statements apart). THE CARD IS WHAT COUNTS. Prove the row's statement (the work); the ties are given (YtdmdfcdfmedhcaaDoorTie.lean); close each card by the builder's one call (the guide's Derived/Test/ToyasCard.lean, 'card_holds'). Laid BY PROGRAM, IN A SANDBOX (cutbox-door.mjs). By AI agents, Wed Nov 11 2026. No macro, syntax, notation, axiom, sorry.
-/
import Derived.Test.YtdmdfcdfmedhcaaDoorRows
import GoSem.ClaimSeven
namespace Go.Proofs.YtdmdfcdfmedhcaaDoor
namespace Rows

/-- THE TIED CARD OF 'winnowlaw1.SpanLines'. -/
def spanLinesCard : Claim7 := { stood := { row := spanLinesRow, standIns := [], harness := (true, "55cdeb04a09c6a3268013a3fbcd8935374fb9ac0a1407a81e9034e445b2a7274"), looks := true }, kinds := [], alts := [], laidByText := true, laidKinds := [.data, .pinned], laidTests := true, laidLooks := .later }
def SpanLinesCardSaid : Prop := Claim7.holds Tryd.pinned (.plain (OpenSpec.ofChange spanLinesSpec)) spanLinesCard

/-- THE TIED CARD OF 'winnowlaw1.SpanSpots'. -/
def spanSpotsCard : Claim7 := { stood := { row := spanSpotsRow, standIns := [], harness := (true, "55cdeb04a09c6a3268013a3fbcd8935374fb9ac0a1407a81e9034e445b2a7274"), looks := true }, kinds := [], alts := [], laidByText := true, laidKinds := [.data, .pinned], laidTests := true, laidLooks := .later }
def SpanSpotsCardSaid : Prop := Claim7.holds Tryd.pinned (.plain (OpenSpec.ofChange spanSpotsSpec)) spanSpotsCard

/-- THE TIED CARD OF 'winnowlaw1.SpanPlaces'. -/
def spanPlacesCard : Claim7 := { stood := { row := spanPlacesRow, standIns := [], harness := (true, "55cdeb04a09c6a3268013a3fbcd8935374fb9ac0a1407a81e9034e445b2a7274"), looks := true }, kinds := [], alts := [], laidByText := true, laidKinds := [.data, .pinned], laidTests := true, laidLooks := .later }
def SpanPlacesCardSaid : Prop := Claim7.holds Tryd.pinned (.plain (OpenSpec.ofChange spanPlacesSpec)) spanPlacesCard

/-- THE TIED CARD OF 'winnowlaw1.SpanBack'. -/
def spanBackCard : Claim7 := { stood := { row := spanBackRow, standIns := [], harness := (true, "55cdeb04a09c6a3268013a3fbcd8935374fb9ac0a1407a81e9034e445b2a7274"), looks := true }, kinds := [], alts := [], laidByText := true, laidKinds := [.data, .pinned], laidTests := true, laidLooks := .later }
def SpanBackCardSaid : Prop := Claim7.holds Tryd.pinned (.plain (OpenSpec.ofChange spanBackSpec)) spanBackCard

/-- THE TIED CARD OF 'winnowlaw1.SpanWhole'. -/
def spanWholeCard : Claim7 := { stood := { row := spanWholeRow, standIns := [], harness := (true, "55cdeb04a09c6a3268013a3fbcd8935374fb9ac0a1407a81e9034e445b2a7274"), looks := true }, kinds := [], alts := [], laidByText := true, laidKinds := [.data, .pinned], laidTests := true, laidLooks := .later }
def SpanWholeCardSaid : Prop := Claim7.holds Tryd.pinned (.plain (OpenSpec.ofChange spanWholeSpec)) spanWholeCard

/-- THE TIED CARD OF 'winnowlaw1.SpanApart'. -/
def spanApartCard : Claim7 := { stood := { row := spanApartRow, standIns := [], harness := (true, "55cdeb04a09c6a3268013a3fbcd8935374fb9ac0a1407a81e9034e445b2a7274"), looks := true }, kinds := [], alts := [], laidByText := true, laidKinds := [.data, .pinned], laidTests := true, laidLooks := .later }
def SpanApartCardSaid : Prop := Claim7.holds Tryd.pinned (.plain (OpenSpec.ofChange spanApartSpec)) spanApartCard

/-- THE TIED CARD OF 'winnowlaw1.SpanMarks'. -/
def spanMarksCard : Claim7 := { stood := { row := spanMarksRow, standIns := [], harness := (true, "55cdeb04a09c6a3268013a3fbcd8935374fb9ac0a1407a81e9034e445b2a7274"), looks := true }, kinds := [], alts := [], laidByText := true, laidKinds := [.data, .pinned], laidTests := true, laidLooks := .later }
def SpanMarksCardSaid : Prop := Claim7.holds Tryd.pinned (.plain (OpenSpec.ofChange spanMarksSpec)) spanMarksCard

/-- THE TIED CARD OF 'winnowlaw1.SpanMarked'. -/
def spanMarkedCard : Claim7 := { stood := { row := spanMarkedRow, standIns := [], harness := (true, "55cdeb04a09c6a3268013a3fbcd8935374fb9ac0a1407a81e9034e445b2a7274"), looks := true }, kinds := [], alts := [], laidByText := true, laidKinds := [.data, .pinned], laidTests := true, laidLooks := .later }
def SpanMarkedCardSaid : Prop := Claim7.holds Tryd.pinned (.plain (OpenSpec.ofChange spanMarkedSpec)) spanMarkedCard

/-- THE TIED CARD OF 'winnowlaw1.SpanNames'. -/
def spanNamesCard : Claim7 := { stood := { row := spanNamesRow, standIns := [], harness := (true, "55cdeb04a09c6a3268013a3fbcd8935374fb9ac0a1407a81e9034e445b2a7274"), looks := true }, kinds := [], alts := [], laidByText := true, laidKinds := [.data, .pinned], laidTests := true, laidLooks := .later }
def SpanNamesCardSaid : Prop := Claim7.holds Tryd.pinned (.plain (OpenSpec.ofChange spanNamesSpec)) spanNamesCard

/-- THE TIED CARD OF 'winnowlaw1.SpanErrors'. -/
def spanErrorsCard : Claim7 := { stood := { row := spanErrorsRow, standIns := [], harness := (true, "55cdeb04a09c6a3268013a3fbcd8935374fb9ac0a1407a81e9034e445b2a7274"), looks := true }, kinds := [], alts := [], laidByText := true, laidKinds := [.data, .handle, .pinned], laidTests := true, laidLooks := .later }
def SpanErrorsCardSaid : Prop := Claim7.holds Tryd.pinned (.plain (OpenSpec.ofChange spanErrorsSpec)) spanErrorsCard

/-- THE TIED CARD OF 'winnowlaw1.SpanOwn'. -/
def spanOwnCard : Claim7 := { stood := { row := spanOwnRow, standIns := [], harness := (true, "55cdeb04a09c6a3268013a3fbcd8935374fb9ac0a1407a81e9034e445b2a7274"), looks := true }, kinds := [], alts := [], laidByText := true, laidKinds := [.data, .handle, .pinned], laidTests := true, laidLooks := .later }
def SpanOwnCardSaid : Prop := Claim7.holds Tryd.pinned (.plain (OpenSpec.ofChange spanOwnSpec)) spanOwnCard

/-- THE SECOND FORM's CARD OF 'winnowlaw1.SpanLines'. -/
def spanLinesUptoCard : Claim7 := { stood := { row := spanLinesUptoRow, standIns := [], harness := (true, "55cdeb04a09c6a3268013a3fbcd8935374fb9ac0a1407a81e9034e445b2a7274"), looks := true }, kinds := [], alts := [], laidByText := true, laidKinds := [.data, .pinned], laidTests := true, laidLooks := .later }
def SpanLinesUptoCardSaid : Prop := Claim7.holds Tryd.pinned (.plain (OpenSpec.upto spanLinesSpec)) spanLinesUptoCard

/-- THE SECOND FORM's CARD OF 'winnowlaw1.SpanSpots'. -/
def spanSpotsUptoCard : Claim7 := { stood := { row := spanSpotsUptoRow, standIns := [], harness := (true, "55cdeb04a09c6a3268013a3fbcd8935374fb9ac0a1407a81e9034e445b2a7274"), looks := true }, kinds := [], alts := [], laidByText := true, laidKinds := [.data, .pinned], laidTests := true, laidLooks := .later }
def SpanSpotsUptoCardSaid : Prop := Claim7.holds Tryd.pinned (.plain (OpenSpec.upto spanSpotsSpec)) spanSpotsUptoCard

/-- THE SECOND FORM's CARD OF 'winnowlaw1.SpanPlaces'. -/
def spanPlacesUptoCard : Claim7 := { stood := { row := spanPlacesUptoRow, standIns := [], harness := (true, "55cdeb04a09c6a3268013a3fbcd8935374fb9ac0a1407a81e9034e445b2a7274"), looks := true }, kinds := [], alts := [], laidByText := true, laidKinds := [.data, .pinned], laidTests := true, laidLooks := .later }
def SpanPlacesUptoCardSaid : Prop := Claim7.holds Tryd.pinned (.plain (OpenSpec.upto spanPlacesSpec)) spanPlacesUptoCard

/-- THE SECOND FORM's CARD OF 'winnowlaw1.SpanBack'. -/
def spanBackUptoCard : Claim7 := { stood := { row := spanBackUptoRow, standIns := [], harness := (true, "55cdeb04a09c6a3268013a3fbcd8935374fb9ac0a1407a81e9034e445b2a7274"), looks := true }, kinds := [], alts := [], laidByText := true, laidKinds := [.data, .pinned], laidTests := true, laidLooks := .later }
def SpanBackUptoCardSaid : Prop := Claim7.holds Tryd.pinned (.plain (OpenSpec.upto spanBackSpec)) spanBackUptoCard

/-- THE SECOND FORM's CARD OF 'winnowlaw1.SpanWhole'. -/
def spanWholeUptoCard : Claim7 := { stood := { row := spanWholeUptoRow, standIns := [], harness := (true, "55cdeb04a09c6a3268013a3fbcd8935374fb9ac0a1407a81e9034e445b2a7274"), looks := true }, kinds := [], alts := [], laidByText := true, laidKinds := [.data, .pinned], laidTests := true, laidLooks := .later }
def SpanWholeUptoCardSaid : Prop := Claim7.holds Tryd.pinned (.plain (OpenSpec.upto spanWholeSpec)) spanWholeUptoCard

/-- THE SECOND FORM's CARD OF 'winnowlaw1.SpanApart'. -/
def spanApartUptoCard : Claim7 := { stood := { row := spanApartUptoRow, standIns := [], harness := (true, "55cdeb04a09c6a3268013a3fbcd8935374fb9ac0a1407a81e9034e445b2a7274"), looks := true }, kinds := [], alts := [], laidByText := true, laidKinds := [.data, .pinned], laidTests := true, laidLooks := .later }
def SpanApartUptoCardSaid : Prop := Claim7.holds Tryd.pinned (.plain (OpenSpec.upto spanApartSpec)) spanApartUptoCard

/-- THE SECOND FORM's CARD OF 'winnowlaw1.SpanMarks'. -/
def spanMarksUptoCard : Claim7 := { stood := { row := spanMarksUptoRow, standIns := [], harness := (true, "55cdeb04a09c6a3268013a3fbcd8935374fb9ac0a1407a81e9034e445b2a7274"), looks := true }, kinds := [], alts := [], laidByText := true, laidKinds := [.data, .pinned], laidTests := true, laidLooks := .later }
def SpanMarksUptoCardSaid : Prop := Claim7.holds Tryd.pinned (.plain (OpenSpec.upto spanMarksSpec)) spanMarksUptoCard

/-- THE SECOND FORM's CARD OF 'winnowlaw1.SpanMarked'. -/
def spanMarkedUptoCard : Claim7 := { stood := { row := spanMarkedUptoRow, standIns := [], harness := (true, "55cdeb04a09c6a3268013a3fbcd8935374fb9ac0a1407a81e9034e445b2a7274"), looks := true }, kinds := [], alts := [], laidByText := true, laidKinds := [.data, .pinned], laidTests := true, laidLooks := .later }
def SpanMarkedUptoCardSaid : Prop := Claim7.holds Tryd.pinned (.plain (OpenSpec.upto spanMarkedSpec)) spanMarkedUptoCard

/-- THE SECOND FORM's CARD OF 'winnowlaw1.SpanNames'. -/
def spanNamesUptoCard : Claim7 := { stood := { row := spanNamesUptoRow, standIns := [], harness := (true, "55cdeb04a09c6a3268013a3fbcd8935374fb9ac0a1407a81e9034e445b2a7274"), looks := true }, kinds := [], alts := [], laidByText := true, laidKinds := [.data, .pinned], laidTests := true, laidLooks := .later }
def SpanNamesUptoCardSaid : Prop := Claim7.holds Tryd.pinned (.plain (OpenSpec.upto spanNamesSpec)) spanNamesUptoCard

/-- THE SECOND FORM's CARD OF 'winnowlaw1.SpanErrors'. -/
def spanErrorsUptoCard : Claim7 := { stood := { row := spanErrorsUptoRow, standIns := [], harness := (true, "55cdeb04a09c6a3268013a3fbcd8935374fb9ac0a1407a81e9034e445b2a7274"), looks := true }, kinds := [], alts := [], laidByText := true, laidKinds := [.data, .handle, .pinned], laidTests := true, laidLooks := .later }
def SpanErrorsUptoCardSaid : Prop := Claim7.holds Tryd.pinned (.plain (OpenSpec.upto spanErrorsSpec)) spanErrorsUptoCard

/-- THE SECOND FORM's CARD OF 'winnowlaw1.SpanOwn'. -/
def spanOwnUptoCard : Claim7 := { stood := { row := spanOwnUptoRow, standIns := [], harness := (true, "55cdeb04a09c6a3268013a3fbcd8935374fb9ac0a1407a81e9034e445b2a7274"), looks := true }, kinds := [], alts := [], laidByText := true, laidKinds := [.data, .handle, .pinned], laidTests := true, laidLooks := .later }
def SpanOwnUptoCardSaid : Prop := Claim7.holds Tryd.pinned (.plain (OpenSpec.upto spanOwnSpec)) spanOwnUptoCard
end Rows
end Go.Proofs.YtdmdfcdfmedhcaaDoor
