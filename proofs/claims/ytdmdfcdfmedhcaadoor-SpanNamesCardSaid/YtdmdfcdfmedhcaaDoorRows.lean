/-
  NARROWER THAN 'FOR EVERY INPUT', by the rows' own cells (each row's printed sentence says how): SpanLines: laid · SpanSpots: laid · SpanPlaces: laid · SpanBack: laid · SpanWhole: laid · SpanApart: laid · SpanMarks: laid · SpanMarked: laid · SpanNames: laid · SpanErrors: laid · SpanOwn: laid.
  DERIVED. THE GIVEN ROWS OF THIS SEAT. 11 by the template 'for every input the law returns true; each argument reads behind the call as it read before'; 0 by the template 'total and deterministic' (their statements: YtdmdfcdfmedhcaaDoorTotals.lean).
  GIVEN WITH THE SEED: the statements are not yours to turn. If you find one false, say at which input.
  Laid BY PROGRAM, IN A SANDBOX (cutbox-rows.mjs): the forced cells as the released guide's own fill.sh prints them over the translation 979785fa1772899f… (all of the seat's roots in one cut). By AI agents, Wed Nov 11 2026. No macro, syntax, notation, axiom, sorry.
-/
import Derived.Test.YtdmdfcdfmedhcaaDoorChecked
import GoSem.PinnedTables
import GoSem.Claim
import GoSem.ClaimJoined
import GoSem.ClaimMapViews
import Derived.JoinedTies
import Derived.KernelRfl
namespace Go.Proofs.YtdmdfcdfmedhcaaDoor
/- THE CELL 'sum', in the pinned program and in every row, IS THE sha256 OF THE DUMP (.gsa) THAT YtdmdfcdfmedhcaaDoorProg.lean LOADS. Nothing in Lean hashes anything: it is a label: what it is worth is what the hold of that sum in a sandbox is worth. -/
noncomputable def Tryd.pinned : Pinned := { name := "ytdmdfcdfmedhcaadoor", sum := "979785fa1772899f557b6a9fb686787a602e337c52b514e625ee18d65b9e7146", checked := Tryd.checked }
namespace Rows
def none {H : Type} : Left H := { results := [], args := [] }

/- WHAT THE LISTED PACKAGE-LEVEL VARIABLES READ AS WHEN THE CALL BEGINS. Each datum BY PROGRAM (the guide's laid-datum.mjs) off the statement by which the dump's own 'gosem.cut.vars' lays the variable. In a bare row this is a premise. The card (YtdmdfcdfmedhcaaDoorCards.lean) ties it to the program's text. -/
def laid_unicode_utf8_acceptRanges {H : Type} : DataW H := .agg [.agg [.lit (.int .u8 128), .lit (.int .u8 191)], .agg [.lit (.int .u8 160), .lit (.int .u8 191)], .agg [.lit (.int .u8 128), .lit (.int .u8 159)], .agg [.lit (.int .u8 144), .lit (.int .u8 191)], .agg [.lit (.int .u8 128), .lit (.int .u8 143)], .agg [.lit (.int .u8 0), .lit (.int .u8 0)], .agg [.lit (.int .u8 0), .lit (.int .u8 0)], .agg [.lit (.int .u8 0), .lit (.int .u8 0)], .agg [.lit (.int .u8 0), .lit (.int .u8 0)], .agg [.lit (.int .u8 0), .lit (.int .u8 0)], .agg [.lit (.int .u8 0), .lit (.int .u8 0)], .agg [.lit (.int .u8 0), .lit (.int .u8 0)], .agg [.lit (.int .u8 0), .lit (.int .u8 0)], .agg [.lit (.int .u8 0), .lit (.int .u8 0)], .agg [.lit (.int .u8 0), .lit (.int .u8 0)], .agg [.lit (.int .u8 0), .lit (.int .u8 0)]]
/-- One of Go's own tables, pinned by name: the form's constant. -/
def laid_unicode_utf8_first : DataW Unit := Go.Pinned.utf8First
def laid_errors_errorType {H : Type} : DataW H := .iface "internal/reflectlite.rtype" (.agg [.ptr (.lit (.string [101, 114, 114, 111, 114]))])

/-- 'winnowlaw1.SpanLines': WHATEVER THE INPUT: true; the input reads as it did. -/
def spanLinesSpec : ChangeSpec := { name := "spanLines", fn := fun _ => fun
  | [d1, d2] => { results := [.lit (.bool true)], args := [d1, d2] }
  | _ => none }
def spanLinesRow : OpenClaim := { program := "ytdmdfcdfmedhcaadoor", sum := "979785fa1772899f557b6a9fb686787a602e337c52b514e625ee18d65b9e7146", func := "winnow/winnowlaw1.SpanLines", spec := "spanLines", inPlace := ["internal/bytealg.CountString", "internal/bytealg.IndexByteString", "internal/bytealg.IndexString"], named := ["unicode/utf8.first", "unicode/utf8.acceptRanges", "internal/bytealg.MaxLen"], apart := false, laid := [("unicode/utf8.acceptRanges", laid_unicode_utf8_acceptRanges), ("unicode/utf8.first", laid_unicode_utf8_first)] }
def SpanLinesSaid : Prop := spanLinesRow.holds Tryd.pinned (OpenSpec.ofChange spanLinesSpec)

/-- ITS FALSE NEIGHBOUR: 'it returns false'. Refute it at one input. -/
def spanLinesWrong : ChangeSpec := { name := "spanLines", fn := fun _ => fun
  | [d1, d2] => { results := [.lit (.bool false)], args := [d1, d2] }
  | _ => none }
def SpanLinesWrongFalsely : Prop := spanLinesRow.holds Tryd.pinned (OpenSpec.ofChange spanLinesWrong)

/-- 'winnowlaw1.SpanSpots': WHATEVER THE INPUT: true; the input reads as it did. -/
def spanSpotsSpec : ChangeSpec := { name := "spanSpots", fn := fun _ => fun
  | [d1, d2] => { results := [.lit (.bool true)], args := [d1, d2] }
  | _ => none }
def spanSpotsRow : OpenClaim := { program := "ytdmdfcdfmedhcaadoor", sum := "979785fa1772899f557b6a9fb686787a602e337c52b514e625ee18d65b9e7146", func := "winnow/winnowlaw1.SpanSpots", spec := "spanSpots", inPlace := ["internal/bytealg.CountString", "internal/bytealg.IndexByteString", "internal/bytealg.IndexString"], named := ["unicode/utf8.first", "unicode/utf8.acceptRanges", "internal/bytealg.MaxLen"], apart := false, laid := [("unicode/utf8.acceptRanges", laid_unicode_utf8_acceptRanges), ("unicode/utf8.first", laid_unicode_utf8_first)] }
def SpanSpotsSaid : Prop := spanSpotsRow.holds Tryd.pinned (OpenSpec.ofChange spanSpotsSpec)

/-- ITS FALSE NEIGHBOUR: 'it returns false'. Refute it at one input. -/
def spanSpotsWrong : ChangeSpec := { name := "spanSpots", fn := fun _ => fun
  | [d1, d2] => { results := [.lit (.bool false)], args := [d1, d2] }
  | _ => none }
def SpanSpotsWrongFalsely : Prop := spanSpotsRow.holds Tryd.pinned (OpenSpec.ofChange spanSpotsWrong)

/-- 'winnowlaw1.SpanPlaces': WHATEVER THE INPUT: true; the input reads as it did. -/
def spanPlacesSpec : ChangeSpec := { name := "spanPlaces", fn := fun _ => fun
  | [d1, d2] => { results := [.lit (.bool true)], args := [d1, d2] }
  | _ => none }
def spanPlacesRow : OpenClaim := { program := "ytdmdfcdfmedhcaadoor", sum := "979785fa1772899f557b6a9fb686787a602e337c52b514e625ee18d65b9e7146", func := "winnow/winnowlaw1.SpanPlaces", spec := "spanPlaces", inPlace := ["internal/bytealg.CountString", "internal/bytealg.IndexByteString", "internal/bytealg.IndexString"], named := ["unicode/utf8.first", "unicode/utf8.acceptRanges", "internal/bytealg.MaxLen"], apart := false, laid := [("unicode/utf8.acceptRanges", laid_unicode_utf8_acceptRanges), ("unicode/utf8.first", laid_unicode_utf8_first)] }
def SpanPlacesSaid : Prop := spanPlacesRow.holds Tryd.pinned (OpenSpec.ofChange spanPlacesSpec)

/-- ITS FALSE NEIGHBOUR: 'it returns false'. Refute it at one input. -/
def spanPlacesWrong : ChangeSpec := { name := "spanPlaces", fn := fun _ => fun
  | [d1, d2] => { results := [.lit (.bool false)], args := [d1, d2] }
  | _ => none }
def SpanPlacesWrongFalsely : Prop := spanPlacesRow.holds Tryd.pinned (OpenSpec.ofChange spanPlacesWrong)

/-- 'winnowlaw1.SpanBack': WHATEVER THE INPUT: true; the input reads as it did. -/
def spanBackSpec : ChangeSpec := { name := "spanBack", fn := fun _ => fun
  | [d] => { results := [.lit (.bool true)], args := [d] }
  | _ => none }
def spanBackRow : OpenClaim := { program := "ytdmdfcdfmedhcaadoor", sum := "979785fa1772899f557b6a9fb686787a602e337c52b514e625ee18d65b9e7146", func := "winnow/winnowlaw1.SpanBack", spec := "spanBack", inPlace := ["internal/bytealg.CountString", "internal/bytealg.IndexByteString", "internal/bytealg.IndexString"], named := ["unicode/utf8.first", "unicode/utf8.acceptRanges", "internal/bytealg.MaxLen"], apart := false, laid := [("unicode/utf8.acceptRanges", laid_unicode_utf8_acceptRanges), ("unicode/utf8.first", laid_unicode_utf8_first)] }
def SpanBackSaid : Prop := spanBackRow.holds Tryd.pinned (OpenSpec.ofChange spanBackSpec)

/-- ITS FALSE NEIGHBOUR: 'it returns false'. Refute it at one input. -/
def spanBackWrong : ChangeSpec := { name := "spanBack", fn := fun _ => fun
  | [d] => { results := [.lit (.bool false)], args := [d] }
  | _ => none }
def SpanBackWrongFalsely : Prop := spanBackRow.holds Tryd.pinned (OpenSpec.ofChange spanBackWrong)

/-- 'winnowlaw1.SpanWhole': WHATEVER THE INPUT: true; the input reads as it did. -/
def spanWholeSpec : ChangeSpec := { name := "spanWhole", fn := fun _ => fun
  | [d] => { results := [.lit (.bool true)], args := [d] }
  | _ => none }
def spanWholeRow : OpenClaim := { program := "ytdmdfcdfmedhcaadoor", sum := "979785fa1772899f557b6a9fb686787a602e337c52b514e625ee18d65b9e7146", func := "winnow/winnowlaw1.SpanWhole", spec := "spanWhole", inPlace := ["internal/bytealg.CountString", "internal/bytealg.IndexByteString", "internal/bytealg.IndexString"], named := ["unicode/utf8.first", "unicode/utf8.acceptRanges", "internal/bytealg.MaxLen"], apart := false, laid := [("unicode/utf8.acceptRanges", laid_unicode_utf8_acceptRanges), ("unicode/utf8.first", laid_unicode_utf8_first)] }
def SpanWholeSaid : Prop := spanWholeRow.holds Tryd.pinned (OpenSpec.ofChange spanWholeSpec)

/-- ITS FALSE NEIGHBOUR: 'it returns false'. Refute it at one input. -/
def spanWholeWrong : ChangeSpec := { name := "spanWhole", fn := fun _ => fun
  | [d] => { results := [.lit (.bool false)], args := [d] }
  | _ => none }
def SpanWholeWrongFalsely : Prop := spanWholeRow.holds Tryd.pinned (OpenSpec.ofChange spanWholeWrong)

/-- 'winnowlaw1.SpanApart': WHATEVER THE INPUT: true; the input reads as it did. -/
def spanApartSpec : ChangeSpec := { name := "spanApart", fn := fun _ => fun
  | [d1, d2, d3] => { results := [.lit (.bool true)], args := [d1, d2, d3] }
  | _ => none }
def spanApartRow : OpenClaim := { program := "ytdmdfcdfmedhcaadoor", sum := "979785fa1772899f557b6a9fb686787a602e337c52b514e625ee18d65b9e7146", func := "winnow/winnowlaw1.SpanApart", spec := "spanApart", inPlace := ["internal/bytealg.CountString", "internal/bytealg.IndexByteString", "internal/bytealg.IndexString"], named := ["unicode/utf8.first", "unicode/utf8.acceptRanges", "internal/bytealg.MaxLen"], apart := false, laid := [("unicode/utf8.acceptRanges", laid_unicode_utf8_acceptRanges), ("unicode/utf8.first", laid_unicode_utf8_first)] }
def SpanApartSaid : Prop := spanApartRow.holds Tryd.pinned (OpenSpec.ofChange spanApartSpec)

/-- ITS FALSE NEIGHBOUR: 'it returns false'. Refute it at one input. -/
def spanApartWrong : ChangeSpec := { name := "spanApart", fn := fun _ => fun
  | [d1, d2, d3] => { results := [.lit (.bool false)], args := [d1, d2, d3] }
  | _ => none }
def SpanApartWrongFalsely : Prop := spanApartRow.holds Tryd.pinned (OpenSpec.ofChange spanApartWrong)

/-- 'winnowlaw1.SpanMarks': WHATEVER THE INPUT: true; the input reads as it did. -/
def spanMarksSpec : ChangeSpec := { name := "spanMarks", fn := fun _ => fun
  | [d1, d2] => { results := [.lit (.bool true)], args := [d1, d2] }
  | _ => none }
def spanMarksRow : OpenClaim := { program := "ytdmdfcdfmedhcaadoor", sum := "979785fa1772899f557b6a9fb686787a602e337c52b514e625ee18d65b9e7146", func := "winnow/winnowlaw1.SpanMarks", spec := "spanMarks", inPlace := ["internal/bytealg.CountString", "internal/bytealg.IndexByteString", "internal/bytealg.IndexString", "internal/abi.NoEscape"], named := ["unicode/utf8.first", "unicode/utf8.acceptRanges", "internal/bytealg.MaxLen"], apart := false, laid := [("unicode/utf8.acceptRanges", laid_unicode_utf8_acceptRanges), ("unicode/utf8.first", laid_unicode_utf8_first)] }
def SpanMarksSaid : Prop := spanMarksRow.holds Tryd.pinned (OpenSpec.ofChange spanMarksSpec)

/-- ITS FALSE NEIGHBOUR: 'it returns false'. Refute it at one input. -/
def spanMarksWrong : ChangeSpec := { name := "spanMarks", fn := fun _ => fun
  | [d1, d2] => { results := [.lit (.bool false)], args := [d1, d2] }
  | _ => none }
def SpanMarksWrongFalsely : Prop := spanMarksRow.holds Tryd.pinned (OpenSpec.ofChange spanMarksWrong)

/-- 'winnowlaw1.SpanMarked': WHATEVER THE INPUT: true; the input reads as it did. -/
def spanMarkedSpec : ChangeSpec := { name := "spanMarked", fn := fun _ => fun
  | [d1, d2] => { results := [.lit (.bool true)], args := [d1, d2] }
  | _ => none }
def spanMarkedRow : OpenClaim := { program := "ytdmdfcdfmedhcaadoor", sum := "979785fa1772899f557b6a9fb686787a602e337c52b514e625ee18d65b9e7146", func := "winnow/winnowlaw1.SpanMarked", spec := "spanMarked", inPlace := ["internal/bytealg.CountString", "internal/bytealg.IndexByteString", "internal/bytealg.IndexString", "internal/abi.NoEscape"], named := ["unicode/utf8.first", "unicode/utf8.acceptRanges", "internal/bytealg.MaxLen"], apart := false, laid := [("unicode/utf8.acceptRanges", laid_unicode_utf8_acceptRanges), ("unicode/utf8.first", laid_unicode_utf8_first)] }
def SpanMarkedSaid : Prop := spanMarkedRow.holds Tryd.pinned (OpenSpec.ofChange spanMarkedSpec)

/-- ITS FALSE NEIGHBOUR: 'it returns false'. Refute it at one input. -/
def spanMarkedWrong : ChangeSpec := { name := "spanMarked", fn := fun _ => fun
  | [d1, d2] => { results := [.lit (.bool false)], args := [d1, d2] }
  | _ => none }
def SpanMarkedWrongFalsely : Prop := spanMarkedRow.holds Tryd.pinned (OpenSpec.ofChange spanMarkedWrong)

/-- 'winnowlaw1.SpanNames': WHATEVER THE INPUT: true; the input reads as it did. -/
def spanNamesSpec : ChangeSpec := { name := "spanNames", fn := fun _ => fun
  | [] => { results := [.lit (.bool true)], args := [] }
  | _ => none }
def spanNamesRow : OpenClaim := { program := "ytdmdfcdfmedhcaadoor", sum := "979785fa1772899f557b6a9fb686787a602e337c52b514e625ee18d65b9e7146", func := "winnow/winnowlaw1.SpanNames", spec := "spanNames", inPlace := ["internal/bytealg.CountString", "internal/bytealg.IndexByteString", "internal/bytealg.IndexString"], named := ["unicode/utf8.first", "unicode/utf8.acceptRanges", "internal/bytealg.MaxLen"], apart := false, laid := [("unicode/utf8.acceptRanges", laid_unicode_utf8_acceptRanges), ("unicode/utf8.first", laid_unicode_utf8_first)] }
def SpanNamesSaid : Prop := spanNamesRow.holds Tryd.pinned (OpenSpec.ofChange spanNamesSpec)

/-- ITS FALSE NEIGHBOUR: 'it returns false'. Refute it at one input. -/
def spanNamesWrong : ChangeSpec := { name := "spanNames", fn := fun _ => fun
  | [] => { results := [.lit (.bool false)], args := [] }
  | _ => none }
def SpanNamesWrongFalsely : Prop := spanNamesRow.holds Tryd.pinned (OpenSpec.ofChange spanNamesWrong)

/-- 'winnowlaw1.SpanErrors': WHATEVER THE INPUT: true; the input reads as it did. -/
def spanErrorsSpec : ChangeSpec := { name := "spanErrors", fn := fun _ => fun
  | [d1, d2] => { results := [.lit (.bool true)], args := [d1, d2] }
  | _ => none }
def spanErrorsRow : OpenClaim := { program := "ytdmdfcdfmedhcaadoor", sum := "979785fa1772899f557b6a9fb686787a602e337c52b514e625ee18d65b9e7146", func := "winnow/winnowlaw1.SpanErrors", spec := "spanErrors", inPlace := ["internal/bytealg.CountString", "internal/bytealg.IndexByteString", "internal/bytealg.IndexString", "internal/reflectlite.ValueOf", "(internal/reflectlite.Value).Type", "(internal/reflectlite.Value).IsNil", "internal/reflectlite.TypeOf", "(internal/reflectlite.Value).Elem", "(internal/reflectlite.Value).Set"], unfollowed := true, recurses := true, named := ["unicode/utf8.first", "unicode/utf8.acceptRanges", "internal/bytealg.MaxLen", "errors.errorType"], apart := false, laid := [("unicode/utf8.acceptRanges", laid_unicode_utf8_acceptRanges), ("errors.errorType", laid_errors_errorType), ("unicode/utf8.first", laid_unicode_utf8_first)] }
def SpanErrorsSaid : Prop := spanErrorsRow.holds Tryd.pinned (OpenSpec.ofChange spanErrorsSpec)

/-- ITS FALSE NEIGHBOUR: 'it returns false'. Refute it at one input. -/
def spanErrorsWrong : ChangeSpec := { name := "spanErrors", fn := fun _ => fun
  | [d1, d2] => { results := [.lit (.bool false)], args := [d1, d2] }
  | _ => none }
def SpanErrorsWrongFalsely : Prop := spanErrorsRow.holds Tryd.pinned (OpenSpec.ofChange spanErrorsWrong)

/-- 'winnowlaw1.SpanOwn': WHATEVER THE INPUT: true; the input reads as it did. -/
def spanOwnSpec : ChangeSpec := { name := "spanOwn", fn := fun _ => fun
  | [d1, d2] => { results := [.lit (.bool true)], args := [d1, d2] }
  | _ => none }
def spanOwnRow : OpenClaim := { program := "ytdmdfcdfmedhcaadoor", sum := "979785fa1772899f557b6a9fb686787a602e337c52b514e625ee18d65b9e7146", func := "winnow/winnowlaw1.SpanOwn", spec := "spanOwn", inPlace := ["internal/bytealg.CountString", "internal/bytealg.IndexByteString", "internal/bytealg.IndexString", "internal/reflectlite.ValueOf", "(internal/reflectlite.Value).Type", "(internal/reflectlite.Value).IsNil", "internal/reflectlite.TypeOf", "(internal/reflectlite.Value).Elem", "(internal/reflectlite.Value).Set"], unfollowed := true, recurses := true, named := ["unicode/utf8.first", "unicode/utf8.acceptRanges", "internal/bytealg.MaxLen", "errors.errorType"], apart := false, laid := [("unicode/utf8.acceptRanges", laid_unicode_utf8_acceptRanges), ("errors.errorType", laid_errors_errorType), ("unicode/utf8.first", laid_unicode_utf8_first)] }
def SpanOwnSaid : Prop := spanOwnRow.holds Tryd.pinned (OpenSpec.ofChange spanOwnSpec)

/-- ITS FALSE NEIGHBOUR: 'it returns false'. Refute it at one input. -/
def spanOwnWrong : ChangeSpec := { name := "spanOwn", fn := fun _ => fun
  | [d1, d2] => { results := [.lit (.bool false)], args := [d1, d2] }
  | _ => none }
def SpanOwnWrongFalsely : Prop := spanOwnRow.holds Tryd.pinned (OpenSpec.ofChange spanOwnWrong)

/- THE SECOND FORM. 'bulk': how many values and letters a reading holds, each counted each time it is reached (what is shared counts as often as it is met; a slice's spare places count too). A statement '..UptoSaid' is the law's where the arguments, and the package variables that the reading takes, are together of bulk at most 1048576: NARROWER than '..Said'. Prove '..Said' where nothing that the law and all that it calls make is longer than what came in: it says more and counts as full. Else prove '..UptoSaid'. A law counts once. -/
mutual
def uptoBulk {H : Type} : DataW H → Nat
  | .lit (.string bytes) => bytes.length + 1
  | .lit _ => 1
  | .nil => 1
  | .ptr d => uptoBulk d + 1
  | .slice elems spare => uptoBulkAll elems + uptoBulkAll spare + 1
  | .agg parts => uptoBulkAll parts + 1
  | .iface _ d => uptoBulk d + 1
  | .map entries => uptoBulkEntries entries + 1
  | .held _ => 1
def uptoBulkAll {H : Type} : List (DataW H) → Nat
  | [] => 0
  | d :: r => uptoBulk d + uptoBulkAll r
def uptoBulkEntries {H : Type} : List (Lit × DataW H) → Nat
  | [] => 0
  | x :: r => uptoBulkEntry x + uptoBulkEntries r
def uptoBulkEntry {H : Type} : Lit × DataW H → Nat
  | (.string bytes, d) => bytes.length + uptoBulk d + 1
  | (_, d) => uptoBulk d + 1
 end
def uptoSmall : (H : Type) → List (DataW H) → Bool := fun _ ds => decide (uptoBulkAll ds ≤ 1048576)
def OpenSpec.upto (s : _root_.Go.ChangeSpec) : _root_.Go.OpenSpec := { _root_.Go.OpenSpec.ofChange s with cond := some uptoSmall }

/-- 'winnowlaw1.SpanLines', WHERE WHAT IT READS IS OF BULK AT MOST 1048576: true; the input reads as it did. -/
def spanLinesUptoRow : OpenClaim := { program := "ytdmdfcdfmedhcaadoor", sum := "979785fa1772899f557b6a9fb686787a602e337c52b514e625ee18d65b9e7146", func := "winnow/winnowlaw1.SpanLines", spec := "spanLines", inPlace := ["internal/bytealg.CountString", "internal/bytealg.IndexByteString", "internal/bytealg.IndexString"], named := ["unicode/utf8.first", "unicode/utf8.acceptRanges", "internal/bytealg.MaxLen"], apart := false, laid := [("unicode/utf8.acceptRanges", laid_unicode_utf8_acceptRanges), ("unicode/utf8.first", laid_unicode_utf8_first)], narrowed := true }
def SpanLinesUptoSaid : Prop := spanLinesUptoRow.holds Tryd.pinned (OpenSpec.upto spanLinesSpec)

/-- 'winnowlaw1.SpanSpots', WHERE WHAT IT READS IS OF BULK AT MOST 1048576: true; the input reads as it did. -/
def spanSpotsUptoRow : OpenClaim := { program := "ytdmdfcdfmedhcaadoor", sum := "979785fa1772899f557b6a9fb686787a602e337c52b514e625ee18d65b9e7146", func := "winnow/winnowlaw1.SpanSpots", spec := "spanSpots", inPlace := ["internal/bytealg.CountString", "internal/bytealg.IndexByteString", "internal/bytealg.IndexString"], named := ["unicode/utf8.first", "unicode/utf8.acceptRanges", "internal/bytealg.MaxLen"], apart := false, laid := [("unicode/utf8.acceptRanges", laid_unicode_utf8_acceptRanges), ("unicode/utf8.first", laid_unicode_utf8_first)], narrowed := true }
def SpanSpotsUptoSaid : Prop := spanSpotsUptoRow.holds Tryd.pinned (OpenSpec.upto spanSpotsSpec)

/-- 'winnowlaw1.SpanPlaces', WHERE WHAT IT READS IS OF BULK AT MOST 1048576: true; the input reads as it did. -/
def spanPlacesUptoRow : OpenClaim := { program := "ytdmdfcdfmedhcaadoor", sum := "979785fa1772899f557b6a9fb686787a602e337c52b514e625ee18d65b9e7146", func := "winnow/winnowlaw1.SpanPlaces", spec := "spanPlaces", inPlace := ["internal/bytealg.CountString", "internal/bytealg.IndexByteString", "internal/bytealg.IndexString"], named := ["unicode/utf8.first", "unicode/utf8.acceptRanges", "internal/bytealg.MaxLen"], apart := false, laid := [("unicode/utf8.acceptRanges", laid_unicode_utf8_acceptRanges), ("unicode/utf8.first", laid_unicode_utf8_first)], narrowed := true }
def SpanPlacesUptoSaid : Prop := spanPlacesUptoRow.holds Tryd.pinned (OpenSpec.upto spanPlacesSpec)

/-- 'winnowlaw1.SpanBack', WHERE WHAT IT READS IS OF BULK AT MOST 1048576: true; the input reads as it did. -/
def spanBackUptoRow : OpenClaim := { program := "ytdmdfcdfmedhcaadoor", sum := "979785fa1772899f557b6a9fb686787a602e337c52b514e625ee18d65b9e7146", func := "winnow/winnowlaw1.SpanBack", spec := "spanBack", inPlace := ["internal/bytealg.CountString", "internal/bytealg.IndexByteString", "internal/bytealg.IndexString"], named := ["unicode/utf8.first", "unicode/utf8.acceptRanges", "internal/bytealg.MaxLen"], apart := false, laid := [("unicode/utf8.acceptRanges", laid_unicode_utf8_acceptRanges), ("unicode/utf8.first", laid_unicode_utf8_first)], narrowed := true }
def SpanBackUptoSaid : Prop := spanBackUptoRow.holds Tryd.pinned (OpenSpec.upto spanBackSpec)

/-- 'winnowlaw1.SpanWhole', WHERE WHAT IT READS IS OF BULK AT MOST 1048576: true; the input reads as it did. -/
def spanWholeUptoRow : OpenClaim := { program := "ytdmdfcdfmedhcaadoor", sum := "979785fa1772899f557b6a9fb686787a602e337c52b514e625ee18d65b9e7146", func := "winnow/winnowlaw1.SpanWhole", spec := "spanWhole", inPlace := ["internal/bytealg.CountString", "internal/bytealg.IndexByteString", "internal/bytealg.IndexString"], named := ["unicode/utf8.first", "unicode/utf8.acceptRanges", "internal/bytealg.MaxLen"], apart := false, laid := [("unicode/utf8.acceptRanges", laid_unicode_utf8_acceptRanges), ("unicode/utf8.first", laid_unicode_utf8_first)], narrowed := true }
def SpanWholeUptoSaid : Prop := spanWholeUptoRow.holds Tryd.pinned (OpenSpec.upto spanWholeSpec)

/-- 'winnowlaw1.SpanApart', WHERE WHAT IT READS IS OF BULK AT MOST 1048576: true; the input reads as it did. -/
def spanApartUptoRow : OpenClaim := { program := "ytdmdfcdfmedhcaadoor", sum := "979785fa1772899f557b6a9fb686787a602e337c52b514e625ee18d65b9e7146", func := "winnow/winnowlaw1.SpanApart", spec := "spanApart", inPlace := ["internal/bytealg.CountString", "internal/bytealg.IndexByteString", "internal/bytealg.IndexString"], named := ["unicode/utf8.first", "unicode/utf8.acceptRanges", "internal/bytealg.MaxLen"], apart := false, laid := [("unicode/utf8.acceptRanges", laid_unicode_utf8_acceptRanges), ("unicode/utf8.first", laid_unicode_utf8_first)], narrowed := true }
def SpanApartUptoSaid : Prop := spanApartUptoRow.holds Tryd.pinned (OpenSpec.upto spanApartSpec)

/-- 'winnowlaw1.SpanMarks', WHERE WHAT IT READS IS OF BULK AT MOST 1048576: true; the input reads as it did. -/
def spanMarksUptoRow : OpenClaim := { program := "ytdmdfcdfmedhcaadoor", sum := "979785fa1772899f557b6a9fb686787a602e337c52b514e625ee18d65b9e7146", func := "winnow/winnowlaw1.SpanMarks", spec := "spanMarks", inPlace := ["internal/bytealg.CountString", "internal/bytealg.IndexByteString", "internal/bytealg.IndexString", "internal/abi.NoEscape"], named := ["unicode/utf8.first", "unicode/utf8.acceptRanges", "internal/bytealg.MaxLen"], apart := false, laid := [("unicode/utf8.acceptRanges", laid_unicode_utf8_acceptRanges), ("unicode/utf8.first", laid_unicode_utf8_first)], narrowed := true }
def SpanMarksUptoSaid : Prop := spanMarksUptoRow.holds Tryd.pinned (OpenSpec.upto spanMarksSpec)

/-- 'winnowlaw1.SpanMarked', WHERE WHAT IT READS IS OF BULK AT MOST 1048576: true; the input reads as it did. -/
def spanMarkedUptoRow : OpenClaim := { program := "ytdmdfcdfmedhcaadoor", sum := "979785fa1772899f557b6a9fb686787a602e337c52b514e625ee18d65b9e7146", func := "winnow/winnowlaw1.SpanMarked", spec := "spanMarked", inPlace := ["internal/bytealg.CountString", "internal/bytealg.IndexByteString", "internal/bytealg.IndexString", "internal/abi.NoEscape"], named := ["unicode/utf8.first", "unicode/utf8.acceptRanges", "internal/bytealg.MaxLen"], apart := false, laid := [("unicode/utf8.acceptRanges", laid_unicode_utf8_acceptRanges), ("unicode/utf8.first", laid_unicode_utf8_first)], narrowed := true }
def SpanMarkedUptoSaid : Prop := spanMarkedUptoRow.holds Tryd.pinned (OpenSpec.upto spanMarkedSpec)

/-- 'winnowlaw1.SpanNames', WHERE WHAT IT READS IS OF BULK AT MOST 1048576: true; the input reads as it did. -/
def spanNamesUptoRow : OpenClaim := { program := "ytdmdfcdfmedhcaadoor", sum := "979785fa1772899f557b6a9fb686787a602e337c52b514e625ee18d65b9e7146", func := "winnow/winnowlaw1.SpanNames", spec := "spanNames", inPlace := ["internal/bytealg.CountString", "internal/bytealg.IndexByteString", "internal/bytealg.IndexString"], named := ["unicode/utf8.first", "unicode/utf8.acceptRanges", "internal/bytealg.MaxLen"], apart := false, laid := [("unicode/utf8.acceptRanges", laid_unicode_utf8_acceptRanges), ("unicode/utf8.first", laid_unicode_utf8_first)], narrowed := true }
def SpanNamesUptoSaid : Prop := spanNamesUptoRow.holds Tryd.pinned (OpenSpec.upto spanNamesSpec)

/-- 'winnowlaw1.SpanErrors', WHERE WHAT IT READS IS OF BULK AT MOST 1048576: true; the input reads as it did. -/
def spanErrorsUptoRow : OpenClaim := { program := "ytdmdfcdfmedhcaadoor", sum := "979785fa1772899f557b6a9fb686787a602e337c52b514e625ee18d65b9e7146", func := "winnow/winnowlaw1.SpanErrors", spec := "spanErrors", inPlace := ["internal/bytealg.CountString", "internal/bytealg.IndexByteString", "internal/bytealg.IndexString", "internal/reflectlite.ValueOf", "(internal/reflectlite.Value).Type", "(internal/reflectlite.Value).IsNil", "internal/reflectlite.TypeOf", "(internal/reflectlite.Value).Elem", "(internal/reflectlite.Value).Set"], unfollowed := true, recurses := true, named := ["unicode/utf8.first", "unicode/utf8.acceptRanges", "internal/bytealg.MaxLen", "errors.errorType"], apart := false, laid := [("unicode/utf8.acceptRanges", laid_unicode_utf8_acceptRanges), ("errors.errorType", laid_errors_errorType), ("unicode/utf8.first", laid_unicode_utf8_first)], narrowed := true }
def SpanErrorsUptoSaid : Prop := spanErrorsUptoRow.holds Tryd.pinned (OpenSpec.upto spanErrorsSpec)

/-- 'winnowlaw1.SpanOwn', WHERE WHAT IT READS IS OF BULK AT MOST 1048576: true; the input reads as it did. -/
def spanOwnUptoRow : OpenClaim := { program := "ytdmdfcdfmedhcaadoor", sum := "979785fa1772899f557b6a9fb686787a602e337c52b514e625ee18d65b9e7146", func := "winnow/winnowlaw1.SpanOwn", spec := "spanOwn", inPlace := ["internal/bytealg.CountString", "internal/bytealg.IndexByteString", "internal/bytealg.IndexString", "internal/reflectlite.ValueOf", "(internal/reflectlite.Value).Type", "(internal/reflectlite.Value).IsNil", "internal/reflectlite.TypeOf", "(internal/reflectlite.Value).Elem", "(internal/reflectlite.Value).Set"], unfollowed := true, recurses := true, named := ["unicode/utf8.first", "unicode/utf8.acceptRanges", "internal/bytealg.MaxLen", "errors.errorType"], apart := false, laid := [("unicode/utf8.acceptRanges", laid_unicode_utf8_acceptRanges), ("errors.errorType", laid_errors_errorType), ("unicode/utf8.first", laid_unicode_utf8_first)], narrowed := true }
def SpanOwnUptoSaid : Prop := spanOwnUptoRow.holds Tryd.pinned (OpenSpec.upto spanOwnSpec)

end Rows
end Go.Proofs.YtdmdfcdfmedhcaaDoor
