/-
  DERIVED. GIVEN WITH THE SEED: THE CARDS: each row of YtfokbedokggilaaDoorRows.lean that lists a variable, with what it lists TIED to the program's text (the seventh form; the later family's looks); each row that meets fmt, with fmt's text TOLD by the authors' own Lean function (tested against real Go, not proved from fmt's source: count such statements apart). THE CARD IS WHAT COUNTS. Prove the row's statement (the work); the ties are given (YtfokbedokggilaaDoorTie.lean); close each card by the builder's one call (the guide's Derived/Test/ToyasCard.lean, 'card_holds'). Laid BY PROGRAM, IN A SANDBOX (cutbox-door.mjs). By AI agents, Wed Nov 11 2026. No macro, syntax, notation, axiom, sorry.
-/
import Derived.Test.YtfokbedokggilaaDoorRows
import GoSem.ClaimSeven
namespace Go.Proofs.YtfokbedokggilaaDoor
namespace Rows

/-- THE TIED CARD OF 'mummerlaw02.RunesDecodes'. -/
def runesDecodesCard : Claim7 := { stood := { row := runesDecodesRow, standIns := [], harness := (true, "cf2a5b514916ea35c768732a914abc69b0ed6ca0ace499999b52b80aed6fb8d8"), looks := false }, kinds := [], alts := [], laidByText := true, laidKinds := [.data, .pinned], laidTests := true, laidLooks := .later }
def RunesDecodesCardSaid : Prop := Claim7.holds Tryd.pinned (.plain (OpenSpec.ofChange runesDecodesSpec)) runesDecodesCard

/-- THE TIED CARD OF 'mummerlaw02.RunesClasses'. -/
def runesClassesCard : Claim7 := { stood := { row := runesClassesRow, standIns := [], harness := (true, "cf2a5b514916ea35c768732a914abc69b0ed6ca0ace499999b52b80aed6fb8d8"), looks := false }, kinds := [], alts := [], laidByText := true, laidKinds := [.data, .pinned], laidTests := true, laidLooks := .later }
def RunesClassesCardSaid : Prop := Claim7.holds Tryd.pinned (.plain (OpenSpec.ofChange runesClassesSpec)) runesClassesCard

/-- THE TIED CARD OF 'mummerlaw02.RunesStarts'. -/
def runesStartsCard : Claim7 := { stood := { row := runesStartsRow, standIns := [], harness := (true, "cf2a5b514916ea35c768732a914abc69b0ed6ca0ace499999b52b80aed6fb8d8"), looks := false }, kinds := [], alts := [], laidByText := true, laidKinds := [.data, .pinned], laidTests := true, laidLooks := .later }
def RunesStartsCardSaid : Prop := Claim7.holds Tryd.pinned (.plain (OpenSpec.ofChange runesStartsSpec)) runesStartsCard

/-- THE TIED CARD OF 'mummerlaw02.RunesOrder'. -/
def runesOrderCard : Claim7 := { stood := { row := runesOrderRow, standIns := [], harness := (true, "cf2a5b514916ea35c768732a914abc69b0ed6ca0ace499999b52b80aed6fb8d8"), looks := false }, kinds := [], alts := [], laidByText := true, laidKinds := [.data, .pinned], laidTests := true, laidLooks := .later }
def RunesOrderCardSaid : Prop := Claim7.holds Tryd.pinned (.plain (OpenSpec.ofChange runesOrderSpec)) runesOrderCard

/-- THE TIED CARD OF 'mummerlaw02.RunesKnown'. -/
def runesKnownCard : Claim7 := { stood := { row := runesKnownRow, standIns := [], harness := (true, "cf2a5b514916ea35c768732a914abc69b0ed6ca0ace499999b52b80aed6fb8d8"), looks := false }, kinds := [], alts := [], laidByText := true, laidKinds := [.data, .pinned], laidTests := true, laidLooks := .later }
def RunesKnownCardSaid : Prop := Claim7.holds Tryd.pinned (.plain (OpenSpec.ofChange runesKnownSpec)) runesKnownCard

/-- THE TIED CARD OF 'mummerlaw02.RunesBack'. -/
def runesBackCard : Claim7 := { stood := { row := runesBackRow, standIns := [], harness := (true, "cf2a5b514916ea35c768732a914abc69b0ed6ca0ace499999b52b80aed6fb8d8"), looks := false }, kinds := [], alts := [], laidByText := true, laidKinds := [.data, .pinned], laidTests := true, laidLooks := .later }
def RunesBackCardSaid : Prop := Claim7.holds Tryd.pinned (.plain (OpenSpec.ofChange runesBackSpec)) runesBackCard

/-- THE TIED CARD OF 'mummerlaw02.RunesTexts'. -/
def runesTextsCard : Claim7 := { stood := { row := runesTextsRow, standIns := [], harness := (true, "cf2a5b514916ea35c768732a914abc69b0ed6ca0ace499999b52b80aed6fb8d8"), looks := false }, kinds := [], alts := [], laidByText := true, laidKinds := [.data, .pinned], laidTests := true, laidLooks := .later }
def RunesTextsCardSaid : Prop := Claim7.holds Tryd.pinned (.plain (OpenSpec.ofChange runesTextsSpec)) runesTextsCard

/-- THE SECOND FORM's CARD OF 'mummerlaw02.RunesDecodes'. -/
def runesDecodesUptoCard : Claim7 := { stood := { row := runesDecodesUptoRow, standIns := [], harness := (true, "cf2a5b514916ea35c768732a914abc69b0ed6ca0ace499999b52b80aed6fb8d8"), looks := false }, kinds := [], alts := [], laidByText := true, laidKinds := [.data, .pinned], laidTests := true, laidLooks := .later }
def RunesDecodesUptoCardSaid : Prop := Claim7.holds Tryd.pinned (.plain (OpenSpec.upto runesDecodesSpec)) runesDecodesUptoCard

/-- THE SECOND FORM's CARD OF 'mummerlaw02.RunesClasses'. -/
def runesClassesUptoCard : Claim7 := { stood := { row := runesClassesUptoRow, standIns := [], harness := (true, "cf2a5b514916ea35c768732a914abc69b0ed6ca0ace499999b52b80aed6fb8d8"), looks := false }, kinds := [], alts := [], laidByText := true, laidKinds := [.data, .pinned], laidTests := true, laidLooks := .later }
def RunesClassesUptoCardSaid : Prop := Claim7.holds Tryd.pinned (.plain (OpenSpec.upto runesClassesSpec)) runesClassesUptoCard

/-- THE SECOND FORM's CARD OF 'mummerlaw02.RunesStarts'. -/
def runesStartsUptoCard : Claim7 := { stood := { row := runesStartsUptoRow, standIns := [], harness := (true, "cf2a5b514916ea35c768732a914abc69b0ed6ca0ace499999b52b80aed6fb8d8"), looks := false }, kinds := [], alts := [], laidByText := true, laidKinds := [.data, .pinned], laidTests := true, laidLooks := .later }
def RunesStartsUptoCardSaid : Prop := Claim7.holds Tryd.pinned (.plain (OpenSpec.upto runesStartsSpec)) runesStartsUptoCard

/-- THE SECOND FORM's CARD OF 'mummerlaw02.RunesOrder'. -/
def runesOrderUptoCard : Claim7 := { stood := { row := runesOrderUptoRow, standIns := [], harness := (true, "cf2a5b514916ea35c768732a914abc69b0ed6ca0ace499999b52b80aed6fb8d8"), looks := false }, kinds := [], alts := [], laidByText := true, laidKinds := [.data, .pinned], laidTests := true, laidLooks := .later }
def RunesOrderUptoCardSaid : Prop := Claim7.holds Tryd.pinned (.plain (OpenSpec.upto runesOrderSpec)) runesOrderUptoCard

/-- THE SECOND FORM's CARD OF 'mummerlaw02.RunesKnown'. -/
def runesKnownUptoCard : Claim7 := { stood := { row := runesKnownUptoRow, standIns := [], harness := (true, "cf2a5b514916ea35c768732a914abc69b0ed6ca0ace499999b52b80aed6fb8d8"), looks := false }, kinds := [], alts := [], laidByText := true, laidKinds := [.data, .pinned], laidTests := true, laidLooks := .later }
def RunesKnownUptoCardSaid : Prop := Claim7.holds Tryd.pinned (.plain (OpenSpec.upto runesKnownSpec)) runesKnownUptoCard

/-- THE SECOND FORM's CARD OF 'mummerlaw02.RunesBack'. -/
def runesBackUptoCard : Claim7 := { stood := { row := runesBackUptoRow, standIns := [], harness := (true, "cf2a5b514916ea35c768732a914abc69b0ed6ca0ace499999b52b80aed6fb8d8"), looks := false }, kinds := [], alts := [], laidByText := true, laidKinds := [.data, .pinned], laidTests := true, laidLooks := .later }
def RunesBackUptoCardSaid : Prop := Claim7.holds Tryd.pinned (.plain (OpenSpec.upto runesBackSpec)) runesBackUptoCard

/-- THE SECOND FORM's CARD OF 'mummerlaw02.RunesTexts'. -/
def runesTextsUptoCard : Claim7 := { stood := { row := runesTextsUptoRow, standIns := [], harness := (true, "cf2a5b514916ea35c768732a914abc69b0ed6ca0ace499999b52b80aed6fb8d8"), looks := false }, kinds := [], alts := [], laidByText := true, laidKinds := [.data, .pinned], laidTests := true, laidLooks := .later }
def RunesTextsUptoCardSaid : Prop := Claim7.holds Tryd.pinned (.plain (OpenSpec.upto runesTextsSpec)) runesTextsUptoCard
end Rows
end Go.Proofs.YtfokbedokggilaaDoor
