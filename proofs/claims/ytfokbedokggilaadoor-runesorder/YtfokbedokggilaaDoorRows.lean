/-
  NARROWER THAN 'FOR EVERY INPUT', by the rows' own cells (each row's printed sentence says how): RunesDecodes: laid · RunesClasses: laid · RunesStarts: laid · RunesOrder: laid · RunesKnown: laid · RunesBack: laid · RunesTexts: laid.
  DERIVED. THE GIVEN ROWS OF THIS SEAT. 7 by the template 'for every input the law returns true; each argument reads behind the call as it read before'; 0 by the template 'total and deterministic' (their statements: YtfokbedokggilaaDoorTotals.lean).
  GIVEN WITH THE SEED: the statements are not yours to turn. If you find one false, say at which input.
  Laid BY PROGRAM, IN A SANDBOX (cutbox-rows.mjs): the forced cells as the released guide's own fill.sh prints them over the translation bf57b83acae16515… (all of the seat's roots in one cut). By AI agents, Wed Nov 11 2026. No macro, syntax, notation, axiom, sorry.
-/
import Derived.Test.YtfokbedokggilaaDoorChecked
import GoSem.PinnedTables
import GoSem.Claim
import GoSem.ClaimJoined
import GoSem.ClaimMapViews
import Derived.JoinedTies
import Derived.KernelRfl
namespace Go.Proofs.YtfokbedokggilaaDoor
/- THE CELL 'sum', in the pinned program and in every row, IS THE sha256 OF THE DUMP (.gsa) THAT YtfokbedokggilaaDoorProg.lean LOADS. Nothing in Lean hashes anything: it is a label: what it is worth is what the hold of that sum in a sandbox is worth. -/
noncomputable def Tryd.pinned : Pinned := { name := "ytfokbedokggilaadoor", sum := "bf57b83acae16515e4599cd00b6bab2c4e502e455f41a282331f8b0c934807d9", checked := Tryd.checked }
namespace Rows
def none {H : Type} : Left H := { results := [], args := [] }

/- WHAT THE LISTED PACKAGE-LEVEL VARIABLES READ AS WHEN THE CALL BEGINS. Each datum BY PROGRAM (the guide's laid-datum.mjs) off the statement by which the dump's own 'gosem.cut.vars' lays the variable. In a bare row this is a premise. The card (YtfokbedokggilaaDoorCards.lean) ties it to the program's text. -/
def laid_unicode_utf8_acceptRanges {H : Type} : DataW H := .agg [.agg [.lit (.int .u8 128), .lit (.int .u8 191)], .agg [.lit (.int .u8 160), .lit (.int .u8 191)], .agg [.lit (.int .u8 128), .lit (.int .u8 159)], .agg [.lit (.int .u8 144), .lit (.int .u8 191)], .agg [.lit (.int .u8 128), .lit (.int .u8 143)], .agg [.lit (.int .u8 0), .lit (.int .u8 0)], .agg [.lit (.int .u8 0), .lit (.int .u8 0)], .agg [.lit (.int .u8 0), .lit (.int .u8 0)], .agg [.lit (.int .u8 0), .lit (.int .u8 0)], .agg [.lit (.int .u8 0), .lit (.int .u8 0)], .agg [.lit (.int .u8 0), .lit (.int .u8 0)], .agg [.lit (.int .u8 0), .lit (.int .u8 0)], .agg [.lit (.int .u8 0), .lit (.int .u8 0)], .agg [.lit (.int .u8 0), .lit (.int .u8 0)], .agg [.lit (.int .u8 0), .lit (.int .u8 0)], .agg [.lit (.int .u8 0), .lit (.int .u8 0)]]
/-- One of Go's own tables, pinned by name: the form's constant. -/
def laid_unicode_utf8_first : DataW Unit := Go.Pinned.utf8First

/-- 'mummerlaw02.RunesDecodes': WHATEVER THE INPUT: true; the input reads as it did. -/
def runesDecodesSpec : ChangeSpec := { name := "runesDecodes", fn := fun _ => fun
  | [d1, d2, d3] => { results := [.lit (.bool true)], args := [d1, d2, d3] }
  | _ => none }
def runesDecodesRow : OpenClaim := { program := "ytfokbedokggilaadoor", sum := "bf57b83acae16515e4599cd00b6bab2c4e502e455f41a282331f8b0c934807d9", func := "mummer/mummerlaw02.RunesDecodes", spec := "runesDecodes", unfollowed := true, recurses := true, named := ["unicode/utf8.first", "unicode/utf8.acceptRanges"], apart := false, laid := [("unicode/utf8.acceptRanges", laid_unicode_utf8_acceptRanges), ("unicode/utf8.first", laid_unicode_utf8_first)] }
def RunesDecodesSaid : Prop := runesDecodesRow.holds Tryd.pinned (OpenSpec.ofChange runesDecodesSpec)

/-- ITS FALSE NEIGHBOUR: 'it returns false'. Refute it at one input. -/
def runesDecodesWrong : ChangeSpec := { name := "runesDecodes", fn := fun _ => fun
  | [d1, d2, d3] => { results := [.lit (.bool false)], args := [d1, d2, d3] }
  | _ => none }
def RunesDecodesWrongFalsely : Prop := runesDecodesRow.holds Tryd.pinned (OpenSpec.ofChange runesDecodesWrong)

/-- 'mummerlaw02.RunesClasses': WHATEVER THE INPUT: true; the input reads as it did. -/
def runesClassesSpec : ChangeSpec := { name := "runesClasses", fn := fun _ => fun
  | [d] => { results := [.lit (.bool true)], args := [d] }
  | _ => none }
def runesClassesRow : OpenClaim := { program := "ytfokbedokggilaadoor", sum := "bf57b83acae16515e4599cd00b6bab2c4e502e455f41a282331f8b0c934807d9", func := "mummer/mummerlaw02.RunesClasses", spec := "runesClasses", unfollowed := true, recurses := true, named := ["unicode/utf8.first", "unicode/utf8.acceptRanges"], apart := false, laid := [("unicode/utf8.acceptRanges", laid_unicode_utf8_acceptRanges), ("unicode/utf8.first", laid_unicode_utf8_first)] }
def RunesClassesSaid : Prop := runesClassesRow.holds Tryd.pinned (OpenSpec.ofChange runesClassesSpec)

/-- ITS FALSE NEIGHBOUR: 'it returns false'. Refute it at one input. -/
def runesClassesWrong : ChangeSpec := { name := "runesClasses", fn := fun _ => fun
  | [d] => { results := [.lit (.bool false)], args := [d] }
  | _ => none }
def RunesClassesWrongFalsely : Prop := runesClassesRow.holds Tryd.pinned (OpenSpec.ofChange runesClassesWrong)

/-- 'mummerlaw02.RunesStarts': WHATEVER THE INPUT: true; the input reads as it did. -/
def runesStartsSpec : ChangeSpec := { name := "runesStarts", fn := fun _ => fun
  | [d1, d2] => { results := [.lit (.bool true)], args := [d1, d2] }
  | _ => none }
def runesStartsRow : OpenClaim := { program := "ytfokbedokggilaadoor", sum := "bf57b83acae16515e4599cd00b6bab2c4e502e455f41a282331f8b0c934807d9", func := "mummer/mummerlaw02.RunesStarts", spec := "runesStarts", unfollowed := true, recurses := true, named := ["unicode/utf8.first", "unicode/utf8.acceptRanges"], apart := false, laid := [("unicode/utf8.acceptRanges", laid_unicode_utf8_acceptRanges), ("unicode/utf8.first", laid_unicode_utf8_first)] }
def RunesStartsSaid : Prop := runesStartsRow.holds Tryd.pinned (OpenSpec.ofChange runesStartsSpec)

/-- ITS FALSE NEIGHBOUR: 'it returns false'. Refute it at one input. -/
def runesStartsWrong : ChangeSpec := { name := "runesStarts", fn := fun _ => fun
  | [d1, d2] => { results := [.lit (.bool false)], args := [d1, d2] }
  | _ => none }
def RunesStartsWrongFalsely : Prop := runesStartsRow.holds Tryd.pinned (OpenSpec.ofChange runesStartsWrong)

/-- 'mummerlaw02.RunesOrder': WHATEVER THE INPUT: true; the input reads as it did. -/
def runesOrderSpec : ChangeSpec := { name := "runesOrder", fn := fun _ => fun
  | [d1, d2, d3] => { results := [.lit (.bool true)], args := [d1, d2, d3] }
  | _ => none }
def runesOrderRow : OpenClaim := { program := "ytfokbedokggilaadoor", sum := "bf57b83acae16515e4599cd00b6bab2c4e502e455f41a282331f8b0c934807d9", func := "mummer/mummerlaw02.RunesOrder", spec := "runesOrder", unfollowed := true, recurses := true, named := ["unicode/utf8.first", "unicode/utf8.acceptRanges"], apart := false, laid := [("unicode/utf8.acceptRanges", laid_unicode_utf8_acceptRanges), ("unicode/utf8.first", laid_unicode_utf8_first)] }
def RunesOrderSaid : Prop := runesOrderRow.holds Tryd.pinned (OpenSpec.ofChange runesOrderSpec)

/-- ITS FALSE NEIGHBOUR: 'it returns false'. Refute it at one input. -/
def runesOrderWrong : ChangeSpec := { name := "runesOrder", fn := fun _ => fun
  | [d1, d2, d3] => { results := [.lit (.bool false)], args := [d1, d2, d3] }
  | _ => none }
def RunesOrderWrongFalsely : Prop := runesOrderRow.holds Tryd.pinned (OpenSpec.ofChange runesOrderWrong)

/-- 'mummerlaw02.RunesKnown': WHATEVER THE INPUT: true; the input reads as it did. -/
def runesKnownSpec : ChangeSpec := { name := "runesKnown", fn := fun _ => fun
  | [] => { results := [.lit (.bool true)], args := [] }
  | _ => none }
def runesKnownRow : OpenClaim := { program := "ytfokbedokggilaadoor", sum := "bf57b83acae16515e4599cd00b6bab2c4e502e455f41a282331f8b0c934807d9", func := "mummer/mummerlaw02.RunesKnown", spec := "runesKnown", unfollowed := true, recurses := true, named := ["unicode/utf8.first", "unicode/utf8.acceptRanges"], apart := false, laid := [("unicode/utf8.acceptRanges", laid_unicode_utf8_acceptRanges), ("unicode/utf8.first", laid_unicode_utf8_first)] }
def RunesKnownSaid : Prop := runesKnownRow.holds Tryd.pinned (OpenSpec.ofChange runesKnownSpec)

/-- ITS FALSE NEIGHBOUR: 'it returns false'. Refute it at one input. -/
def runesKnownWrong : ChangeSpec := { name := "runesKnown", fn := fun _ => fun
  | [] => { results := [.lit (.bool false)], args := [] }
  | _ => none }
def RunesKnownWrongFalsely : Prop := runesKnownRow.holds Tryd.pinned (OpenSpec.ofChange runesKnownWrong)

/-- 'mummerlaw02.RunesBack': WHATEVER THE INPUT: true; the input reads as it did. -/
def runesBackSpec : ChangeSpec := { name := "runesBack", fn := fun _ => fun
  | [d1, d2, d3] => { results := [.lit (.bool true)], args := [d1, d2, d3] }
  | _ => none }
def runesBackRow : OpenClaim := { program := "ytfokbedokggilaadoor", sum := "bf57b83acae16515e4599cd00b6bab2c4e502e455f41a282331f8b0c934807d9", func := "mummer/mummerlaw02.RunesBack", spec := "runesBack", unfollowed := true, recurses := true, named := ["unicode/utf8.first", "unicode/utf8.acceptRanges"], apart := false, laid := [("unicode/utf8.acceptRanges", laid_unicode_utf8_acceptRanges), ("unicode/utf8.first", laid_unicode_utf8_first)] }
def RunesBackSaid : Prop := runesBackRow.holds Tryd.pinned (OpenSpec.ofChange runesBackSpec)

/-- ITS FALSE NEIGHBOUR: 'it returns false'. Refute it at one input. -/
def runesBackWrong : ChangeSpec := { name := "runesBack", fn := fun _ => fun
  | [d1, d2, d3] => { results := [.lit (.bool false)], args := [d1, d2, d3] }
  | _ => none }
def RunesBackWrongFalsely : Prop := runesBackRow.holds Tryd.pinned (OpenSpec.ofChange runesBackWrong)

/-- 'mummerlaw02.RunesTexts': WHATEVER THE INPUT: true; the input reads as it did. -/
def runesTextsSpec : ChangeSpec := { name := "runesTexts", fn := fun _ => fun
  | [d1, d2] => { results := [.lit (.bool true)], args := [d1, d2] }
  | _ => none }
def runesTextsRow : OpenClaim := { program := "ytfokbedokggilaadoor", sum := "bf57b83acae16515e4599cd00b6bab2c4e502e455f41a282331f8b0c934807d9", func := "mummer/mummerlaw02.RunesTexts", spec := "runesTexts", unfollowed := true, recurses := true, named := ["unicode/utf8.first", "unicode/utf8.acceptRanges"], apart := false, laid := [("unicode/utf8.acceptRanges", laid_unicode_utf8_acceptRanges), ("unicode/utf8.first", laid_unicode_utf8_first)] }
def RunesTextsSaid : Prop := runesTextsRow.holds Tryd.pinned (OpenSpec.ofChange runesTextsSpec)

/-- ITS FALSE NEIGHBOUR: 'it returns false'. Refute it at one input. -/
def runesTextsWrong : ChangeSpec := { name := "runesTexts", fn := fun _ => fun
  | [d1, d2] => { results := [.lit (.bool false)], args := [d1, d2] }
  | _ => none }
def RunesTextsWrongFalsely : Prop := runesTextsRow.holds Tryd.pinned (OpenSpec.ofChange runesTextsWrong)

/- THE SECOND FORM. 'bulk': how many values and letters a reading holds, each counted each time it is reached (what is shared counts as often as it is met; a slice's spare places count too). A statement '..UptoSaid' is the law's where the arguments, and the package variables that the reading takes, are together of bulk at most 1048576: NARROWER than '..Said'. Prove '..Said' where nothing that the law and all that it calls make is longer than what came in: it says more and counts as full. Else prove '..UptoSaid'. A law counts once. -/
mutual
def uptoBulk {H : Type} : DataW H → Nat
  | .lit (.string bytes) => bytes.length + 1
  | .lit _ => 1
  | .nil => 1
  | .ptr d => uptoBulk d + 1
  | .slice elems spare => uptoBulkAll elems + uptoBulkAll spare + 1
  | .agg parts => uptoBulkAll parts + 1
  | .iface _ d => uptoBulk d + 1
  | .map entries => uptoBulkEntries entries + 1
  | .held _ => 1
def uptoBulkAll {H : Type} : List (DataW H) → Nat
  | [] => 0
  | d :: r => uptoBulk d + uptoBulkAll r
def uptoBulkEntries {H : Type} : List (Lit × DataW H) → Nat
  | [] => 0
  | x :: r => uptoBulkEntry x + uptoBulkEntries r
def uptoBulkEntry {H : Type} : Lit × DataW H → Nat
  | (.string bytes, d) => bytes.length + uptoBulk d + 1
  | (_, d) => uptoBulk d + 1
 end
def uptoSmall : (H : Type) → List (DataW H) → Bool := fun _ ds => decide (uptoBulkAll ds ≤ 1048576)
def OpenSpec.upto (s : _root_.Go.ChangeSpec) : _root_.Go.OpenSpec := { _root_.Go.OpenSpec.ofChange s with cond := some uptoSmall }

/-- 'mummerlaw02.RunesDecodes', WHERE WHAT IT READS IS OF BULK AT MOST 1048576: true; the input reads as it did. -/
def runesDecodesUptoRow : OpenClaim := { program := "ytfokbedokggilaadoor", sum := "bf57b83acae16515e4599cd00b6bab2c4e502e455f41a282331f8b0c934807d9", func := "mummer/mummerlaw02.RunesDecodes", spec := "runesDecodes", unfollowed := true, recurses := true, named := ["unicode/utf8.first", "unicode/utf8.acceptRanges"], apart := false, laid := [("unicode/utf8.acceptRanges", laid_unicode_utf8_acceptRanges), ("unicode/utf8.first", laid_unicode_utf8_first)], narrowed := true }
def RunesDecodesUptoSaid : Prop := runesDecodesUptoRow.holds Tryd.pinned (OpenSpec.upto runesDecodesSpec)

/-- 'mummerlaw02.RunesClasses', WHERE WHAT IT READS IS OF BULK AT MOST 1048576: true; the input reads as it did. -/
def runesClassesUptoRow : OpenClaim := { program := "ytfokbedokggilaadoor", sum := "bf57b83acae16515e4599cd00b6bab2c4e502e455f41a282331f8b0c934807d9", func := "mummer/mummerlaw02.RunesClasses", spec := "runesClasses", unfollowed := true, recurses := true, named := ["unicode/utf8.first", "unicode/utf8.acceptRanges"], apart := false, laid := [("unicode/utf8.acceptRanges", laid_unicode_utf8_acceptRanges), ("unicode/utf8.first", laid_unicode_utf8_first)], narrowed := true }
def RunesClassesUptoSaid : Prop := runesClassesUptoRow.holds Tryd.pinned (OpenSpec.upto runesClassesSpec)

/-- 'mummerlaw02.RunesStarts', WHERE WHAT IT READS IS OF BULK AT MOST 1048576: true; the input reads as it did. -/
def runesStartsUptoRow : OpenClaim := { program := "ytfokbedokggilaadoor", sum := "bf57b83acae16515e4599cd00b6bab2c4e502e455f41a282331f8b0c934807d9", func := "mummer/mummerlaw02.RunesStarts", spec := "runesStarts", unfollowed := true, recurses := true, named := ["unicode/utf8.first", "unicode/utf8.acceptRanges"], apart := false, laid := [("unicode/utf8.acceptRanges", laid_unicode_utf8_acceptRanges), ("unicode/utf8.first", laid_unicode_utf8_first)], narrowed := true }
def RunesStartsUptoSaid : Prop := runesStartsUptoRow.holds Tryd.pinned (OpenSpec.upto runesStartsSpec)

/-- 'mummerlaw02.RunesOrder', WHERE WHAT IT READS IS OF BULK AT MOST 1048576: true; the input reads as it did. -/
def runesOrderUptoRow : OpenClaim := { program := "ytfokbedokggilaadoor", sum := "bf57b83acae16515e4599cd00b6bab2c4e502e455f41a282331f8b0c934807d9", func := "mummer/mummerlaw02.RunesOrder", spec := "runesOrder", unfollowed := true, recurses := true, named := ["unicode/utf8.first", "unicode/utf8.acceptRanges"], apart := false, laid := [("unicode/utf8.acceptRanges", laid_unicode_utf8_acceptRanges), ("unicode/utf8.first", laid_unicode_utf8_first)], narrowed := true }
def RunesOrderUptoSaid : Prop := runesOrderUptoRow.holds Tryd.pinned (OpenSpec.upto runesOrderSpec)

/-- 'mummerlaw02.RunesKnown', WHERE WHAT IT READS IS OF BULK AT MOST 1048576: true; the input reads as it did. -/
def runesKnownUptoRow : OpenClaim := { program := "ytfokbedokggilaadoor", sum := "bf57b83acae16515e4599cd00b6bab2c4e502e455f41a282331f8b0c934807d9", func := "mummer/mummerlaw02.RunesKnown", spec := "runesKnown", unfollowed := true, recurses := true, named := ["unicode/utf8.first", "unicode/utf8.acceptRanges"], apart := false, laid := [("unicode/utf8.acceptRanges", laid_unicode_utf8_acceptRanges), ("unicode/utf8.first", laid_unicode_utf8_first)], narrowed := true }
def RunesKnownUptoSaid : Prop := runesKnownUptoRow.holds Tryd.pinned (OpenSpec.upto runesKnownSpec)

/-- 'mummerlaw02.RunesBack', WHERE WHAT IT READS IS OF BULK AT MOST 1048576: true; the input reads as it did. -/
def runesBackUptoRow : OpenClaim := { program := "ytfokbedokggilaadoor", sum := "bf57b83acae16515e4599cd00b6bab2c4e502e455f41a282331f8b0c934807d9", func := "mummer/mummerlaw02.RunesBack", spec := "runesBack", unfollowed := true, recurses := true, named := ["unicode/utf8.first", "unicode/utf8.acceptRanges"], apart := false, laid := [("unicode/utf8.acceptRanges", laid_unicode_utf8_acceptRanges), ("unicode/utf8.first", laid_unicode_utf8_first)], narrowed := true }
def RunesBackUptoSaid : Prop := runesBackUptoRow.holds Tryd.pinned (OpenSpec.upto runesBackSpec)

/-- 'mummerlaw02.RunesTexts', WHERE WHAT IT READS IS OF BULK AT MOST 1048576: true; the input reads as it did. -/
def runesTextsUptoRow : OpenClaim := { program := "ytfokbedokggilaadoor", sum := "bf57b83acae16515e4599cd00b6bab2c4e502e455f41a282331f8b0c934807d9", func := "mummer/mummerlaw02.RunesTexts", spec := "runesTexts", unfollowed := true, recurses := true, named := ["unicode/utf8.first", "unicode/utf8.acceptRanges"], apart := false, laid := [("unicode/utf8.acceptRanges", laid_unicode_utf8_acceptRanges), ("unicode/utf8.first", laid_unicode_utf8_first)], narrowed := true }
def RunesTextsUptoSaid : Prop := runesTextsUptoRow.holds Tryd.pinned (OpenSpec.upto runesTextsSpec)

end Rows
end Go.Proofs.YtfokbedokggilaaDoor
