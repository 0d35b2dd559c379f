/- Walks: what each function computes. -/
import Derived.Test.YtfokbedokggilaaDoorW1
import Derived.Test.YtfokbedokggilaaDoorCards
import Derived.Test.YtfokbedokggilaaDoorTie
import Derived.Deep.DeepHandedRow
import Derived.WalkKit
import Derived.ProofKit
set_option linter.all false
section
/- The seat of chapter 02: what the variables hold, how the parameters read. -/
namespace Go.Proofs.YtfokbedokggilaaDoor.Fin
open Go.ChangeShapes Go.WideShapes Go.ChangeAt Go.RowKit Go.Ab Go.Ab.R2
set_option maxRecDepth 100000
theorem own : ownKnob Tryd.prog.godebug = none := by kernel_rfl
theorem laidOut : laidOutB Tryd.prog = true := by kernel_rfl
def firstV : List Value := (List.range 256).map fun n => .int .u8 (firstI n)
def accV : List Value := [128, 191, 160, 191, 128, 159, 144, 191, 128, 143, 0, 0, 0, 0, 0, 0, 0, 0, 0, 0, 0, 0, 0, 0, 0, 0, 0, 0, 0, 0, 0, 0].map fun n => .int .u8 n
abbrev laid : List (String × DataW Unit) := [("unicode/utf8.acceptRanges", Rows.laid_unicode_utf8_acceptRanges), ("unicode/utf8.first", Rows.laid_unicode_utf8_first)]
theorem glob {W : World} (h : laidMetH Tryd.prog laid W) : ∀ i cs, En.G i = some cs → GlobR W (gInit W) i cs := by
  intro i cs hi
  match i, hi with
  | 0, hi =>
    have e : cs = firstV.map AV.sc := (Option.some.inj hi).symm.trans (by kernel_rfl)
    subst e
    exact glob_of_laid laidOut h rfl (name := "unicode/utf8.first") (d := Rows.laid_unicode_utf8_first) (t := 70) (List.mem_cons_of_mem _ List.mem_cons_self) (by kernel_rfl) (by kernel_rfl) (by kernel_rfl) (by kernel_rfl) (fun v hv => by
      obtain ⟨n, _, rfl⟩ := List.mem_map.1 hv; rfl)
  | 1, hi =>
    have e : cs = accV.map AV.sc := (Option.some.inj hi).symm.trans (by kernel_rfl)
    subst e
    exact glob_of_laid laidOut h rfl (name := "unicode/utf8.acceptRanges") (d := Rows.laid_unicode_utf8_acceptRanges) (t := 73) List.mem_cons_self (by kernel_rfl) (by kernel_rfl) (by kernel_rfl) (by kernel_rfl) (fun v hv => by
      obtain ⟨n, _, rfl⟩ := List.mem_map.1 hv; rfl)
  | n + 2, hi => cases hi

theorem rdInt : Rd Tryd.prog 3 vi (fun n => -9223372036854775808 ≤ n ∧ n ≤ 9223372036854775807) := Rd.int Tryd.underlying3
theorem rdI32 : Rd Tryd.prog 21 vr (fun n => -2147483648 ≤ n ∧ n ≤ 2147483647) := Rd.int Tryd.underlying21
theorem rdBytes : Rd Tryd.prog 22 (fun l : List Int => .sl 1 (l.map vu)) (fun l => By l ∧ l.length ≤ 9223372036854775807) :=
  (Rd.slice Tryd.underlying22 (sz := 1) (by kernel_rfl) (by decide) (fun _ _ => rfl) (Rd.int Tryd.underlying5)).map id (fun _ _ => rfl) (fun a h => ⟨fun n hn => by have := h.1 n hn; simp [IntKind.min, IntKind.max, IntKind.signed, IntKind.bits] at this; omega, h.2⟩)
theorem rdI32s : Rd Tryd.prog 44 (fun l : List Int => .sl 1 (l.map vr)) (fun l => (∀ n ∈ l, -2147483648 ≤ n ∧ n ≤ 2147483647) ∧ l.length ≤ 9223372036854775807) :=
  (Rd.slice Tryd.underlying44 (sz := 1) (by kernel_rfl) (by decide) (fun _ _ => rfl) rdI32)

/-- A world in which the variables hold what is laid. -/
def lay (vs : List Value) : Obj → Obj
  | .cells _ t frozen => .cells vs.toArray t frozen
  | o => o
noncomputable def laidWorld (os : Os) : World := { World.holding Tryd.prog os ⟨#[], #[], []⟩ with heap := ((World.holding Tryd.prog os ⟨#[], #[], []⟩).heap.modify 0 (lay firstV)).modify 1 (lay accV) }
theorem laid_met (os : Os) (args : Array Value) : laidMet Tryd.prog laid ((laidWorld os).forCall (fun _ _ => 0) ⟨#[], args, []⟩).memory :=
  laidMet_of_run' 8 (by kernel_rfl) (by kernel_rfl)
end Go.Proofs.YtfokbedokggilaaDoor.Fin
end
