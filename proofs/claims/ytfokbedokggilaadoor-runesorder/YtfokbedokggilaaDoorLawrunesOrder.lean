/-
  RunesOrder (mummerlaw02) returns true at every input: bytes of runes are ordered as runes are; a text is cut at its starts and nowhere else. Condition: the tied tables of unicode/utf8 hold what the library lays.
-/
import Derived.Test.YtfokbedokggilaaDoorW17
set_option linter.all false
namespace Go.Proofs.YtfokbedokggilaaDoor.runesOrder
open Go.ChangeShapes Go.WideShapes Go.ChangeAt Go.RowKit Go.Ab Go.Ab.R2 Go.Proofs.YtfokbedokggilaaDoor.Fin
set_option maxRecDepth 100000
theorem contract (H : Type) (enc : TypeId × Value → H) (W : World) (base : Nat) (args : Array Value) (ds gs : List (DataW H)) (before : List MemPlace)
    (hval : ∀ (j : Nat) t v, Tryd.f6.params[j]? = some t → args[j]? = some v → Value.okWide Tryd.prog W .any base t v)
    (hW : DataW.Whole enc Tryd.prog Tryd.f6.params.toList Rows.runesOrderSpec.vars false W args.toList ds gs before) (hL : laidMetH Tryd.prog laid W) :
    Calls Tryd.prog 6 args W fun e W' => ∃ v, e = .returned v ∧ Rows.runesOrderSpec.post enc Tryd.prog Tryd.f6 false true false false W args v W' := by
  have hW' := hW
  obtain ⟨p, q, hA, hV, rfl, _, _⟩ := hW
  have hval' : ∀ (j : Nat) t v, Tryd.f6.params.toList[j]? = some t → args.toList[j]? = some v → Value.okWide Tryd.prog W .any base t v := fun j t v h1 h2 => hval j t v (by rw [← Array.getElem?_toList]; exact h1) (by rw [← Array.getElem?_toList]; exact h2)
  rw [show Tryd.f6.params.toList = [21, 21, 22] from by rw [Tryd.params6]] at hA hval'
  obtain ⟨a1, v1, vs1, e1, ok1, r1, ⟨ds1, ps1, hA⟩, hval'⟩ := args_cons hA hval' rdI32 (fun _ _ => by rw [Tryd.underlying21]; rfl)
  obtain ⟨a2, v2, vs2, e2, ok2, r2, ⟨ds2, ps2, hA⟩, hval'⟩ := args_cons hA hval' rdI32 (fun _ _ => by rw [Tryd.underlying21]; rfl)
  obtain ⟨a3, v3, vs3, e3, ok3, r3, ⟨ds3, ps3, hA⟩, hval'⟩ := args_cons hA hval' rdBytes (fun _ _ => by rw [Tryd.underlying22]; rfl)
  obtain ⟨e4, _, _⟩ := trodAll_nil hA
  have hargs : ArgsR W [vr a1, vr a2, .sl 1 (a3.map vu)] args.toList := by
    rw [e1, e2, e3, e4]
    exact .cons r1 (.cons r2 (.cons r3 (.nil)))
  refine (law_calls (C := En) (f6 rfl ok3.1) hargs (glob hL)).mono fun e W' ⟨he, hg⟩ => ?_
  subst he
  exact ⟨_, rfl, post_true (tb := 4) laidOut rfl (fun ds h => by
    match ds, h with
    | [d1, d2, d3], _ => rfl) (by rw [Tryd.params6]; kernel_rfl) (by kernel_rfl) Tryd.underlying4 hW' hg⟩
theorem reads (os : Os) {H : Type} (enc : TypeId × Value → H) : ∃ places, DataW.whole enc Tryd.prog ((laidWorld os).forCall (fun _ _ => 0) ⟨#[], #[.int .i32 0, .int .i32 0, .slice none 0 0], []⟩).memory Tryd.f6.params.toList Rows.runesOrderSpec.vars false (#[.int .i32 0, .int .i32 0, .slice none 0 0] : Array Value).toList 8 = some ([.lit (.int .i32 0), .lit (.int .i32 0), .nil], [], places) :=
  ⟨[], by kernel_rfl⟩
theorem lifted (os : Os) (started : os.Started) (H : Type) (enc : TypeId × Value → H) (F : Stop.Interp) :
    ReturnsInHanded {} Tryd.checked os 6 .any ((OpenSpec.ofChange Rows.runesOrderSpec).preRow enc Tryd.prog Tryd.f6 Rows.runesOrderRow.domain false Rows.runesOrderRow.laid) (((OpenSpec.ofChange Rows.runesOrderSpec).at F).post enc Tryd.prog Tryd.f6 false true false false) := by
  obtain ⟨places, hx⟩ := reads os enc
  refine returnsInHanded_of_row (C := Tryd.checked) (s := OpenSpec.ofChange Rows.runesOrderSpec) own started (by kernel_rfl) Tryd.func6
    (witness_row_at (enc := enc) (C := Tryd.checked) false (laidWorld os) #[.int .i32 0, .int .i32 0, .slice none 0 0] rfl (by kernel_rfl) (by kernel_rfl) (by kernel_rfl)
      (OpenSpec.preRow_of_cond 8 hx (by kernel_rfl) (fun k hk => by cases hk) (by kernel_rfl) (laid_met os _))) ?_
  intro W base args ds gs before hval hW _ _ _ hL _ _
  exact contract H enc W base args ds gs before hval hW hL
theorem said : Rows.RunesOrderSaid :=
  OpenClaim.holds_of_cond 6 Tryd.f6 rfl rfl rfl rfl rfl rfl rfl ⟨rfl, rfl, rfl, rfl, rfl⟩ rfl rfl rfl rfl rfl (by kernel_rfl) Tryd.func6 (by kernel_rfl)
    (of_decide_eq_true (by kernel_rfl)) (by unfold Func.isWrapper; first | (rw [if_pos (by decide +kernel)]; kernel_rfl) | (rw [if_neg (by decide +kernel)]; exact ⟨rfl, rfl⟩))
    (fun os started H enc _ F => by rw [OpenClaim.pre_eq_preRow]; exact lifted os started H enc F)
theorem plain (f : FuncId) (fn : Func) (hf : Tryd.pinned.checked.prog.funcNamed "mummer/mummerlaw02.RunesOrder" = some f) (hfn : Tryd.pinned.checked.prog.funcs[f]? = some fn) :
    false = Tryd.pinned.checked.prog.looks [] ∧ ∀ (j : Nat) t, fn.params[j]? = some t → Tryd.pinned.checked.prog.wantsStandIn t = false := by
  obtain rfl : f = 6 := Option.some.inj ((show Tryd.prog.funcNamed "mummer/mummerlaw02.RunesOrder" = some 6 by kernel_rfl).symm.trans hf) |>.symm
  obtain rfl : fn = Tryd.f6 := (Option.some.inj (Tryd.func6.symm.trans hfn)).symm
  refine ⟨by kernel_rfl, fun j t ht => ?_⟩
  have h : (Tryd.f6.params.toList.all fun t => Tryd.prog.wantsStandIn t == false) = true := by rw [Tryd.params6]; kernel_rfl
  have h2 := List.all_eq_true.1 h t (List.mem_of_getElem? (i := j) (by rw [Array.getElem?_toList]; exact ht))
  exact eq_of_beq h2
theorem card : Rows.RunesOrderCardSaid :=
  Claim7.holds_tied_plain_at .later [] _ _ _ _ said (fun _ h => by cases h) (by kernel_rfl) (fun _ h => by cases h) runesOrder_row_tie rfl ⟨rfl, rfl⟩ (by kernel_rfl) rfl plain (by kernel_rfl)
#print axioms card
end Go.Proofs.YtfokbedokggilaaDoor.runesOrder
