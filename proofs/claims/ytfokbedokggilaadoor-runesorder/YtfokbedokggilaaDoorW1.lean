/- Walks: what each function computes. -/
import Derived.Test.YtfokbedokggilaaDoorK12
import Derived.Test.YtfokbedokggilaaDoorProg
import Derived.KernelRfl
set_option linter.all false
section
namespace Go.Ab.R2
open Go.Proofs Go.Ab
set_option linter.unusedSimpArgs false

/-- A byte, a rune, an int. -/
def U8 (n : Int) : AV := .sc (.int .u8 n)
def I32 (n : Int) : AV := .sc (.int .i32 n)
def I64 (n : Int) : AV := .sc (.int .i64 n)

def firstI (n : Nat) : Int := if n < 128 then 240 else if n < 194 then 241 else if n < 224 then 2 else if n = 224 then 19 else if n < 237 then 3 else if n = 237 then 35 else if n < 240 then 3 else if n = 240 then 52 else if n < 244 then 4 else if n = 244 then 68 else 241
def firstL : List AV := (List.range 256).map fun n => U8 (firstI n)
def accL : List AV := [U8 128, U8 191, U8 160, U8 191, U8 128, U8 159, U8 144, U8 191, U8 128, U8 143, U8 0, U8 0, U8 0, U8 0, U8 0, U8 0, U8 0, U8 0, U8 0, U8 0, U8 0, U8 0, U8 0, U8 0, U8 0, U8 0, U8 0, U8 0, U8 0, U8 0, U8 0, U8 0]
noncomputable def En : Env := { P := Tryd.prog, G := fun i => match i with
  | 0 => some firstL
  | 1 => some accL
  | _ => none }
theorem hm : En.P.follows .mixedOrders = true := by kernel_rfl
theorem g0 : En.G 0 = some firstL := rfl
theorem g1 : En.G 1 = some accL := rfl

theorem el22 : elemOf En.P 22 = some 1 := by kernel_rfl
theorem el34 : elemOf En.P 34 = some 1 := by kernel_rfl
theorem el44 : elemOf En.P 44 = some 1 := by kernel_rfl
theorem el70 : elemOf En.P 70 = none := by kernel_rfl
theorem el73 : elemOf En.P 73 = none := by kernel_rfl
theorem ar70 : arrOf En.P 70 = some (256, 1) := by kernel_rfl
theorem ar73 : arrOf En.P 73 = some (16, 2) := by kernel_rfl
theorem sh3 : shapeOf En.P 3 = some (false, 1) := by kernel_rfl
theorem sh5 : shapeOf En.P 5 = some (false, 1) := by kernel_rfl
theorem sh21 : shapeOf En.P 21 = some (false, 1) := by kernel_rfl
theorem sh72 : shapeOf En.P 72 = some (true, 2) := by kernel_rfl
theorem fd72a : fieldOf En.P 72 0 = some (0, false, 1) := by kernel_rfl
theorem fd72b : fieldOf En.P 72 1 = some (1, false, 1) := by kernel_rfl
theorem zv72 : (En.P.info? 72).bind (·.zero) = some (.agg #[.int .u8 0, .int .u8 0]) := by kernel_rfl
theorem hi72 : hints En.P 9 72 = [none, none] := by kernel_rfl
theorem un5 : En.P.underlying 5 = some (.int .u8) := by kernel_rfl
theorem un21 : En.P.underlying 21 = some (.int .i32) := by kernel_rfl
theorem un3 : En.P.underlying 3 = some (.int .i64) := by kernel_rfl

def valid (r : Int) : Bool := decide (0 ≤ r ∧ r < 55296 ∨ 57343 < r ∧ r ≤ 1114111)
theorem valid_t {r : Int} (h : 0 ≤ r ∧ r < 55296 ∨ 57343 < r ∧ r ≤ 1114111) : valid r = true := decide_eq_true h
theorem valid_f {r : Int} (h : ¬ (0 ≤ r ∧ r < 55296 ∨ 57343 < r ∧ r ≤ 1114111)) : valid r = false := decide_eq_false h

theorem validRune (r : Int) : ACall En 51 ⟨1, [(0, I32 r)], [], [], []⟩ (Ret ⟨1, [(0, .sc (.bool (valid r)))], [], [], []⟩) := by
  refine ACall.go (pol := {}) (fn := Tryd.f51) (n := 17) (rs := [.tmp 2]) (nb := 0) Tryd.func51 rfl rfl rfl rfl rfl rfl ?_
  simp only [ab, ad, ae, al, if_true, if_false, Nat.reduceEqDiff, Nat.reduceLT, Nat.reduceSub, Nat.reduceAdd, Nat.reduceMul, Nat.reduceLeDiff, Bool.false_eq_true, List.length_map, List.length_cons, List.length_nil, I32]
  refine gob_d (fun h1 => ?_) (fun h1 => ?_) <;> simp only [ab, ad, ae, al, if_true, if_false, Nat.reduceEqDiff, Nat.reduceLT, Nat.reduceSub, Nat.reduceAdd, Nat.reduceMul, Nat.reduceLeDiff, Bool.false_eq_true, List.length_map, List.length_cons, List.length_nil, h1]
  · refine godb_d (fun h2 => ?_) (fun h2 => ?_) <;> simp only [ab, ad, ae, al, if_true, if_false, Nat.reduceEqDiff, Nat.reduceLT, Nat.reduceSub, Nat.reduceAdd, Nat.reduceMul, Nat.reduceLeDiff, Bool.false_eq_true, List.length_map, List.length_cons, List.length_nil, h2]
    · rw [valid_t (by omega)]
    · refine gob_d (fun h3 => ?_) (fun h3 => ?_) <;> simp only [ab, ad, ae, al, if_true, if_false, Nat.reduceEqDiff, Nat.reduceLT, Nat.reduceSub, Nat.reduceAdd, Nat.reduceMul, Nat.reduceLeDiff, Bool.false_eq_true, List.length_map, List.length_cons, List.length_nil, h3]
      · refine godb_d (fun h4 => ?_) (fun h4 => ?_) <;> simp only [ab, ad, ae, al, if_true, if_false, Nat.reduceEqDiff, Nat.reduceLT, Nat.reduceSub, Nat.reduceAdd, Nat.reduceMul, Nat.reduceLeDiff, Bool.false_eq_true, List.length_map, List.length_cons, List.length_nil, h4]
        · rw [valid_t (by omega)]
        · rw [valid_f (by omega)]
      · rw [valid_f (by omega)]
  · refine gob_d (fun h3 => ?_) (fun h3 => ?_) <;> simp only [ab, ad, ae, al, if_true, if_false, Nat.reduceEqDiff, Nat.reduceLT, Nat.reduceSub, Nat.reduceAdd, Nat.reduceMul, Nat.reduceLeDiff, Bool.false_eq_true, List.length_map, List.length_cons, List.length_nil, h3]
    · refine godb_d (fun h4 => ?_) (fun h4 => ?_) <;> simp only [ab, ad, ae, al, if_true, if_false, Nat.reduceEqDiff, Nat.reduceLT, Nat.reduceSub, Nat.reduceAdd, Nat.reduceMul, Nat.reduceLeDiff, Bool.false_eq_true, List.length_map, List.length_cons, List.length_nil, h4]
      · rw [valid_t (by omega)]
      · rw [valid_f (by omega)]
    · rw [valid_f (by omega)]

theorem isRune (r : Int) : ACall En 37 ⟨1, [(0, I32 r)], [], [], []⟩ (Ret ⟨1, [(0, .sc (.bool (valid r)))], [], [], []⟩) := by
  refine ACall.go (pol := {}) (fn := Tryd.f37) (n := 5) (rs := [.tmp 2]) (nb := 0) Tryd.func37 rfl rfl rfl rfl rfl rfl ?_
  simp only [ab, ad, ac, ae, al, if_true, if_false, Nat.reduceEqDiff, Nat.reduceLT, Nat.reduceSub, Nat.reduceAdd, Nat.reduceMul, Nat.reduceLeDiff, Bool.false_eq_true, List.length_map, List.length_cons, List.length_nil, List.contains_nil, List.contains_cons, List.nil_append, List.cons_append, List.append_nil, Nat.max_self, Nat.zero_max, Nat.max_zero, bne_self_eq_false, Nat.reduceBEq, Nat.reduceBNe, Bool.or_false, Bool.or_true, List.map_nil, List.map_cons, List.foldl_nil, List.all_nil, List.all_cons, or_true, true_or, and_true, true_and, and_self, I32]
  refine gocb_ret (validRune r) rfl (Nat.le_of_ble_eq_true rfl) (fun _ => rfl) ?_
  simp only [ab, ad, ac, ae, al, if_true, if_false, Nat.reduceEqDiff, Nat.reduceLT, Nat.reduceSub, Nat.reduceAdd, Nat.reduceMul, Nat.reduceLeDiff, Bool.false_eq_true, List.length_map, List.length_cons, List.length_nil, List.contains_nil, List.contains_cons, List.nil_append, List.cons_append, List.append_nil, Nat.max_self, Nat.zero_max, Nat.max_zero, bne_self_eq_false, Nat.reduceBEq, Nat.reduceBNe, Bool.or_false, Bool.or_true, List.map_nil, List.map_cons, List.foldl_nil, List.all_nil, List.all_cons, or_true, true_or, and_true, true_and, and_self]
end Go.Ab.R2
end
