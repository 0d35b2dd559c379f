/- Walks: what each function computes. -/
import Derived.Test.YtfokbedokggilaaDoorW10
set_option linter.all false
section
namespace Go.Ab.R2
open Go.Proofs Go.Ab Go.Ab.C2
set_option linter.unusedSimpArgs false
set_option linter.unusedVariables false
set_option maxRecDepth 10000
set_option maxHeartbeats 2000000
/-- The rune that some bytes are. -/
def std : List Int → Option Int
  | [a] => if a < 128 then some a else none
  | [a, b] => if (194 ≤ a ∧ a < 224) ∧ 128 ≤ b ∧ b < 192 then some ((a - 192) * 64 + (b - 128)) else none
  | [a, b, c] => if (224 ≤ a ∧ a < 240) ∧ (128 ≤ b ∧ b < 192) ∧ (128 ≤ c ∧ c < 192) ∧ (a = 224 → 160 ≤ b) ∧ (a = 237 → b < 160) then some (((a - 224) * 64 + (b - 128)) * 64 + (c - 128)) else none
  | [a, b, c, d] => if (240 ≤ a ∧ a < 245) ∧ (128 ≤ b ∧ b < 192) ∧ (128 ≤ c ∧ c < 192) ∧ (128 ≤ d ∧ d < 192) ∧ (a = 240 → 144 ≤ b) ∧ (a = 244 → b < 144) then some ((((a - 240) * 64 + (b - 128)) * 64 + (c - 128)) * 64 + (d - 128)) else none
  | _ => none
theorem std_of {y : List Int} (hy : By y) (h1 : 1 ≤ y.length) (h2 : y.length ≤ 4) : std y = if isR (num y) ∧ y = enc (num y) then some (num y) else none := by
  rcases y with _ | ⟨a, _ | ⟨b, _ | ⟨c, _ | ⟨d, _ | ⟨e, y⟩⟩⟩⟩⟩
  · simp at h1
  · have ha := hy a (by simp)
    simp only [std, num, isR, enc]
    (repeat' split) <;> (try simp only [List.cons.injEq, and_true, and_false, Option.some.injEq, reduceCtorEq, not_and, not_or, Int.not_le, Int.not_lt] at *) <;> omega
  · have ha := hy a (by simp)
    have hb := hy b (by simp)
    clear hy h1 h2
    simp only [std, num, isR, enc]
    (repeat' split) <;> (try simp only [List.cons.injEq, and_true, and_false, Option.some.injEq, reduceCtorEq, not_and, not_or, Int.not_le, Int.not_lt] at *) <;> omega
  · have ha := hy a (by simp)
    have hb := hy b (by simp)
    have hc := hy c (by simp)
    clear hy h1 h2
    simp only [std, num, isR, enc]
    (repeat' split) <;> (try simp only [List.cons.injEq, and_true, and_false, Option.some.injEq, reduceCtorEq, not_and, not_or, Int.not_le, Int.not_lt] at *) <;> omega
  · have ha := hy a (by simp)
    have hb := hy b (by simp)
    have hc := hy c (by simp)
    have hd := hy d (by simp)
    clear hy h1 h2
    simp only [std, num, isR, enc]
    (repeat' split) <;> (try simp only [List.cons.injEq, and_true, and_false, Option.some.injEq, reduceCtorEq, not_and, not_or, Int.not_le, Int.not_lt] at *) <;> omega
  · simp at h2
theorem enc_by {r : Int} (h : isR r) : By (enc r) := by
  unfold enc
  intro n hn
  (repeat' split at hn) <;> simp only [List.mem_cons, List.not_mem_nil, or_false] at hn <;> omega
end Go.Ab.R2
end
