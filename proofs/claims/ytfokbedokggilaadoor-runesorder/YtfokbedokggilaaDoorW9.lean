/- Walks: what each function computes. -/
import Derived.Test.YtfokbedokggilaaDoorW8
set_option linter.all false
section
namespace Go.Ab.R2
open Go.Proofs Go.Ab Go.Ab.C2
set_option linter.unusedSimpArgs false
set_option linter.unusedVariables false
set_option maxRecDepth 10000
set_option maxHeartbeats 2000000
/-- The number that the table gives for some bytes. -/
def num : List Int → Int
  | [a] => if a < 128 then a else -1
  | [a, b] => if (192 ≤ a ∧ a < 224) ∧ 128 ≤ b ∧ b < 192 then (a - 192) * 64 + (b - 128) else -1
  | [a, b, c] => if (224 ≤ a ∧ a < 240) ∧ (128 ≤ b ∧ b < 192) ∧ 128 ≤ c ∧ c < 192 then ((a - 224) * 64 + (b - 128)) * 64 + (c - 128) else -1
  | [a, b, c, d] => if (240 ≤ a ∧ a < 248) ∧ (128 ≤ b ∧ b < 192) ∧ (128 ≤ c ∧ c < 192) ∧ 128 ≤ d ∧ d < 192 then (((a - 240) * 64 + (b - 128)) * 64 + (c - 128)) * 64 + (d - 128) else -1
  | _ => -1
theorem f50_1 (a : Int) (h : 0 ≤ a ∧ a < 256) : ACall En 50 ⟨1, [(0, .sl 1 [vu a])], [], [], []⟩ (Ret1 vr fun r => r = num [a]) := by
  refine ACall.vm {} [] ok50 glNil mixed rfl fun o R' ho hR => ?_
  conv => cbv
  repeat' (first | (refine hR _ _ ⟨rfl, _, ?_, rfl⟩) | ((first | refine q_unr 5 ho ?_ | refine q_lss ‹_› (fun h => ?_) (fun h => ?_) | refine q_leqT ‹_› (by omega) ?_ | refine q_leqF ‹_› (by omega) ?_ | refine q_eqlT ‹_› (by omega) ?_ | refine q_neqT ‹_› (by omega) ?_ | (refine q_addc ‹_› (by simp only [Int.reduceAdd, Int.reduceSub]; rfl) (by decide) ?_) | refine q_add32 ‹_› (by omega) (by omega) (fun n hn => ?_) | refine q_mul32 ‹_› (by omega) (by omega) (fun n hn => ?_) | refine q_cv32 ‹_› (by omega) (by omega) ?_ | refine q_cvU64 ‹_› (by omega) (by omega) ?_ | refine q_shrc 2 4 ‹_› (by decide) (by omega) (fun n hn => ?_) | refine q_shrc 3 8 ‹_› (by decide) (by omega) (fun n hn => ?_) | refine q_shrc 4 16 ‹_› (by decide) (by omega) (fun n hn => ?_) | refine q_len1 ‹_› ?_ | refine q_idxc ‹_› (by decide) rfl ?_ | refine q_arrl ‹_› (by decide) (by decide) ?_) <;> (conv => cbv)))
  all_goals (clear ho hR; simp only [num]; split <;> omega)
theorem f50_2 (a b : Int) (h : 0 ≤ a ∧ a < 256) (h1 : 0 ≤ b ∧ b < 256) : ACall En 50 ⟨1, [(0, .sl 1 [vu a, vu b])], [], [], []⟩ (Ret1 vr fun r => r = num [a, b]) := by
  refine ACall.vm {} [] ok50 glNil mixed rfl fun o R' ho hR => ?_
  conv => cbv
  repeat' (first | (refine hR _ _ ⟨rfl, _, ?_, rfl⟩) | ((first | refine q_unr 5 ho ?_ | refine q_lssT ‹_› (by omega) ?_ | refine q_lssF ‹_› (by omega) ?_ | refine q_lss ‹_› (fun h => ?_) (fun h => ?_) | refine q_leqT ‹_› (by omega) ?_ | refine q_leqF ‹_› (by omega) ?_ | refine q_geq ‹_› (fun h => ?_) (fun h => ?_) | refine q_eqlF ‹_› (by omega) ?_ | refine q_neqT ‹_› (by omega) ?_ | refine q_neqF ‹_› (by omega) ?_ | (refine q_addc ‹_› (by simp only [Int.reduceAdd, Int.reduceSub]; rfl) (by decide) ?_) | refine q_add32 ‹_› (by omega) (by omega) (fun n hn => ?_) | refine q_sub32 ‹_› (by omega) (by omega) (fun n hn => ?_) | refine q_mul32 ‹_› (by omega) (by omega) (fun n hn => ?_) | refine q_cv32 ‹_› (by omega) (by omega) ?_ | refine q_cvU64 ‹_› (by omega) (by omega) ?_ | refine q_shrc 2 4 ‹_› (by decide) (by omega) (fun n hn => ?_) | refine q_shrc 3 8 ‹_› (by decide) (by omega) (fun n hn => ?_) | refine q_shrc 4 16 ‹_› (by decide) (by omega) (fun n hn => ?_) | refine q_len2 ‹_› ?_ | refine q_idxc ‹_› (by decide) rfl ?_ | refine q_arrl ‹_› (by decide) (by decide) ?_) <;> (conv => cbv)))
  all_goals (clear ho hR; simp only [num]; split <;> omega)
theorem f50_3 (a b c : Int) (h : 0 ≤ a ∧ a < 256) (h1 : 0 ≤ b ∧ b < 256) (h2 : 0 ≤ c ∧ c < 256) : ACall En 50 ⟨1, [(0, .sl 1 [vu a, vu b, vu c])], [], [], []⟩ (Ret1 vr fun r => r = num [a, b, c]) := by
  refine ACall.vm {} [] ok50 glNil mixed rfl fun o R' ho hR => ?_
  conv => cbv
  repeat' (first | (refine hR _ _ ⟨rfl, _, ?_, rfl⟩) | ((first | refine q_unr 5 ho ?_ | refine q_lssT ‹_› (by omega) ?_ | refine q_lssF ‹_› (by omega) ?_ | refine q_lss ‹_› (fun h => ?_) (fun h => ?_) | refine q_leqT ‹_› (by omega) ?_ | refine q_leqF ‹_› (by omega) ?_ | refine q_geq ‹_› (fun h => ?_) (fun h => ?_) | refine q_eqlF ‹_› (by omega) ?_ | refine q_neqT ‹_› (by omega) ?_ | refine q_neqF ‹_› (by omega) ?_ | (refine q_addc ‹_› (by simp only [Int.reduceAdd, Int.reduceSub]; rfl) (by decide) ?_) | refine q_add32 ‹_› (by omega) (by omega) (fun n hn => ?_) | refine q_sub32 ‹_› (by omega) (by omega) (fun n hn => ?_) | refine q_mul32 ‹_› (by omega) (by omega) (fun n hn => ?_) | refine q_cv32 ‹_› (by omega) (by omega) ?_ | refine q_cvU64 ‹_› (by omega) (by omega) ?_ | refine q_shrc 2 4 ‹_› (by decide) (by omega) (fun n hn => ?_) | refine q_shrc 3 8 ‹_› (by decide) (by omega) (fun n hn => ?_) | refine q_shrc 4 16 ‹_› (by decide) (by omega) (fun n hn => ?_) | refine q_len3 ‹_› ?_ | refine q_idxc ‹_› (by decide) rfl ?_ | refine q_arrl ‹_› (by decide) (by decide) ?_) <;> (conv => cbv)))
  all_goals (clear ho hR; simp only [num]; split <;> omega)
theorem f50_4 (a b c d : Int) (h : 0 ≤ a ∧ a < 256) (h1 : 0 ≤ b ∧ b < 256) (h2 : 0 ≤ c ∧ c < 256) (h3 : 0 ≤ d ∧ d < 256) : ACall En 50 ⟨1, [(0, .sl 1 [vu a, vu b, vu c, vu d])], [], [], []⟩ (Ret1 vr fun r => r = num [a, b, c, d]) := by
  refine ACall.vm {} [] ok50 glNil mixed rfl fun o R' ho hR => ?_
  conv => cbv
  repeat' (first | (refine hR _ _ ⟨rfl, _, ?_, rfl⟩) | ((first | refine q_unr 5 ho ?_ | refine q_lssT ‹_› (by omega) ?_ | refine q_lssF ‹_› (by omega) ?_ | refine q_lss ‹_› (fun h => ?_) (fun h => ?_) | refine q_leqT ‹_› (by omega) ?_ | refine q_leqF ‹_› (by omega) ?_ | refine q_geq ‹_› (fun h => ?_) (fun h => ?_) | refine q_eqlF ‹_› (by omega) ?_ | refine q_neqT ‹_› (by omega) ?_ | refine q_neqF ‹_› (by omega) ?_ | (refine q_addc ‹_› (by simp only [Int.reduceAdd, Int.reduceSub]; rfl) (by decide) ?_) | refine q_add32 ‹_› (by omega) (by omega) (fun n hn => ?_) | refine q_sub32 ‹_› (by omega) (by omega) (fun n hn => ?_) | refine q_mul32 ‹_› (by omega) (by omega) (fun n hn => ?_) | refine q_cv32 ‹_› (by omega) (by omega) ?_ | refine q_cvU64 ‹_› (by omega) (by omega) ?_ | refine q_shrc 2 4 ‹_› (by decide) (by omega) (fun n hn => ?_) | refine q_shrc 3 8 ‹_› (by decide) (by omega) (fun n hn => ?_) | refine q_shrc 4 16 ‹_› (by decide) (by omega) (fun n hn => ?_) | refine q_len4 ‹_› ?_ | refine q_idxc ‹_› (by decide) rfl ?_ | refine q_arrl ‹_› (by decide) (by decide) ?_) <;> (conv => cbv)))
  all_goals (clear ho hR; simp only [num]; split <;> omega)
/-- number, of one to four bytes. -/
theorem f50 {y : List Int} {L : List AV} (hL : L = y.map vu) (hy : By y) (h1 : 1 ≤ y.length) (h2 : y.length ≤ 4) : ACall En 50 ⟨1, [(0, .sl 1 L)], [], [], []⟩ (Ret1 vr fun r => r = num y) := by
  subst hL
  rcases y with _ | ⟨a, _ | ⟨b, _ | ⟨c, _ | ⟨d, _ | ⟨e, y⟩⟩⟩⟩⟩
  · simp at h1
  · exact f50_1 a (hy a (by simp))
  · exact f50_2 a b (hy a (by simp)) (hy b (by simp))
  · exact f50_3 a b c (hy a (by simp)) (hy b (by simp)) (hy c (by simp))
  · exact f50_4 a b c d (hy a (by simp)) (hy b (by simp)) (hy c (by simp)) (hy d (by simp))
  · simp at h2
end Go.Ab.R2
end
section
namespace Go.Ab.R2
open Go.Proofs Go.Ab Go.Ab.C2
set_option linter.unusedSimpArgs false
set_option linter.unusedVariables false
set_option maxRecDepth 10000
set_option maxHeartbeats 2000000
/-- The rune that some bytes are. -/
def std : List Int → Option Int
  | [a] => if a < 128 then some a else none
  | [a, b] => if (194 ≤ a ∧ a < 224) ∧ 128 ≤ b ∧ b < 192 then some ((a - 192) * 64 + (b - 128)) else none
  | [a, b, c] => if (224 ≤ a ∧ a < 240) ∧ (128 ≤ b ∧ b < 192) ∧ (128 ≤ c ∧ c < 192) ∧ (a = 224 → 160 ≤ b) ∧ (a = 237 → b < 160) then some (((a - 224) * 64 + (b - 128)) * 64 + (c - 128)) else none
  | [a, b, c, d] => if (240 ≤ a ∧ a < 245) ∧ (128 ≤ b ∧ b < 192) ∧ (128 ≤ c ∧ c < 192) ∧ (128 ≤ d ∧ d < 192) ∧ (a = 240 → 144 ≤ b) ∧ (a = 244 → b < 144) then some ((((a - 240) * 64 + (b - 128)) * 64 + (c - 128)) * 64 + (d - 128)) else none
  | _ => none
theorem std_of {y : List Int} (hy : By y) (h1 : 1 ≤ y.length) (h2 : y.length ≤ 4) : std y = if isR (num y) ∧ y = enc (num y) then some (num y) else none := by
  rcases y with _ | ⟨a, _ | ⟨b, _ | ⟨c, _ | ⟨d, _ | ⟨e, y⟩⟩⟩⟩⟩
  · simp at h1
  · have ha := hy a (by simp)
    simp only [std, num, isR, enc]
    (repeat' split) <;> (try simp only [List.cons.injEq, and_true, and_false, Option.some.injEq, reduceCtorEq, not_and, not_or, Int.not_le, Int.not_lt] at *) <;> omega
  · have ha := hy a (by simp)
    have hb := hy b (by simp)
    clear hy h1 h2
    simp only [std, num, isR, enc]
    (repeat' split) <;> (try simp only [List.cons.injEq, and_true, and_false, Option.some.injEq, reduceCtorEq, not_and, not_or, Int.not_le, Int.not_lt] at *) <;> omega
  · have ha := hy a (by simp)
    have hb := hy b (by simp)
    have hc := hy c (by simp)
    clear hy h1 h2
    simp only [std, num, isR, enc]
    (repeat' split) <;> (try simp only [List.cons.injEq, and_true, and_false, Option.some.injEq, reduceCtorEq, not_and, not_or, Int.not_le, Int.not_lt] at *) <;> omega
  · have ha := hy a (by simp)
    have hb := hy b (by simp)
    have hc := hy c (by simp)
    have hd := hy d (by simp)
    clear hy h1 h2
    simp only [std, num, isR, enc]
    (repeat' split) <;> (try simp only [List.cons.injEq, and_true, and_false, Option.some.injEq, reduceCtorEq, not_and, not_or, Int.not_le, Int.not_lt] at *) <;> omega
  · simp at h2
theorem enc_by {r : Int} (h : isR r) : By (enc r) := by
  unfold enc
  intro n hn
  (repeat' split at hn) <;> simp only [List.mem_cons, List.not_mem_nil, or_false] at hn <;> omega
end Go.Ab.R2
end
section
namespace Go.Ab.R2
open Go.Proofs Go.Ab Go.Ab.C2
set_option linter.unusedSimpArgs false
set_option linter.unusedVariables false
set_option maxRecDepth 10000
set_option maxHeartbeats 2000000
theorem f35 {y : List Int} {L : List AV} (hL : L = y.map vu) (hy : By y) (h1 : 1 ≤ y.length) (h2 : y.length ≤ 4) : ACall En 35 ⟨1, [(0, .sl 1 L)], [], [], []⟩ (Ret2 vr vb fun r b => (b = true ∧ std y = some r) ∨ (b = false ∧ std y = none)) := by
  refine ACall.vm {} [] ok35 glNil mixed rfl fun o R' ho hR => ?_
  conv => cbv
  repeat' (first | (refine hR _ _ ⟨rfl, _, _, ?_, rfl⟩) | ((first | (refine q_call ho (f50 (by assumption) (by assumption) (by omega) (by omega)) ?_; rintro _ _ ⟨rfl, r, hr, rfl⟩) | (refine q_call ho (f40 _) ?_; rintro _ _ ⟨rfl, _, ⟨rfl, hb⟩ | ⟨rfl, hb⟩, rfl⟩)) <;> (conv => cbv)) | (((refine q_call ho (f14 _) ?_; rintro _ _ ⟨rfl, M, e, ⟨hq, hM, rfl⟩ | ⟨hq, rfl, rfl⟩, rfl⟩)) <;> (conv => cbv) <;> try exact absurd hb hq) | ((first | refine q_seql ‹_› (fun h => ?_) (fun h => ?_) | refine q_tostrM ‹_› (by assumption) (fun s hs => ?_) | refine q_free ‹_› ?_) <;> (conv => cbv)))
  all_goals clear hR ho
  · refine .inl ⟨rfl, ?_⟩
    have e := toS_inj hy (enc_by hq) (by subst_vars; assumption)
    rw [std_of hy h1 h2, ← hr, if_pos ⟨hb, e⟩]
  · refine .inr ⟨rfl, ?_⟩
    rw [std_of hy h1 h2, ← hr, if_neg]
    rintro ⟨_, e⟩
    rename_i s1 hs1 _
    exact h (by rw [hs1, hs, ← e])
  · refine .inr ⟨rfl, ?_⟩
    rw [std_of hy h1 h2, ← hr, if_neg]
    exact fun h => hb h.1
theorem ite_some {c : Prop} [Decidable c] {v r : Int} : (if c then some v else none) = some r ↔ c ∧ v = r := by by_cases h : c <;> simp [h]
theorem ite_none {c : Prop} [Decidable c] {v : Int} : (if c then some v else none) = none ↔ ¬ c := by by_cases h : c <;> simp [h]
theorem std_some2 {a b r : Int} : std [a, b] = some r ↔ ((194 ≤ a ∧ a < 224) ∧ 128 ≤ b ∧ b < 192) ∧ (a - 192) * 64 + (b - 128) = r := ite_some
theorem std_none2 {a b : Int} : std [a, b] = none ↔ ¬ ((194 ≤ a ∧ a < 224) ∧ 128 ≤ b ∧ b < 192) := ite_none
theorem std_some3 {a b c r : Int} : std [a, b, c] = some r ↔ ((224 ≤ a ∧ a < 240) ∧ (128 ≤ b ∧ b < 192) ∧ (128 ≤ c ∧ c < 192) ∧ (a = 224 → 160 ≤ b) ∧ (a = 237 → b < 160)) ∧ ((a - 224) * 64 + (b - 128)) * 64 + (c - 128) = r := ite_some
theorem std_none3 {a b c : Int} : std [a, b, c] = none ↔ ¬ ((224 ≤ a ∧ a < 240) ∧ (128 ≤ b ∧ b < 192) ∧ (128 ≤ c ∧ c < 192) ∧ (a = 224 → 160 ≤ b) ∧ (a = 237 → b < 160)) := ite_none
theorem std_some4 {a b c d r : Int} : std [a, b, c, d] = some r ↔ ((240 ≤ a ∧ a < 245) ∧ (128 ≤ b ∧ b < 192) ∧ (128 ≤ c ∧ c < 192) ∧ (128 ≤ d ∧ d < 192) ∧ (a = 240 → 144 ≤ b) ∧ (a = 244 → b < 144)) ∧ (((a - 240) * 64 + (b - 128)) * 64 + (c - 128)) * 64 + (d - 128) = r := ite_some
theorem std_none4 {a b c d : Int} : std [a, b, c, d] = none ↔ ¬ ((240 ≤ a ∧ a < 245) ∧ (128 ≤ b ∧ b < 192) ∧ (128 ≤ c ∧ c < 192) ∧ (128 ≤ d ∧ d < 192) ∧ (a = 240 → 144 ≤ b) ∧ (a = 244 → b < 144)) := ite_none
/-- Some bytes that a rune begins with. -/
def bg : List Int → Prop
  | [a] => 194 ≤ a ∧ a < 245
  | [a, b] => (224 ≤ a ∧ a < 245) ∧ (128 ≤ b ∧ b < 192) ∧ (a = 224 → 160 ≤ b) ∧ (a = 237 → b < 160) ∧ (a = 240 → 144 ≤ b) ∧ (a = 244 → b < 144)
  | [a, b, c] => (240 ≤ a ∧ a < 245) ∧ (128 ≤ b ∧ b < 192) ∧ (128 ≤ c ∧ c < 192) ∧ (a = 240 → 144 ≤ b) ∧ (a = 244 → b < 144)
  | _ => False
theorem f36_1 (a : Int) (ha : 0 ≤ a ∧ a < 256) : ACall En 36 ⟨1, [(0, .sl 1 [vu a])], [], [], []⟩ (Ret1 vb fun t => (t = true ∧ bg [a]) ∨ (t = false ∧ ¬ bg [a])) := by
  refine ACall.vm {} [] ok36 glNil mixed rfl fun o R' ho hR => ?_
  conv => cbv
  repeat' (first | (refine hR _ _ ⟨rfl, _, ?_, rfl⟩) | ((first | refine q_unr 4 ho ?_ | (refine q_call ho (f35 (y := [a, _]) rfl (by intro n hn; simp only [List.mem_cons, List.not_mem_nil, or_false] at hn; omega) (by simp) (by simp)) ?_; rintro _ _ ⟨rfl, r, _, ⟨rfl, hb⟩ | ⟨rfl, hb⟩, rfl⟩) | (refine q_call ho (f35 (y := [a, _, _]) rfl (by intro n hn; simp only [List.mem_cons, List.not_mem_nil, or_false] at hn; omega) (by simp) (by simp)) ?_; rintro _ _ ⟨rfl, r, _, ⟨rfl, hb⟩ | ⟨rfl, hb⟩, rfl⟩) | (refine q_call ho (f35 (y := [a, _, _, _]) rfl (by intro n hn; simp only [List.mem_cons, List.not_mem_nil, or_false] at hn; omega) (by simp) (by simp)) ?_; rintro _ _ ⟨rfl, r, _, ⟨rfl, hb⟩ | ⟨rfl, hb⟩, rfl⟩) | refine q_lssT ‹_› (by omega) ?_ | refine q_lssF ‹_› (by omega) ?_ | refine q_lss ‹_› (fun h => ?_) (fun h => ?_) | refine q_leqT ‹_› (by omega) ?_ | refine q_leqF ‹_› (by omega) ?_ | refine q_geqT ‹_› (by omega) ?_ | refine q_geqF ‹_› (by omega) ?_ | refine q_geq ‹_› (fun h => ?_) (fun h => ?_) | (refine q_addc ‹_› (by simp only [Int.reduceAdd, Int.reduceSub]; rfl) (by decide) ?_) | refine q_cv32 ‹_› (by omega) (by omega) ?_ | refine q_cvU8 ‹_› (by omega) (by omega) ?_ | refine q_len1 ‹_› ?_ | refine q_len2 ‹_› ?_ | refine q_len3 ‹_› ?_ | refine q_len4 ‹_› ?_ | refine q_idxc ‹_› (by decide) rfl ?_ | refine q_appL ‹_› (Nat.le_of_ble_eq_true rfl) ?_) <;> (conv => cbv)))
  all_goals clear hR ho
  all_goals (simp only [bg, std_none2, std_some2, std_none3, std_some3, std_none4, std_some4, reduceCtorEq, true_and, false_and, or_false, false_or] at *; omega)
theorem f36_2 (a b : Int) (ha : 0 ≤ a ∧ a < 256) (hb : 0 ≤ b ∧ b < 256) : ACall En 36 ⟨1, [(0, .sl 1 [vu a, vu b])], [], [], []⟩ (Ret1 vb fun t => (t = true ∧ bg [a, b]) ∨ (t = false ∧ ¬ bg [a, b])) := by
  refine ACall.vm {} [] ok36 glNil mixed rfl fun o R' ho hR => ?_
  conv => cbv
  repeat' (first | (refine hR _ _ ⟨rfl, _, ?_, rfl⟩) | ((first | refine q_unr 4 ho ?_ | (refine q_call ho (f35 (y := [a, b, _]) rfl (by intro n hn; simp only [List.mem_cons, List.not_mem_nil, or_false] at hn; omega) (by simp) (by simp)) ?_; rintro _ _ ⟨rfl, r, _, ⟨rfl, hb⟩ | ⟨rfl, hb⟩, rfl⟩) | (refine q_call ho (f35 (y := [a, b, _, _]) rfl (by intro n hn; simp only [List.mem_cons, List.not_mem_nil, or_false] at hn; omega) (by simp) (by simp)) ?_; rintro _ _ ⟨rfl, r, _, ⟨rfl, hb⟩ | ⟨rfl, hb⟩, rfl⟩) | refine q_lssT ‹_› (by omega) ?_ | refine q_lssF ‹_› (by omega) ?_ | refine q_lss ‹_› (fun h => ?_) (fun h => ?_) | refine q_leqT ‹_› (by omega) ?_ | refine q_leqF ‹_› (by omega) ?_ | refine q_geqT ‹_› (by omega) ?_ | refine q_geqF ‹_› (by omega) ?_ | refine q_geq ‹_› (fun h => ?_) (fun h => ?_) | (refine q_addc ‹_› (by simp only [Int.reduceAdd, Int.reduceSub]; rfl) (by decide) ?_) | refine q_cv32 ‹_› (by omega) (by omega) ?_ | refine q_cvU8 ‹_› (by omega) (by omega) ?_ | refine q_len2 ‹_› ?_ | refine q_len3 ‹_› ?_ | refine q_len4 ‹_› ?_ | refine q_idxc ‹_› (by decide) rfl ?_ | refine q_appL ‹_› (Nat.le_of_ble_eq_true rfl) ?_) <;> (conv => cbv)))
  all_goals clear hR ho
  all_goals (simp only [bg, std_none2, std_some2, std_none3, std_some3, std_none4, std_some4, reduceCtorEq, true_and, false_and, or_false, false_or] at *; omega)
theorem f36_3 (a b c : Int) (ha : 0 ≤ a ∧ a < 256) (hb : 0 ≤ b ∧ b < 256) (hc : 0 ≤ c ∧ c < 256) : ACall En 36 ⟨1, [(0, .sl 1 [vu a, vu b, vu c])], [], [], []⟩ (Ret1 vb fun t => (t = true ∧ bg [a, b, c]) ∨ (t = false ∧ ¬ bg [a, b, c])) := by
  refine ACall.vm {} [] ok36 glNil mixed rfl fun o R' ho hR => ?_
  conv => cbv
  repeat' (first | (refine hR _ _ ⟨rfl, _, ?_, rfl⟩) | ((first | refine q_unr 4 ho ?_ | (refine q_call ho (f35 (y := [a, b, c, _]) rfl (by intro n hn; simp only [List.mem_cons, List.not_mem_nil, or_false] at hn; omega) (by simp) (by simp)) ?_; rintro _ _ ⟨rfl, r, _, ⟨rfl, hb⟩ | ⟨rfl, hb⟩, rfl⟩) | refine q_lssT ‹_› (by omega) ?_ | refine q_lssF ‹_› (by omega) ?_ | refine q_lss ‹_› (fun h => ?_) (fun h => ?_) | refine q_leqT ‹_› (by omega) ?_ | refine q_leqF ‹_› (by omega) ?_ | refine q_geqT ‹_› (by omega) ?_ | refine q_geqF ‹_› (by omega) ?_ | refine q_geq ‹_› (fun h => ?_) (fun h => ?_) | (refine q_addc ‹_› (by simp only [Int.reduceAdd, Int.reduceSub]; rfl) (by decide) ?_) | refine q_cv32 ‹_› (by omega) (by omega) ?_ | refine q_cvU8 ‹_› (by omega) (by omega) ?_ | refine q_len3 ‹_› ?_ | refine q_len4 ‹_› ?_ | refine q_idxc ‹_› (by decide) rfl ?_ | refine q_appL ‹_› (Nat.le_of_ble_eq_true rfl) ?_) <;> (conv => cbv)))
  all_goals clear hR ho
  all_goals (simp only [bg, std_none2, std_some2, std_none3, std_some3, std_none4, std_some4, reduceCtorEq, true_and, false_and, or_false, false_or] at *; omega)
theorem f36 {y : List Int} {L : List AV} (hL : L = y.map vu) (hy : By y) (h1 : 1 ≤ y.length) (h2 : y.length ≤ 3) : ACall En 36 ⟨1, [(0, .sl 1 L)], [], [], []⟩ (Ret1 vb fun t => (t = true ∧ bg y) ∨ (t = false ∧ ¬ bg y)) := by
  subst hL
  rcases y with _ | ⟨a, _ | ⟨b, _ | ⟨c, _ | ⟨d, y⟩⟩⟩⟩
  · simp at h1
  · exact f36_1 a (hy a (by simp))
  · exact f36_2 a b (hy a (by simp)) (hy b (by simp))
  · exact f36_3 a b c (hy a (by simp)) (hy b (by simp)) (hy c (by simp))
  · simp at h2
end Go.Ab.R2
end
