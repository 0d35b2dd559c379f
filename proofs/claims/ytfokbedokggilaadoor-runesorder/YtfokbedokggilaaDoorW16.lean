/- Walks: what each function computes. -/
import Derived.Test.YtfokbedokggilaaDoorW15
set_option linter.all false
section
namespace Go.Ab.R2
open Go.Proofs Go.Ab Go.Ab.C2
set_option linter.unusedSimpArgs false
set_option linter.unusedVariables false
set_option maxRecDepth 10000
set_option maxHeartbeats 4000000
/-- Bytes in their order. -/
def lexI : List Int → List Int → Prop
  | _, [] => False
  | [], _ :: _ => True
  | a :: x, b :: y => a < b ∨ (a = b ∧ lexI x y)
theorem less_lex : ∀ {x y : List Int}, By x → By y → (Op.bytesLess (toS x).data.toList (toS y).data.toList = true ↔ lexI x y) := by
  have key : ∀ {x y : List Int}, By x → By y → (Op.bytesLess (x.map fun n => UInt8.ofNat n.toNat) (y.map fun n => UInt8.ofNat n.toNat) = true ↔ lexI x y) := by
    intro x
    induction x with
    | nil =>
      intro y _ _
      cases y <;> simp [Op.bytesLess, lexI]
    | cons a x ih =>
      intro y hx hy
      cases y with
      | nil => simp [Op.bytesLess, lexI]
      | cons b y =>
        have ha := hx a List.mem_cons_self
        have hb := hy b List.mem_cons_self
        have h1 := ih (fun n hn => hx n (List.mem_cons_of_mem _ hn)) (y := y) (fun n hn => hy n (List.mem_cons_of_mem _ hn))
        have e1 : (UInt8.ofNat a.toNat).toNat = a.toNat := UInt8.toNat_ofNat_of_lt' (by show a.toNat < 256; omega)
        have e2 : (UInt8.ofNat b.toNat).toNat = b.toNat := UInt8.toNat_ofNat_of_lt' (by show b.toNat < 256; omega)
        have e3 : UInt8.ofNat a.toNat < UInt8.ofNat b.toNat ↔ a < b := by rw [UInt8.lt_iff_toNat_lt, e1, e2]; omega
        have e4 : UInt8.ofNat a.toNat = UInt8.ofNat b.toNat ↔ a = b := by
          constructor
          · intro h
            have := congrArg UInt8.toNat h
            rw [e1, e2] at this; omega
          · rintro rfl; rfl
        simp only [List.map_cons, Op.bytesLess, Bool.or_eq_true, Bool.and_eq_true, decide_eq_true_eq, beq_iff_eq, e3, e4, h1, lexI]
  intro x y hx hy
  exact key hx hy
theorem lexI_nil (x : List Int) : lexI x [] = False := by cases x <;> rfl
theorem lex_enc {r s : Int} (hr : isR r) (hs : isR s) : lexI (enc r) (enc s) ↔ r < s := by
  obtain ⟨h0, h1, h2⟩ := hr
  obtain ⟨g0, g1, g2⟩ := hs
  unfold enc
  (repeat' split) <;> simp only [lexI, lexI_nil, and_false, or_false] <;> omega
theorem less_enc {r s : Int} (hr : isR r) (hs : isR s) : Op.bytesLess (toS (enc r)).data.toList (toS (enc s)).data.toList = true ↔ r < s := (less_lex (enc_by hr) (enc_by hs)).trans (lex_enc hr hs)
theorem enc_inj {r s : Int} (hr : isR r) (hs : isR s) (h : enc r = enc s) : r = s := by
  have h1 := decS_enc hr []
  have h2 := decS_enc hs []
  rw [h, h2] at h1
  simp only [Prod.mk.injEq] at h1
  exact h1.1.symm
theorem on_of {b rs ss : List Int} {k e : Int} {t : Bool} (hb : By b) (h8 : b.length ≤ 8000) (h : Rch b rs ss b.length) (h0 : 0 ≤ k) (h1 : k ≤ b.length) (ho : OnP b k t e) : e = 0 ∧ ((t = true ∧ k ∈ ss ++ [(b.length : Int)]) ∨ (t = false ∧ ¬ k ∈ ss ++ [(b.length : Int)])) := by
  obtain ⟨x, hx, ht⟩ := ho
  rcases hx with ⟨rs', ss', _, g2, _, _, g5, g6, g7, g8⟩ | ⟨_, g2, _⟩ | ⟨p, g1, g2, _⟩
  · obtain ⟨rfl, rfl⟩ := h.uni hb g2
    refine ⟨g5, ?_⟩
    rcases ht with ⟨rfl, _, rfl⟩ | ⟨rfl, g9⟩
    · exact .inl ⟨rfl, g6⟩
    · refine .inr ⟨rfl, fun hm => g9 ⟨g5, ?_⟩⟩
      have := g8 k hm (Int.le_refl _); omega
  · exact absurd ⟨h0, h1⟩ g2
  · exact absurd (ChkP.uni hb g1 (.inr ⟨h8, _, _, h, .inl ⟨rfl, rfl⟩⟩)).2 g2
theorem Rch.gap {b rs ss : List Int} {p : Int} (hb : By b) (h : Rch b rs ss p) : ∀ (i : Nat) (s : Int), (ss ++ [p])[i]? = some s → s < p → ∃ t, (ss ++ [p])[i + 1]? = some t ∧ t ≤ s + 4 := by
  induction h with
  | nil =>
    intro i s hi hs
    rcases i with _ | i
    · simp at hi; omega
    · simp at hi
  | @step rs ss q r n h hd ih =>
    intro i s hi hs
    have h1 := dec_ok hb hd
    have hl : i < ((ss ++ [q]) ++ [q + n]).length := by
      rcases Nat.lt_or_ge i ((ss ++ [q]) ++ [q + n]).length with h | h
      · exact h
      · rw [List.getElem?_eq_none h] at hi; cases hi
    simp only [List.length_append, List.length_cons, List.length_nil] at hl
    by_cases c : i < ss.length + 1
    · rw [List.getElem?_append_left (by simp; omega)] at hi
      by_cases d : s < q
      · obtain ⟨t, g1, g2⟩ := ih i s hi d
        refine ⟨t, ?_, g2⟩
        rw [List.getElem?_append_left (by
          rcases Nat.lt_or_ge (i + 1) (ss ++ [q]).length with h | h
          · exact h
          · rw [List.getElem?_eq_none h] at g1; cases g1)]
        exact g1
      · have hsq : s = q := by
          have := List.mem_of_getElem? hi
          rcases List.mem_append.1 this with hm | hm
          · have := h.mem hb _ hm; omega
          · simp only [List.mem_cons, List.not_mem_nil, or_false] at hm; omega
        subst hsq
        have hil : i = ss.length := by
          rcases Nat.lt_or_ge i ss.length with e | e
          · rw [List.getElem?_append_left e] at hi
            have := h.mem hb _ (List.mem_of_getElem? hi); omega
          · omega
        subst hil
        refine ⟨s + n, ?_, by omega⟩
        rw [List.getElem?_append_right (by simp)]
        simp
    · rw [List.getElem?_append_right (by simp; omega)] at hi
      have := List.mem_of_getElem? hi
      simp only [List.mem_cons, List.not_mem_nil, or_false] at this
      omega
theorem back_of {b rs ss : List Int} {k x e : Int} (hb : By b) (h8 : b.length ≤ 8000) (h : Rch b rs ss b.length) (h0 : 0 ≤ k) (h1 : k ≤ b.length) (ho : BacP b k x e) : e = 0 ∧ x ≤ k ∧ k - 3 ≤ x ∧ (x = k ↔ k ∈ ss ++ [(b.length : Int)]) := by
  rcases ho with ⟨rs', ss', _, g2, _, _, g5, g6, g7, g8⟩ | ⟨_, g2, _⟩ | ⟨p, g1, g2, _⟩
  · obtain ⟨rfl, rfl⟩ := h.uni hb g2
    refine ⟨g5, g7, ?_, ?_, fun hm => ?_⟩
    · by_cases c : x = k
      · omega
      · obtain ⟨i, hi⟩ := List.getElem?_of_mem g6
        obtain ⟨t, ht1, ht2⟩ := h.gap hb i x hi (by omega)
        have ht3 := h.asc hb i (i + 1) x t hi ht1 (by omega)
        have ht4 := g8 t (List.mem_of_getElem? ht1)
        omega
    · rintro rfl; exact g6
    · have := g8 k hm (Int.le_refl _); omega
  · exact absurd ⟨h0, h1⟩ g2
  · exact absurd (ChkP.uni hb g1 (.inr ⟨h8, _, _, h, .inl ⟨rfl, rfl⟩⟩)).2 g2
theorem chk_cut {b rs ss : List Int} {k p e p' e' : Int} (hb : By b) (h8 : b.length ≤ 8000) (h : Rch b rs ss b.length) (h0 : 0 ≤ k) (h1 : k ≤ b.length) (hc : ChkP (b.take k.toNat) p e) (hc' : ChkP (b.drop k.toNat) p' e') : k ∈ ss ++ [(b.length : Int)] ↔ e = 0 ∧ e' = 0 := by
  have h2 := cut_iff (i := k.toNat) hb h8 h (by omega)
  rw [show (k.toNat : Int) = k by omega] at h2
  rw [h2]
  constructor
  · rintro ⟨g1, g2⟩; exact ⟨g1 _ _ hc, g2 _ _ hc'⟩
  · rintro ⟨rfl, rfl⟩
    exact ⟨fun q f hq => (ChkP.uni (hb.take _) hq hc).2, fun q f hq => (ChkP.uni (hb.drop _) hq hc').2⟩
end Go.Ab.R2
end
