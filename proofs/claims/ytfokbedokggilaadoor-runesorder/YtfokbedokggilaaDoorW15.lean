/- Walks: what each function computes. -/
import Derived.Test.YtfokbedokggilaaDoorW14
set_option linter.all false
section
namespace Go.Ab.R2
open Go.Proofs Go.Ab Go.Ab.C2
set_option linter.unusedSimpArgs false
set_option linter.unusedVariables false
set_option maxRecDepth 10000
set_option maxHeartbeats 4000000
theorem decS_enc {r : Int} (h : isR r) (t : List Int) : decS (enc r ++ t) = (r, ((enc r).length : Int), 0) := by
  obtain ⟨h0, h1, h2⟩ := h
  unfold enc
  split
  · rename_i c
    simp only [List.cons_append, List.nil_append, decS, List.take_succ_cons, List.take_zero, std, if_pos c, List.length_cons, List.length_nil]; rfl
  · split
    · rename_i c1 c2
      have e1 : std [192 + r / 64] = none := by simp only [std]; rw [if_neg (by omega)]
      have e2 : std [192 + r / 64, 128 + r % 64] = some r := by rw [std_some2]; omega
      simp only [List.cons_append, List.nil_append, decS, List.take_succ_cons, List.take_zero, e1, e2, List.length_cons, List.length_nil]
      rw [if_pos (by omega)]; rfl
    · split
      · rename_i c1 c2 c3
        have e1 : std [224 + r / 4096] = none := by simp only [std]; rw [if_neg (by omega)]
        have e2 : std [224 + r / 4096, 128 + r / 64 % 64] = none := by rw [std_none2]; omega
        have e3 : std [224 + r / 4096, 128 + r / 64 % 64, 128 + r % 64] = some r := by rw [std_some3]; omega
        simp only [List.cons_append, List.nil_append, decS, List.take_succ_cons, List.take_zero, e1, e2, e3, List.length_cons, List.length_nil, ite_self]
        rw [if_pos (by omega)]; rfl
      · rename_i c1 c2 c3
        have e1 : std [240 + r / 262144] = none := by simp only [std]; rw [if_neg (by omega)]
        have e2 : std [240 + r / 262144, 128 + r / 4096 % 64] = none := by rw [std_none2]; omega
        have e3 : std [240 + r / 262144, 128 + r / 4096 % 64, 128 + r / 64 % 64] = none := by rw [std_none3]; omega
        have e4 : std [240 + r / 262144, 128 + r / 4096 % 64, 128 + r / 64 % 64, 128 + r % 64] = some r := by rw [std_some4]; omega
        simp only [List.cons_append, List.nil_append, decS, List.take_succ_cons, List.take_zero, e1, e2, e3, e4, List.length_cons, List.length_nil, ite_self]
        rw [if_pos (by omega)]; rfl
theorem decS_320 {d : List Int} (h1 : std (d.take 1) = none) (h2 : 2 ≤ d.length → std (d.take 2) = none) (h3 : 3 ≤ d.length → std (d.take 3) = none) (hl : d.length < 4) (hb : bg d) : (decS d).2.2 = 320 := by
  have e2 : (if 2 ≤ d.length then std (d.take 2) else none) = none := by
    split
    · exact h2 (by assumption)
    · rfl
  have e3 : (if 3 ≤ d.length then std (d.take 3) else none) = none := by
    split
    · exact h3 (by assumption)
    · rfl
  have e4 : (if 4 ≤ d.length then std (d.take 4) else none) = none := if_neg (by omega)
  unfold decS
  rw [h1]; dsimp only
  rw [e2]; dsimp only
  rw [e3]; dsimp only
  rw [e4]; dsimp only
  rw [if_pos ⟨hl, hb⟩]
theorem decS_pre {r : Int} (h : isR r) : ∀ k : Nat, 0 < k → k < (enc r).length → (decS ((enc r).take k)).2.2 = 320 := by
  obtain ⟨h0, h1, h2⟩ := h
  unfold enc
  split
  · intro k hk hk2; simp only [List.length_cons, List.length_nil] at hk2; omega
  · split
    · rename_i c1 c2
      intro k hk hk2
      simp only [List.length_cons, List.length_nil] at hk2
      obtain rfl : k = 1 := by omega
      have e1 : std [192 + r / 64] = none := by simp only [std]; rw [if_neg (by omega)]
      exact decS_320 e1 (fun h => absurd h (by simp)) (fun h => absurd h (by simp)) (by simp) (by show 194 ≤ _ ∧ _ < 245; omega)
    · split
      · rename_i c1 c2 c3
        have e1 : std [224 + r / 4096] = none := by simp only [std]; rw [if_neg (by omega)]
        have e2 : std [224 + r / 4096, 128 + r / 64 % 64] = none := by rw [std_none2]; omega
        intro k hk hk2
        simp only [List.length_cons, List.length_nil] at hk2
        obtain rfl | rfl : k = 1 ∨ k = 2 := by omega
        · exact decS_320 e1 (fun h => absurd h (by simp)) (fun h => absurd h (by simp)) (by simp) (by show 194 ≤ _ ∧ _ < 245; omega)
        · exact decS_320 e1 (fun _ => e2) (fun h => absurd h (by simp)) (by simp) (by show (224 ≤ _ ∧ _ < 245) ∧ (128 ≤ _ ∧ _ < 192) ∧ (_ = 224 → 160 ≤ _) ∧ (_ = 237 → _ < 160) ∧ (_ = 240 → 144 ≤ _) ∧ (_ = 244 → _ < 144); omega)
      · rename_i c1 c2 c3
        have e1 : std [240 + r / 262144] = none := by simp only [std]; rw [if_neg (by omega)]
        have e2 : std [240 + r / 262144, 128 + r / 4096 % 64] = none := by rw [std_none2]; omega
        have e3 : std [240 + r / 262144, 128 + r / 4096 % 64, 128 + r / 64 % 64] = none := by rw [std_none3]; omega
        intro k hk hk2
        simp only [List.length_cons, List.length_nil] at hk2
        obtain rfl | rfl | rfl : k = 1 ∨ k = 2 ∨ k = 3 := by omega
        · exact decS_320 e1 (fun h => absurd h (by simp)) (fun h => absurd h (by simp)) (by simp) (by show 194 ≤ _ ∧ _ < 245; omega)
        · exact decS_320 e1 (fun _ => e2) (fun h => absurd h (by simp)) (by simp) (by show (224 ≤ _ ∧ _ < 245) ∧ (128 ≤ _ ∧ _ < 192) ∧ (_ = 224 → 160 ≤ _) ∧ (_ = 237 → _ < 160) ∧ (_ = 240 → 144 ≤ _) ∧ (_ = 244 → _ < 144); omega)
        · exact decS_320 e1 (fun _ => e2) (fun _ => e3) (by simp) (by show (240 ≤ _ ∧ _ < 245) ∧ (128 ≤ _ ∧ _ < 192) ∧ (128 ≤ _ ∧ _ < 192) ∧ (_ = 240 → 144 ≤ _) ∧ (_ = 244 → _ < 144); omega)
theorem enc_pos {r : Int} : 1 ≤ (enc r).length := by rw [enc_len]; (repeat' split) <;> omega
theorem dec_app {r : Int} (h : isR r) (p t : List Int) : dec (p ++ enc r ++ t) p.length = (r, ((enc r).length : Int), 0) := by
  have hp := @enc_pos r
  unfold dec
  rw [if_neg (by simp only [List.length_append]; omega)]
  rw [show (p.length : Int).toNat = p.length by omega, List.append_assoc, List.drop_left]
  exact decS_enc h t
/-- What leads to a place, read off. -/
theorem Rch.flat {b rs ss : List Int} {p : Int} (hb : By b) (h : Rch b rs ss p) : b.take p.toNat = rs.flatMap enc ∧ ∀ r ∈ rs, isR r := by
  induction h with
  | nil => exact ⟨rfl, fun r h => by cases h⟩
  | @step rs ss q r n h hd ih =>
    obtain ⟨h1, h2, h3, h4, h5, h6, h7⟩ := dec_ok hb hd
    refine ⟨?_, fun x hx => ?_⟩
    · rw [List.flatMap_append, List.flatMap_cons, List.flatMap_nil, List.append_nil, ← ih.1, ← h7, show (q + n).toNat = q.toNat + n.toNat by omega, List.take_add]
    · rcases List.mem_append.1 hx with hx | hx
      · exact ih.2 x hx
      · simp only [List.mem_cons, List.not_mem_nil, or_false] at hx; subst hx; exact h6
theorem Rch.of_flat : ∀ (l : List Int), (∀ r ∈ l, isR r) → ∀ t : List Int, ∃ ss, Rch (l.flatMap enc ++ t) l ss (l.flatMap enc).length := by
  intro l
  induction hn : l.length generalizing l with
  | zero =>
    intro _ t
    have := List.eq_nil_of_length_eq_zero hn
    subst this; exact ⟨[], .nil⟩
  | succ n ih =>
    have hne : l ≠ [] := fun e => by subst e; simp at hn
    obtain ⟨l, r, rfl⟩ : ∃ l' r, l = l' ++ [r] := ⟨_, _, (List.dropLast_concat_getLast hne).symm⟩
    have ih := ih l (by simpa using hn)
    intro hr t
    obtain ⟨ss, h⟩ := ih (fun x hx => hr x (List.mem_append_left _ hx)) (enc r ++ t)
    have e : (l ++ [r]).flatMap enc ++ t = l.flatMap enc ++ (enc r ++ t) := by
      rw [List.flatMap_append, List.flatMap_cons, List.flatMap_nil, List.append_nil, List.append_assoc]
    have hd := dec_app (hr r (by simp)) (l.flatMap enc) t
    rw [List.append_assoc] at hd
    refine ⟨ss ++ [((l.flatMap enc).length : Int)], ?_⟩
    rw [e]
    have := Rch.step h hd
    rw [show (((l ++ [r]).flatMap enc).length : Int) = (l.flatMap enc).length + (enc r).length by
      rw [List.flatMap_append, List.flatMap_cons, List.flatMap_nil, List.append_nil, List.length_append]; omega]
    exact this
theorem flat_by {l : List Int} (h : ∀ r ∈ l, isR r) : By (l.flatMap enc) := fun n hn => by
  obtain ⟨r, hr, hn⟩ := List.mem_flatMap.1 hn
  exact enc_by (h r hr) n hn
/-- A place that is reached before another one is among its starts. -/
theorem Rch.mid {b rs ss rs' ss' : List Int} {p q : Int} (h : Rch b rs ss p) (h' : Rch b rs' ss' q) (hl : rs.length < rs'.length) : p ∈ ss' := by
  induction h' with
  | nil => simp at hl
  | @step rs' ss' q r n h' hd ih =>
    rw [List.length_append, List.length_singleton] at hl
    by_cases e : rs.length = rs'.length
    · obtain ⟨_, _, rfl⟩ := h.det h' e
      exact List.mem_append_right _ List.mem_cons_self
    · exact List.mem_append_left _ (ih (by omega))
/-- What leads to a place of a text's beginning leads there in the text. -/
theorem Rch.longer {b rs ss : List Int} {p : Int} {i : Nat} (hb : By b) (h : Rch (b.take i) rs ss p) : Rch b rs ss p := by
  induction h with
  | nil => exact .nil
  | @step rs ss q r n h hd ih =>
    obtain ⟨h1, h2, h3, h4, h5, h6, h7⟩ := dec_ok (hb.take i) hd
    refine .step ih ?_
    have hw := dec_width (hb.take i) hd
    have e : b = b.take q.toNat ++ enc r ++ b.drop (q.toNat + n.toNat) := by
      have h8 : (b.drop q.toNat).take n.toNat = enc r := by
        rw [← h7, List.drop_take, List.take_take]
        congr 1
        rw [List.length_take] at h5
        omega
      rw [← h8, List.append_assoc, ← List.drop_drop, List.take_append_drop, List.take_append_drop]
    have hq : (b.take q.toNat).length = q.toNat := by
      rw [List.length_take] at *
      omega
    have hd2 := dec_app h6 (b.take q.toNat) (b.drop (q.toNat + n.toNat))
    rw [← e, hq, show (q.toNat : Int) = q by omega] at hd2
    rw [hd2, hw]
/-- A text is cut at its starts, and nowhere else. -/
theorem cut_iff {b rs ss : List Int} {i : Nat} (hb : By b) (h8 : b.length ≤ 8000) (h : Rch b rs ss b.length) (hi : i ≤ b.length) :
    (i : Int) ∈ ss ++ [(b.length : Int)] ↔ (∀ p e, ChkP (b.take i) p e → e = 0) ∧ ∀ p e, ChkP (b.drop i) p e → e = 0 := by
  constructor
  · intro hm
    -- the runes before
    obtain ⟨rs1, ss1, h1⟩ : ∃ rs1 ss1, Rch b rs1 ss1 i ∧ ∃ rs2, rs = rs1 ++ rs2 := by
      have key : ∀ {rs ss : List Int} {p : Int}, Rch b rs ss p → ∀ s ∈ ss ++ [p], ∃ rs1 ss1, Rch b rs1 ss1 s ∧ ∃ rs2, rs = rs1 ++ rs2 := by
        intro rs ss p h
        induction h with
        | nil => intro s hs; simp only [List.nil_append, List.mem_cons, List.not_mem_nil, or_false] at hs; subst hs; exact ⟨[], [], .nil, [], rfl⟩
        | @step rs ss q r n h hd ih =>
          intro s hs
          rcases List.mem_append.1 hs with hs | hs
          · obtain ⟨rs1, ss1, q1, rs2, rfl⟩ := ih s hs
            exact ⟨rs1, ss1, q1, rs2 ++ [r], by rw [List.append_assoc]⟩
          · simp only [List.mem_cons, List.not_mem_nil, or_false] at hs; subst hs
            exact ⟨_, _, .step h hd, [], by simp⟩
      exact key h _ hm
    obtain ⟨h1, rs2, rfl⟩ := h1
    obtain ⟨q1, q2⟩ := h1.flat hb
    obtain ⟨q3, q4⟩ := h.flat hb
    rw [show (i : Int).toNat = i by omega] at q1
    rw [show (b.length : Int).toNat = b.length by omega, List.take_length, List.flatMap_append] at q3
    have q5 : b.drop i = rs2.flatMap enc := by
      have e : b.take i ++ b.drop i = rs1.flatMap enc ++ rs2.flatMap enc := by rw [List.take_append_drop]; exact q3
      rw [q1] at e
      exact List.append_cancel_left e
    have done : ∀ l : List Int, (∀ r ∈ l, isR r) → (l.flatMap enc).length ≤ 8000 → ∀ p e, ChkP (l.flatMap enc) p e → e = 0 := fun l hl h8 p e hc => by
      obtain ⟨ss, hs⟩ := Rch.of_flat l hl []
      rw [List.append_nil] at hs
      exact (ChkP.uni (flat_by hl) hc (.inr ⟨h8, _, _, hs, .inl ⟨rfl, rfl⟩⟩)).2
    refine ⟨?_, ?_⟩
    · rw [q1]; exact done rs1 q2 (by rw [← q1, List.length_take]; omega)
    · rw [q5]; exact done rs2 (fun r hr => q4 r (List.mem_append_right _ hr)) (by rw [← q5, List.length_drop]; omega)
  · rintro ⟨h1, _⟩
    -- the beginning's check went well: its end is reached
    have hl : ((b.take i).length : Int) = i := by rw [List.length_take]; omega
    -- some check there is
    have hex : ∃ rs' ss', Rch (b.take i) rs' ss' i := by
      -- the furthest place that is reached
      have far : ∀ m : Nat, ∃ rs' ss' p, Rch (b.take i) rs' ss' p ∧ ((dec (b.take i) p).2.2 ≠ 0 ∨ m ≤ rs'.length) := by
        intro m
        induction m with
        | zero => exact ⟨[], [], 0, .nil, .inr (Nat.zero_le _)⟩
        | succ m ih =>
          obtain ⟨rs', ss', p, q1, q2⟩ := ih
          by_cases c : (dec (b.take i) p).2.2 = 0
          · rcases q2 with q2 | q2
            · exact absurd c q2
            · refine ⟨_, _, _, .step (r := (dec (b.take i) p).1) (n := (dec (b.take i) p).2.1) q1 (by rw [← c]), .inr ?_⟩
              simp only [List.length_append, List.length_singleton]; omega
          · exact ⟨rs', ss', p, q1, .inl c⟩
      obtain ⟨rs', ss', p, q1, q2⟩ := far (i + 1)
      have q3 := q1.bd (hb.take i)
      have q4 := q1.cnt (hb.take i)
      rcases q2 with q2 | q2
      · rcases Int.lt_or_le p (b.take i).length with c | c
        · have := h1 p _ (.inr ⟨by rw [List.length_take]; omega, rs', ss', q1, .inr ⟨c, rfl, q2⟩⟩)
          exact absurd this q2
        · exact ⟨rs', ss', by rw [show (i : Int) = p by omega]; exact q1⟩
      · omega
    obtain ⟨rs', ss', q1⟩ := hex
    have q2 := q1.longer hb
    rcases Nat.lt_trichotomy rs'.length rs.length with c | c | c
    · exact List.mem_append_left _ (q2.mid h c)
    · obtain ⟨_, _, e⟩ := q2.det h c
      rw [e]; exact List.mem_append_right _ List.mem_cons_self
    · have := (h.lt hb q2 c).1
      omega
end Go.Ab.R2
end
