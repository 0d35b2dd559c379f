/- Walks: what each function computes. -/
import Derived.Test.YtfokbedokggilaaDoorW15
set_option linter.all false
section
namespace Go.Ab.R2
open Go.Proofs Go.Ab Go.Ab.C2
set_option linter.unusedSimpArgs false
set_option linter.unusedVariables false
set_option maxRecDepth 10000
set_option maxHeartbeats 4000000
/-- Bytes in their order. -/
def lexI : List Int → List Int → Prop
  | _, [] => False
  | [], _ :: _ => True
  | a :: x, b :: y => a < b ∨ (a = b ∧ lexI x y)
theorem less_lex : ∀ {x y : List Int}, By x → By y → (Op.bytesLess (toS x).data.toList (toS y).data.toList = true ↔ lexI x y) := by
  have key : ∀ {x y : List Int}, By x → By y → (Op.bytesLess (x.map fun n => UInt8.ofNat n.toNat) (y.map fun n => UInt8.ofNat n.toNat) = true ↔ lexI x y) := by
    intro x
    induction x with
    | nil =>
      intro y _ _
      cases y <;> simp [Op.bytesLess, lexI]
    | cons a x ih =>
      intro y hx hy
      cases y with
      | nil => simp [Op.bytesLess, lexI]
      | cons b y =>
        have ha := hx a List.mem_cons_self
        have hb := hy b List.mem_cons_self
        have h1 := ih (fun n hn => hx n (List.mem_cons_of_mem _ hn)) (y := y) (fun n hn => hy n (List.mem_cons_of_mem _ hn))
        have e1 : (UInt8.ofNat a.toNat).toNat = a.toNat := UInt8.toNat_ofNat_of_lt' (by show a.toNat < 256; omega)
        have e2 : (UInt8.ofNat b.toNat).toNat = b.toNat := UInt8.toNat_ofNat_of_lt' (by show b.toNat < 256; omega)
        have e3 : UInt8.ofNat a.toNat < UInt8.ofNat b.toNat ↔ a < b := by rw [UInt8.lt_iff_toNat_lt, e1, e2]; omega
        have e4 : UInt8.ofNat a.toNat = UInt8.ofNat b.toNat ↔ a = b := by
          constructor
          · intro h
            have := congrArg UInt8.toNat h
            rw [e1, e2] at this; omega
          · rintro rfl; rfl
        simp only [List.map_cons, Op.bytesLess, Bool.or_eq_true, Bool.and_eq_true, decide_eq_true_eq, beq_iff_eq, e3, e4, h1, lexI]
  intro x y hx hy
  exact key hx hy
theorem lexI_nil (x : List Int) : lexI x [] = False := by cases x <;> rfl
theorem lex_enc {r s : Int} (hr : isR r) (hs : isR s) : lexI (enc r) (enc s) ↔ r < s := by
  obtain ⟨h0, h1, h2⟩ := hr
  obtain ⟨g0, g1, g2⟩ := hs
  unfold enc
  (repeat' split) <;> simp only [lexI, lexI_nil, and_false, or_false] <;> omega
theorem less_enc {r s : Int} (hr : isR r) (hs : isR s) : Op.bytesLess (toS (enc r)).data.toList (toS (enc s)).data.toList = true ↔ r < s := (less_lex (enc_by hr) (enc_by hs)).trans (lex_enc hr hs)
theorem enc_inj {r s : Int} (hr : isR r) (hs : isR s) (h : enc r = enc s) : r = s := by
  have h1 := decS_enc hr []
  have h2 := decS_enc hs []
  rw [h, h2] at h1
  simp only [Prod.mk.injEq] at h1
  exact h1.1.symm
theorem on_of {b rs ss : List Int} {k e : Int} {t : Bool} (hb : By b) (h8 : b.length ≤ 8000) (h : Rch b rs ss b.length) (h0 : 0 ≤ k) (h1 : k ≤ b.length) (ho : OnP b k t e) : e = 0 ∧ ((t = true ∧ k ∈ ss ++ [(b.length : Int)]) ∨ (t = false ∧ ¬ k ∈ ss ++ [(b.length : Int)])) := by
  obtain ⟨x, hx, ht⟩ := ho
  rcases hx with ⟨rs', ss', _, g2, _, _, g5, g6, g7, g8⟩ | ⟨_, g2, _⟩ | ⟨p, g1, g2, _⟩
  · obtain ⟨rfl, rfl⟩ := h.uni hb g2
    refine ⟨g5, ?_⟩
    rcases ht with ⟨rfl, _, rfl⟩ | ⟨rfl, g9⟩
    · exact .inl ⟨rfl, g6⟩
    · refine .inr ⟨rfl, fun hm => g9 ⟨g5, ?_⟩⟩
      have := g8 k hm (Int.le_refl _); omega
  · exact absurd ⟨h0, h1⟩ g2
  · exact absurd (ChkP.uni hb g1 (.inr ⟨h8, _, _, h, .inl ⟨rfl, rfl⟩⟩)).2 g2
theorem Rch.gap {b rs ss : List Int} {p : Int} (hb : By b) (h : Rch b rs ss p) : ∀ (i : Nat) (s : Int), (ss ++ [p])[i]? = some s → s < p → ∃ t, (ss ++ [p])[i + 1]? = some t ∧ t ≤ s + 4 := by
  induction h with
  | nil =>
    intro i s hi hs
    rcases i with _ | i
    · simp at hi; omega
    · simp at hi
  | @step rs ss q r n h hd ih =>
    intro i s hi hs
    have h1 := dec_ok hb hd
    have hl : i < ((ss ++ [q]) ++ [q + n]).length := by
      rcases Nat.lt_or_ge i ((ss ++ [q]) ++ [q + n]).length with h | h
      · exact h
      · rw [List.getElem?_eq_none h] at hi; cases hi
    simp only [List.length_append, List.length_cons, List.length_nil] at hl
    by_cases c : i < ss.length + 1
    · rw [List.getElem?_append_left (by simp; omega)] at hi
      by_cases d : s < q
      · obtain ⟨t, g1, g2⟩ := ih i s hi d
        refine ⟨t, ?_, g2⟩
        rw [List.getElem?_append_left (by
          rcases Nat.lt_or_ge (i + 1) (ss ++ [q]).length with h | h
          · exact h
          · rw [List.getElem?_eq_none h] at g1; cases g1)]
        exact g1
      · have hsq : s = q := by
          have := List.mem_of_getElem? hi
          rcases List.mem_append.1 this with hm | hm
          · have := h.mem hb _ hm; omega
          · simp only [List.mem_cons, List.not_mem_nil, or_false] at hm; omega
        subst hsq
        have hil : i = ss.length := by
          rcases Nat.lt_or_ge i ss.length with e | e
          · rw [List.getElem?_append_left e] at hi
            have := h.mem hb _ (List.mem_of_getElem? hi); omega
          · omega
        subst hil
        refine ⟨s + n, ?_, by omega⟩
        rw [List.getElem?_append_right (by simp)]
        simp
    · rw [List.getElem?_append_right (by simp; omega)] at hi
      have := List.mem_of_getElem? hi
      simp only [List.mem_cons, List.not_mem_nil, or_false] at this
      omega
theorem back_of {b rs ss : List Int} {k x e : Int} (hb : By b) (h8 : b.length ≤ 8000) (h : Rch b rs ss b.length) (h0 : 0 ≤ k) (h1 : k ≤ b.length) (ho : BacP b k x e) : e = 0 ∧ x ≤ k ∧ k - 3 ≤ x ∧ (x = k ↔ k ∈ ss ++ [(b.length : Int)]) := by
  rcases ho with ⟨rs', ss', _, g2, _, _, g5, g6, g7, g8⟩ | ⟨_, g2, _⟩ | ⟨p, g1, g2, _⟩
  · obtain ⟨rfl, rfl⟩ := h.uni hb g2
    refine ⟨g5, g7, ?_, ?_, fun hm => ?_⟩
    · by_cases c : x = k
      · omega
      · obtain ⟨i, hi⟩ := List.getElem?_of_mem g6
        obtain ⟨t, ht1, ht2⟩ := h.gap hb i x hi (by omega)
        have ht3 := h.asc hb i (i + 1) x t hi ht1 (by omega)
        have ht4 := g8 t (List.mem_of_getElem? ht1)
        omega
    · rintro rfl; exact g6
    · have := g8 k hm (Int.le_refl _); omega
  · exact absurd ⟨h0, h1⟩ g2
  · exact absurd (ChkP.uni hb g1 (.inr ⟨h8, _, _, h, .inl ⟨rfl, rfl⟩⟩)).2 g2
theorem chk_cut {b rs ss : List Int} {k p e p' e' : Int} (hb : By b) (h8 : b.length ≤ 8000) (h : Rch b rs ss b.length) (h0 : 0 ≤ k) (h1 : k ≤ b.length) (hc : ChkP (b.take k.toNat) p e) (hc' : ChkP (b.drop k.toNat) p' e') : k ∈ ss ++ [(b.length : Int)] ↔ e = 0 ∧ e' = 0 := by
  have h2 := cut_iff (i := k.toNat) hb h8 h (by omega)
  rw [show (k.toNat : Int) = k by omega] at h2
  rw [h2]
  constructor
  · rintro ⟨g1, g2⟩; exact ⟨g1 _ _ hc, g2 _ _ hc'⟩
  · rintro ⟨rfl, rfl⟩
    exact ⟨fun q f hq => (ChkP.uni (hb.take _) hq hc).2, fun q f hq => (ChkP.uni (hb.drop _) hq hc').2⟩
end Go.Ab.R2
end
section
namespace Go.Ab.R2
open Go.Proofs Go.Ab Go.Ab.C2
set_option linter.unusedSimpArgs false
set_option linter.unusedVariables false
set_option maxRecDepth 10000
set_option maxHeartbeats 8000000
theorem dec_enc0 {r x n e : Int} {b : List Int} (hr : isR r) (h : (x, n, e) = dec ([] ++ enc r ++ b) 0) : r = x ∧ n = (enc r).length ∧ e = 0 := by
  have h1 := dec_app hr [] b
  rw [show (([] : List Int).length : Int) = 0 from rfl, ← h] at h1
  simp only [Prod.mk.injEq] at h1
  exact ⟨h1.1.symm, h1.2⟩
theorem dec_pre {r x n e k : Int} (hr : isR r) (h0 : 0 ≤ k) (hk : k < (enc r).length) (h : (x, n, e) = dec ((enc r).take k.toNat) 0) : (k = 0 → e = 7) ∧ (0 < k → e = 320) := by
  have he : e = (dec ((enc r).take k.toNat) 0).2.2 := by rw [← h]
  refine ⟨?_, fun hp => ?_⟩
  · rintro rfl
    rw [he]; unfold dec; rw [if_pos (by simp)]
  · rw [he]; unfold dec
    rw [if_neg (by rw [List.length_take]; omega)]
    exact decS_pre hr k.toNat (by omega) (by omega)
theorem dec_sub {b : List Int} {k x n : Int} (hb : By b) (h : (x, n, (0 : Int)) = dec b k) : 0 ≤ k ∧ k < b.length ∧ isR x ∧ n = (enc x).length ∧ 1 ≤ n ∧ n ≤ 4 ∧ k + n ≤ b.length ∧ (b.take (k + n).toNat).drop k.toNat = enc x := by
  obtain ⟨h1, h2, h3, h4, h5, h6, h7⟩ := dec_ok hb h.symm
  refine ⟨h1, h2, h6, dec_width hb h.symm, h3, h4, h5, ?_⟩
  rw [← h7, List.drop_take]
  congr 1
  omega
theorem bytes_runes {b rs ss : List Int} {M : List AV} {k e : Int} (hb : By b) (h8 : b.length ≤ 8000) (h : Rch b rs ss b.length) (hp : BytP rs M k e) : M = b.map vu ∧ e = 0 := by
  obtain ⟨h1, h2⟩ := h.flat hb
  rw [show (b.length : Int).toNat = b.length by omega, List.take_length] at h1
  obtain ⟨q1, _, q3⟩ := hp.uni (.inr ⟨h2, .inl ⟨by rw [← h1]; exact h8, rfl, rfl, rfl⟩⟩)
  exact ⟨by rw [q1, ← h1], q3⟩
theorem runes_bytes {l : List Int} {M : List AV} {e : Int} (hl : ∀ n ∈ l, isR n) (h8 : (l.flatMap enc).length ≤ 8000) (hp : RunP (l.flatMap enc) M e) : M = l.map vr ∧ e = 0 := by
  obtain ⟨ss, h⟩ := Rch.of_flat l hl []
  rw [List.append_nil] at h
  exact hp.uni (flat_by hl) (.inl ⟨l, ss, .inr ⟨h8, _, _, h, .inl ⟨rfl, rfl⟩⟩, h, rfl, rfl⟩)
theorem f8 {r0 : Int} {b l : List Int} {L M : List AV} (hL : L = b.map vu) (hb : By b) (hM : M = l.map vr) : ACall En 8 ⟨3, [(0, vr r0), (1, .sl 1 L), (2, .sl 1 M)], [], [], []⟩ (Ret1 vb fun t => t = true) := by
  refine ACall.vm {} [] ok8 glNil mixed rfl fun o R' ho hR => ?_
  (conv => cbv) <;> repeat' (first | (refine hR _ _ ⟨rfl, _, ?_, rfl⟩) | (((refine q_call2 ‹_› (f13 r0) (fun M1 e1 hp1 => ?_))) <;> (conv => cbv) <;> (rcases hp1 with ⟨hr0, hM1, he1⟩ | ⟨hr0, hM1, he1⟩ <;> subst he1)) | ((first | (refine q_appM (x := []) (y := enc r0) ‹_› rfl hM1 (by have := @enc_le r0; simp only [List.length_nil]; omega) (fun A1 hA1 => ?_)) | (refine q_appM (x := [] ++ enc r0) (y := b) ‹_› hA1 hL (by have := @enc_le r0; simp only [List.nil_append]; omega) (fun A2 hA2 => ?_))) <;> (conv => cbv)) | (((refine q_call3 ‹_› (f11 hA2 (((By.nil).app (enc_by hr0)).app hb)) (fun x1 n1 e2 hd => ?_))) <;> (conv => cbv) <;> (obtain ⟨g1, g2, g3⟩ := dec_enc0 hr0 hd; subst g1; subst g3)) | ((first | (refine q_loop ‹_› (fun k : Int => ⟨181, [(1, .sl 1 L), (2, .sl 1 M), (7, .sl 1 M1), (12, vi k)], [], [], []⟩) (fun k => 0 ≤ k ∧ k ≤ (enc r0).length) (fun k => ((enc r0).length - k).toNat) 0 ⟨Int.le_refl _, by omega⟩ ⟨rfl, ⟨rfl, rfl, rfl, rfl, trivial⟩, trivial, rfl, .inl rfl⟩ ?_; rintro k ⟨hk0, hk1⟩ Q' hQn hQe; have hel := @enc_le r0)) <;> (conv => cbv)) | (((refine q_call3 ‹_› (f11 (b := (enc r0).take k.toNat) (by assumption) ((enc_by hr0).take _)) (fun x2 n2 e3 hd3 => ?_))) <;> (conv => cbv) <;> (obtain ⟨g1, g2⟩ := dec_pre hr0 hk0 (by omega) hd3)) | (refine hQn _ ⟨_, ?_, ?_, rfl, ⟨rfl, rfl, rfl, rfl, trivial⟩, trivial, rfl, .inl rfl⟩) | ((first | refine hQe _ _ nofun ?_ | (refine q_loop ‹_› (fun k : Int => ⟨181, [(1, .sl 1 L), (2, .sl 1 M), (16, vi k)], [], [], []⟩) (fun k => 0 ≤ k ∧ k ≤ b.length) (fun k => (b.length - k).toNat) 0 ⟨Int.le_refl _, by omega⟩ ⟨rfl, ⟨rfl, rfl, rfl, trivial⟩, trivial, rfl, .inl rfl⟩ ?_; rintro k ⟨hk0, hk1⟩ Qb hQnb hQeb)) <;> (conv => cbv)) | (((refine q_call3 ‹_› (f11 hL hb) (fun x4 n4 e4 hd4 => ?_))) <;> (conv => cbv) <;> (by_cases hz : e4 = 0 <;> first | (subst hz; obtain ⟨_, hkl, hx4, hn4, hn1, hn5, hkn, hsub⟩ := dec_sub hb hd4) | skip)) | (((refine q_call2 ‹_› (f13 x4) (fun M5 e5 hp5 => ?_))) <;> (conv => cbv) <;> (rcases hp5 with ⟨_, hM5, he5⟩ | ⟨hr5, _, _⟩ <;> first | exact absurd hx4 hr5 | subst he5)) | (refine hQnb _ ⟨_, ?_, ?_, rfl, ⟨rfl, rfl, rfl, trivial⟩, trivial, rfl, .inl rfl⟩) | ((first | refine hQeb _ _ nofun ?_) <;> (conv => cbv)) | (((refine q_call2 ‹_› (f26 hL hb (by omega)) (fun M6 e6 hp6 => ?_))) <;> (conv => cbv) <;> (rcases hp6 with ⟨rs, ss, hc, hrch, hM6, he6⟩ | ⟨p, hc, he6, hM6⟩ <;> first | (subst he6; have hcn := hrch.cnt hb) | skip)) | (((refine q_call3 ‹_› (f27 hM6 (by omega)) (fun M7 k7 e7 hp7 => ?_))) <;> (conv => cbv) <;> (obtain ⟨hM7, he7⟩ := bytes_runes hb (by omega) hrch hp7; subst he7)) | (((refine q_call3 ‹_› (f27 hM (by omega)) (fun M8 k8 e8 hp8 => ?_))) <;> (conv => cbv) <;> (rcases hp8 with ⟨_, _, _, _, _, hM8, _, he8⟩ | ⟨hl8, ⟨h88, hM8, _, he8⟩ | ⟨_, hM8, _, he8⟩⟩ <;> subst he8)) | (((refine q_call2 ‹_› (f26 (b := l.flatMap enc) hM8 (flat_by hl8) (by omega)) (fun M9 e9 hp9 => ?_))) <;> (conv => cbv) <;> (obtain ⟨hM9, he9⟩ := runes_bytes hl8 h88 hp9; subst he9)) | (((refine q_call1 ‹_› (f28 hM9 hM (by omega)) (fun t ht => ?_))) <;> (conv => cbv) <;> (rcases ht with ⟨ht, hs⟩ | ⟨ht, hs⟩ <;> first | exact absurd rfl hs | subst ht)) | (((refine q_call1 ‹_› f10 (fun t ht => ?_))) <;> (conv => cbv) <;> (subst ht)) | ((first | refine q_lss ‹_› (fun h => ?_) (fun h => ?_) | refine q_gtr ‹_› (fun h => ?_) (fun h => ?_) | refine q_eqlT ‹_› (by omega) ?_ | refine q_eqlF ‹_› (by omega) ?_ | refine q_neqT ‹_› (by omega) ?_ | refine q_neqF ‹_› (by omega) ?_ | refine q_sneq ‹_› (fun h => ?_) (fun h => ?_) | refine q_add64 ‹_› (by omega) (by omega) (fun n hn => ?_) | refine q_tostrM ‹_› (by assumption) (fun s hs => ?_) | refine q_lenM ‹_› (by assumption) (fun n hn => ?_) | refine q_sub2M ‹_› (by assumption) (by omega) (by omega) (by omega) (fun r hr => ?_) | refine q_subHiM ‹_› (by assumption) (by omega) (by omega) (fun r hr => ?_) | refine q_free ‹_› ?_) <;> (conv => cbv)))
  all_goals clear hR ho
  all_goals try clear hQn hQe
  all_goals try clear hQnb hQeb
  all_goals first | rfl | omega | (subst_vars; exact absurd rfl (by assumption)) | (exfalso; subst_vars; exact (‹¬ toS (_ : List Int) = toS _›) (by rw [hsub]))
end Go.Ab.R2
end
