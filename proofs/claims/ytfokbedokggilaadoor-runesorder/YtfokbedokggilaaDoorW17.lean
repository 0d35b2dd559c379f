/- Walks: what each function computes. -/
import Derived.Test.YtfokbedokggilaaDoorK13
set_option linter.all false
section
namespace Go.Ab.R2
open Go.Proofs Go.Ab Go.Ab.C2
set_option linter.unusedSimpArgs false
set_option linter.unusedVariables false
set_option maxRecDepth 10000
set_option maxHeartbeats 8000000
theorem ord_hit {l : List Int} {k x : Int} (asc : ∀ (i j : Nat) (s t : Int), l[i]? = some s → l[j]? = some t → i < j → s < t) (h0 : 0 ≤ x) (hx : x ≤ l.length) (h4 : ∀ (j : Nat) t, l[j]? = some t → ((j : Int) < x ↔ t < k)) (hm : k ∈ l) : x < l.length ∧ l[x.toNat]? = some k ∧ ∀ (j : Nat) t, l[j]? = some t → ((j : Int) < x + 1 ↔ t < k + 1) := by
  obtain ⟨i, hi⟩ := List.getElem?_of_mem hm
  have hil : i < l.length := by
    rcases Nat.lt_or_ge i l.length with h | h
    · exact h
    · rw [List.getElem?_eq_none h] at hi; cases hi
  have h1 := h4 i k hi
  have hix : (i : Int) = x := by
    have hxi : ¬ x < i := by
      intro hlt
      have he : l[x.toNat]? = some l[x.toNat] := List.getElem?_eq_getElem (by omega)
      have h2 := asc x.toNat i _ _ he hi (by omega)
      have h3 := h4 x.toNat _ he
      omega
    omega
  refine ⟨by omega, by rw [← hix]; exact hi, fun j t hj => ?_⟩
  rcases Nat.lt_trichotomy j i with h | h | h
  · have := asc j i _ _ hj hi h; omega
  · subst h; rw [hi] at hj; cases hj; omega
  · have := asc i j _ _ hi hj h; omega
theorem ord_miss {l : List Int} {k x : Int} (h4 : ∀ (j : Nat) t, l[j]? = some t → ((j : Int) < x ↔ t < k)) (hm : ¬ k ∈ l) : ∀ (j : Nat) t, l[j]? = some t → ((j : Int) < x ↔ t < k + 1) := by
  intro j t hj
  have h1 : t ≠ k := fun h => hm (h ▸ List.mem_of_getElem? hj)
  have := h4 j t hj
  omega
theorem ord_end {ss : List Int} {k x p : Int} (h4 : ∀ (j : Nat) t, (ss ++ [p])[j]? = some t → ((j : Int) < x ↔ t < k)) (hp : p < k) : ss.length < x := (h4 ss.length p (by simp)).2 hp
theorem f6 {r s : Int} {b : List Int} {L : List AV} (hL : L = b.map vu) (hb : By b) : ACall En 6 ⟨3, [(0, vr r), (1, vr s), (2, .sl 1 L)], [], [], []⟩ (Ret1 vb fun t => t = true) := by
  refine ACall.vm {} [] ok6 glNil mixed rfl fun o R' ho hR => ?_
  refine vC_cutP 4 [2] (fun _ : Unit => ⟨177, [(2, .sl 1 L)], [], [], []⟩) (fun _ => b.length ≤ 200) rfl rfl (fun _ hbl => ?_) (fun T hT => ?_)
  · (conv => cbv) <;> repeat' (first | (refine hR _ _ ⟨rfl, _, ?_, rfl⟩) | (((refine q_call2 ‹_› (f17 hL hb (by omega)) (fun M e hp => ?_))) <;> (conv => cbv) <;> (rcases hp with ⟨rs, ss, hc, hrch, hM, he⟩ | ⟨p, hc, he, hM⟩ <;> first | (subst he; have h8 := hc.le rfl; have hln := hrch.len; have hcn := hrch.cnt hb; have hlen : (ss ++ [(b.length : Int)]).length = ss.length + 1 := List.length_append) | skip)) | ((first | (refine q_loop ‹_› (fun k : Int × Int => ⟨177, [(2, .sl 1 L), (11, .sl 1 M), (12, vi k.2), (13, vi k.1)], [], [], []⟩) (fun k => 0 ≤ k.1 ∧ k.1 ≤ b.length + 1 ∧ 0 ≤ k.2 ∧ k.2 ≤ (ss ++ [(b.length : Int)]).length ∧ ∀ (j : Nat) t, (ss ++ [(b.length : Int)])[j]? = some t → ((j : Int) < k.2 ↔ t < k.1)) (fun k => (b.length + 1 - k.1).toNat) (0, 0) ⟨Int.le_refl _, by omega, Int.le_refl _, by omega, fun j t ht => ⟨by omega, fun h => by have := hrch.mem hb t; rcases List.mem_append.1 (List.mem_of_getElem? ht) with hm | hm; have := this hm; omega; simp only [List.mem_cons, List.not_mem_nil, or_false] at hm; omega⟩⟩ ⟨rfl, ⟨rfl, rfl, rfl, rfl, trivial⟩, trivial, rfl, .inl rfl⟩ ?_; rintro ⟨k, x⟩ ⟨hk0, hk1, hk2, hk3, hk4⟩ Q' hQn hQe; simp only at hk0 hk1 hk2 hk3 hk4)) <;> (conv => cbv)) | (((refine q_call2 ‹_› (f19 hL hb (by omega)) (fun t e3 hp3 => ?_))) <;> (conv => cbv) <;> (obtain ⟨he3, ht⟩ := on_of hb h8 hrch (by omega) (by omega) hp3; subst he3; rcases ht with ⟨ht, hmem⟩ | ⟨ht, hmem⟩ <;> subst ht)) | (((refine q_call2 ‹_› (f21 hL hb (by omega)) (fun y e4 hp4 => ?_))) <;> (conv => cbv) <;> (obtain ⟨he4, hy1, hy2, hy3⟩ := back_of hb h8 hrch (by omega) (by omega) hp4; subst he4)) | ((first | (refine q_call2 ‹_› (f24 (b := b.take k.toNat) (by assumption) (hb.take _) (by rw [List.length_take]; omega)) (fun p1 e5 hp5 => ?_))) <;> (conv => cbv)) | (((refine q_call2 ‹_› (f24 (b := b.drop k.toNat) (by assumption) (hb.drop _) (by rw [List.length_drop]; omega)) (fun p2 e6 hp6 => ?_))) <;> (conv => cbv) <;> (have hcut := chk_cut hb h8 hrch (by omega) (by omega) hp5 hp6; by_cases hz : e5 = 0 ∧ e6 = 0 <;> first | (exact absurd (hcut.2 hz) hmem) | (exact absurd (hcut.1 hmem) hz) | skip)) | (((refine q_call2 ‹_› (f25 hL hb (by omega)) (fun c e7 hp7 => ?_))) <;> (conv => cbv) <;> (obtain ⟨hc7, he7⟩ := hp7.uni hb ⟨rs.map vr, .inl ⟨rs, ss, hc, hrch, rfl, rfl⟩, rfl⟩; subst he7; rw [List.length_map] at hc7)) | (((refine q_call1 ‹_› f10 (fun t ht => ?_))) <;> (conv => cbv) <;> (subst ht)) | (refine hQn _ ⟨(_, _), ?_, ?_, rfl, ⟨rfl, rfl, rfl, rfl, trivial⟩, trivial, rfl, .inl rfl⟩) | ((first | refine hQe _ _ nofun ?_ | refine q_lssF ‹_› (by omega) ?_ | refine q_leq ‹_› (fun h => ?_) (fun h => ?_) | refine q_gtrF ‹_› (by omega) ?_ | refine q_geq ‹_› (fun h => ?_) (fun h => ?_) | refine q_eqlT ‹_› (by omega) ?_ | refine q_eqlF ‹_› (by omega) ?_ | refine q_eql ‹_› (fun h => ?_) (fun h => ?_) | refine q_neqT ‹_› (by omega) ?_ | refine q_neqF ‹_› (by omega) ?_ | refine q_neq ‹_› (fun h => ?_) (fun h => ?_) | (refine q_eqs ‹_› rfl (fun h => ?_) (fun h => ?_) <;> simp only [eqP, and_true, reduceCtorEq, eq_self, not_true_eq_false, not_false_eq_true] at h) | refine q_add64 ‹_› (by omega) (by omega) (fun n hn => ?_) | refine q_sub64 ‹_› (by omega) (by omega) (fun n hn => ?_) | refine q_lenM ‹_› (by assumption) (fun n hn => ?_) | refine q_idxM ‹_› (by assumption) (by omega) (by omega) (fun e he => ?_) | refine q_subLoM ‹_› (by assumption) (by omega) (by omega) (fun r hr => ?_) | refine q_subHiM ‹_› (by assumption) (by omega) (by omega) (fun r hr => ?_)) <;> (conv => cbv)))
    all_goals clear hR ho
    all_goals try clear hQn hQe
    all_goals first | rfl | (have hh := ord_hit (hrch.asc hb) (by omega) (by omega) hk4 ‹_ ∈ _›; first | omega | (obtain ⟨_, hh1, hh2⟩ := hh; rw [he] at hh1; cases hh1; exact absurd rfl h) | (subst_vars; exact ⟨by show (0 : Int) ≤ _; omega, by show _ ≤ _; omega, by show (0 : Int) ≤ _; omega, by show _ ≤ _; omega, hh.2.2⟩)) | (have hh := ord_end hk4 (by omega); omega) | (simp only; omega) | (exact absurd (hy3.2 hmem) (by assumption)) | (exact absurd (hy3.1 (by assumption)) hmem) | (have hh := ord_miss hk4 hmem; subst_vars; exact ⟨by show (0 : Int) ≤ _; omega, by show _ ≤ _; omega, by show (0 : Int) ≤ _; omega, by show _ ≤ _; omega, hh⟩)
  · (conv => cbv) <;> repeat' (first | (refine hR _ _ ⟨rfl, _, ?_, rfl⟩) | (((refine q_call2 ‹_› (f13 r) (fun M1 e1 hp1 => ?_))) <;> (conv => cbv) <;> (rcases hp1 with ⟨hr, hM1, he1⟩ | ⟨hr, hM1, he1⟩ <;> subst he1)) | (((refine q_call2 ‹_› (f13 s) (fun M2 e2 hp2 => ?_))) <;> (conv => cbv) <;> (rcases hp2 with ⟨hs, hM2, he2⟩ | ⟨hs, hM2, he2⟩ <;> subst he2)) | ((first | refine q_tostrM ‹_› hM1 (fun s1 hs1 => ?_) | refine q_tostrM ‹_› hM2 (fun s2 hs2 => ?_)) <;> (conv => cbv)) | (((refine q_slss ‹_› (fun h => ?_) (fun h => ?_))) <;> (conv => cbv) <;> (rw [hs1, hs2] at h; first | (have hlt := (less_enc hr hs).1 h) | (have hlt : ¬ r < s := fun h' => by have h9 := (less_enc hr hs).2 h'; rw [h9] at h; cases h))) | (((refine q_seql ‹_› (fun h => ?_) (fun h => ?_))) <;> (conv => cbv) <;> (first | (have hrs := enc_inj hr hs (toS_inj (enc_by hr) (enc_by hs) (hs1.symm.trans (h.trans hs2)))) | (have hrs : ¬ r = s := fun e => h (by rw [hs1, hs2, e])))) | (((refine q_call1 ‹_› f10 (fun t ht => ?_))) <;> (conv => cbv) <;> (subst ht)) | (exact hT _ () rfl (by omega)) | ((first | refine q_lssT ‹_› (by omega) ?_ | refine q_lssF ‹_› (by omega) ?_ | refine q_gtr ‹_› (fun h => ?_) (fun h => ?_) | refine q_eqlT ‹_› (by omega) ?_ | refine q_eqlF ‹_› (by omega) ?_ | (refine q_eqs ‹_› rfl (fun h => ?_) (fun h => ?_) <;> simp only [eqP, and_true, reduceCtorEq, eq_self, not_true_eq_false, not_false_eq_true] at h) | refine q_lenM ‹_› (by assumption) (fun n hn => ?_)) <;> (conv => cbv)))
    all_goals clear hR ho
    all_goals rfl
end Go.Ab.R2
end
