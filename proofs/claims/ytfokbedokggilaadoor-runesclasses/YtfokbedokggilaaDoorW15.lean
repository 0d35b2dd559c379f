/- Walks: what each function computes. -/
import Derived.Test.YtfokbedokggilaaDoorW14
set_option linter.all false
section
namespace Go.Ab.R2
open Go.Proofs Go.Ab Go.Ab.C2
set_option linter.unusedSimpArgs false
set_option linter.unusedVariables false
set_option maxRecDepth 10000
set_option maxHeartbeats 8000000
theorem cls_range (r : Int) : 1 ≤ cls r ∧ cls r ≤ 10 := by unfold cls; (repeat' split) <;> omega
def kset : Nat → ByteArray
  | 1 => ⟨#[9, 10, 13, 32]⟩
  | 2 => ⟨#[40, 91]⟩
  | 3 => ⟨#[93, 41]⟩
  | 4 => ⟨#[39]⟩
  | 5 => ⟨#[35]⟩
  | 6 => ⟨#[59]⟩
  | 7 => ⟨#[48, 49, 50, 51, 52, 53, 54, 55, 56, 57]⟩
  | 8 => ⟨#[45, 43]⟩
  | 9 => ⟨#[97, 98, 99, 100, 101, 102, 103, 104, 105, 106, 107, 108, 109, 110, 111, 112, 113, 114, 115, 116, 117, 118, 119, 120, 121, 122, 65, 66, 67, 68, 69, 70, 71, 72, 73, 74, 75, 76, 77, 78, 79, 80, 81, 82, 83, 84, 85, 86, 87, 88, 89, 90, 33, 36, 37, 38, 42, 47, 58, 60, 61, 62, 63, 94, 95, 126, 46, 64]⟩
  | _ => ⟨#[]⟩
def ksets : List AV := [.sc (.string ⟨#[]⟩), .sc (.string ⟨#[9, 10, 13, 32]⟩), .sc (.string ⟨#[40, 91]⟩), .sc (.string ⟨#[93, 41]⟩), .sc (.string ⟨#[39]⟩), .sc (.string ⟨#[35]⟩), .sc (.string ⟨#[59]⟩), .sc (.string ⟨#[48, 49, 50, 51, 52, 53, 54, 55, 56, 57]⟩), .sc (.string ⟨#[45, 43]⟩), .sc (.string ⟨#[97, 98, 99, 100, 101, 102, 103, 104, 105, 106, 107, 108, 109, 110, 111, 112, 113, 114, 115, 116, 117, 118, 119, 120, 121, 122, 65, 66, 67, 68, 69, 70, 71, 72, 73, 74, 75, 76, 77, 78, 79, 80, 81, 82, 83, 84, 85, 86, 87, 88, 89, 90, 33, 36, 37, 38, 42, 47, 58, 60, 61, 62, 63, 94, 95, 126, 46, 64]⟩)]
theorem in_set {r : Int} (h0 : 0 ≤ r) (h1 : r < 161) : ∀ k : Nat, 1 ≤ k → k ≤ 9 → (r ∈ bt (kset k) ↔ cls r = k) := by
  have key : ∀ (r : Fin 161) (k : Fin 9), ((r.val : Int) ∈ bt (kset (k.val + 1)) ↔ cls (r.val : Int) = ((k.val + 1 : Nat) : Int)) := by decide +kernel
  intro k hk1 hk2
  have h := key ⟨r.toNat, by omega⟩ ⟨k - 1, by omega⟩
  have e : (r.toNat : Int) = r := by omega
  have e2 : k - 1 + 1 = k := by omega
  simp only [e, e2] at h
  exact h
theorem bt_take {s : ByteArray} {r i : Int} {c : UInt8} (h0 : 0 ≤ i) (h : s.data.toList[i.toNat]? = some c) : r ∈ (bt s).take (i + 1).toNat ↔ r ∈ (bt s).take i.toNat ∨ (c.toNat : Int) = r := by
  have : (bt s)[i.toNat]? = some (c.toNat : Int) := by unfold bt; rw [List.getElem?_map, h]; rfl
  rw [take_step h0 this, List.mem_append, List.mem_cons]
  constructor
  · rintro (h | h | h)
    · exact .inl h
    · exact .inr h.symm
    · cases h
  · rintro (h | h)
    · exact .inl h
    · exact .inr (.inl h.symm)
theorem cls_big {r : Int} (h : 161 ≤ r) : cls r = 9 := by
  unfold cls
  rw [if_neg (by omega), if_neg (by omega), if_neg (by omega), if_neg (by omega), if_neg (by omega), if_neg (by omega), if_neg (by omega), if_neg (by omega), if_pos (.inr (.inr (.inl h)))]
theorem take_mono {l : List Int} {r : Int} {a b : Nat} (h : r ∈ l.take a) (hab : a ≤ b) : r ∈ l.take b := by
  obtain ⟨i, hi⟩ := List.getElem?_of_mem h
  rw [List.getElem?_take] at hi
  split at hi
  · exact List.mem_of_getElem? (i := i) (by rw [List.getElem?_take, if_pos (by omega), hi])
  · cases hi
theorem f4 (r : Int) : ACall En 4 ⟨1, [(0, vr r)], [], [], []⟩ (Ret1 vb fun t => t = true) := by
  refine ACall.vm {} [] ok4 glNil mixed rfl fun o R' ho hR => ?_
  have hcr := cls_range r
  conv => cbv
  repeat' (first | (refine hR _ _ ⟨rfl, _, ?_, rfl⟩) | ((first | refine q_call2 ‹_› (f15 r) (fun c e hc => ?_)) <;> (conv => cbv)) | (((refine q_call2 ‹_› (f13 r) (fun M e2 hp => ?_))) <;> (conv => cbv) <;> (rcases hc with ⟨hv, hc, he⟩ | ⟨hv, hc, he⟩ <;> rcases hp with ⟨hv', hM, he'⟩ | ⟨hv', hM, he'⟩ <;> first | exact absurd hv hv' | exact absurd hv' hv | (subst he; subst he'))) | ((first | (refine q_loop ‹_› (fun j : Int × Bool => ⟨80, [(0, vr r), (3, vi c), (7, .bp 0 0), (8, vi 1), (9, vb j.2), (10, vi j.1)], [], [ksets], []⟩) (fun j => 0 ≤ j.1 ∧ j.1 ≤ (bt (kset 1)).length ∧ ((j.2 = true ∧ r ∈ (bt (kset 1)).take j.1.toNat) ∨ (j.2 = false ∧ ¬ r ∈ (bt (kset 1)).take j.1.toNat))) (fun j => ((bt (kset 1)).length - j.1).toNat) (0, false) ⟨Int.le_refl _, by decide, .inr ⟨rfl, by simp⟩⟩ ⟨rfl, ⟨rfl, rfl, rfl, rfl, rfl, rfl, trivial⟩, trivial, rfl, .inl rfl⟩ ?_; rintro ⟨j, is⟩ ⟨hj0, hj1, hj2⟩ Q' hQn hQe; have hset := in_set hv.1 (by omega) 1 (by decide) (by decide); have hbl : (bt (kset 1)).length = 4 := (by decide); simp only at hj0 hj1 hj2; rcases hj2 with ⟨hj2, hj3⟩ | ⟨hj2, hj3⟩ <;> subst hj2) | (refine q_loop ‹_› (fun j : Int × Bool => ⟨80, [(0, vr r), (3, vi c), (7, .bp 0 0), (8, vi 2), (9, vb j.2), (10, vi j.1)], [], [ksets], []⟩) (fun j => 0 ≤ j.1 ∧ j.1 ≤ (bt (kset 2)).length ∧ ((j.2 = true ∧ r ∈ (bt (kset 2)).take j.1.toNat) ∨ (j.2 = false ∧ ¬ r ∈ (bt (kset 2)).take j.1.toNat))) (fun j => ((bt (kset 2)).length - j.1).toNat) (0, false) ⟨Int.le_refl _, by decide, .inr ⟨rfl, by simp⟩⟩ ⟨rfl, ⟨rfl, rfl, rfl, rfl, rfl, rfl, trivial⟩, trivial, rfl, .inl rfl⟩ ?_; rintro ⟨j, is⟩ ⟨hj0, hj1, hj2⟩ Q' hQn hQe; have hset := in_set hv.1 (by omega) 2 (by decide) (by decide); have hbl : (bt (kset 2)).length = 2 := (by decide); simp only at hj0 hj1 hj2; rcases hj2 with ⟨hj2, hj3⟩ | ⟨hj2, hj3⟩ <;> subst hj2) | (refine q_loop ‹_› (fun j : Int × Bool => ⟨80, [(0, vr r), (3, vi c), (7, .bp 0 0), (8, vi 3), (9, vb j.2), (10, vi j.1)], [], [ksets], []⟩) (fun j => 0 ≤ j.1 ∧ j.1 ≤ (bt (kset 3)).length ∧ ((j.2 = true ∧ r ∈ (bt (kset 3)).take j.1.toNat) ∨ (j.2 = false ∧ ¬ r ∈ (bt (kset 3)).take j.1.toNat))) (fun j => ((bt (kset 3)).length - j.1).toNat) (0, false) ⟨Int.le_refl _, by decide, .inr ⟨rfl, by simp⟩⟩ ⟨rfl, ⟨rfl, rfl, rfl, rfl, rfl, rfl, trivial⟩, trivial, rfl, .inl rfl⟩ ?_; rintro ⟨j, is⟩ ⟨hj0, hj1, hj2⟩ Q' hQn hQe; have hset := in_set hv.1 (by omega) 3 (by decide) (by decide); have hbl : (bt (kset 3)).length = 2 := (by decide); simp only at hj0 hj1 hj2; rcases hj2 with ⟨hj2, hj3⟩ | ⟨hj2, hj3⟩ <;> subst hj2) | (refine q_loop ‹_› (fun j : Int × Bool => ⟨80, [(0, vr r), (3, vi c), (7, .bp 0 0), (8, vi 4), (9, vb j.2), (10, vi j.1)], [], [ksets], []⟩) (fun j => 0 ≤ j.1 ∧ j.1 ≤ (bt (kset 4)).length ∧ ((j.2 = true ∧ r ∈ (bt (kset 4)).take j.1.toNat) ∨ (j.2 = false ∧ ¬ r ∈ (bt (kset 4)).take j.1.toNat))) (fun j => ((bt (kset 4)).length - j.1).toNat) (0, false) ⟨Int.le_refl _, by decide, .inr ⟨rfl, by simp⟩⟩ ⟨rfl, ⟨rfl, rfl, rfl, rfl, rfl, rfl, trivial⟩, trivial, rfl, .inl rfl⟩ ?_; rintro ⟨j, is⟩ ⟨hj0, hj1, hj2⟩ Q' hQn hQe; have hset := in_set hv.1 (by omega) 4 (by decide) (by decide); have hbl : (bt (kset 4)).length = 1 := (by decide); simp only at hj0 hj1 hj2; rcases hj2 with ⟨hj2, hj3⟩ | ⟨hj2, hj3⟩ <;> subst hj2) | (refine q_loop ‹_› (fun j : Int × Bool => ⟨80, [(0, vr r), (3, vi c), (7, .bp 0 0), (8, vi 5), (9, vb j.2), (10, vi j.1)], [], [ksets], []⟩) (fun j => 0 ≤ j.1 ∧ j.1 ≤ (bt (kset 5)).length ∧ ((j.2 = true ∧ r ∈ (bt (kset 5)).take j.1.toNat) ∨ (j.2 = false ∧ ¬ r ∈ (bt (kset 5)).take j.1.toNat))) (fun j => ((bt (kset 5)).length - j.1).toNat) (0, false) ⟨Int.le_refl _, by decide, .inr ⟨rfl, by simp⟩⟩ ⟨rfl, ⟨rfl, rfl, rfl, rfl, rfl, rfl, trivial⟩, trivial, rfl, .inl rfl⟩ ?_; rintro ⟨j, is⟩ ⟨hj0, hj1, hj2⟩ Q' hQn hQe; have hset := in_set hv.1 (by omega) 5 (by decide) (by decide); have hbl : (bt (kset 5)).length = 1 := (by decide); simp only at hj0 hj1 hj2; rcases hj2 with ⟨hj2, hj3⟩ | ⟨hj2, hj3⟩ <;> subst hj2) | (refine q_loop ‹_› (fun j : Int × Bool => ⟨80, [(0, vr r), (3, vi c), (7, .bp 0 0), (8, vi 6), (9, vb j.2), (10, vi j.1)], [], [ksets], []⟩) (fun j => 0 ≤ j.1 ∧ j.1 ≤ (bt (kset 6)).length ∧ ((j.2 = true ∧ r ∈ (bt (kset 6)).take j.1.toNat) ∨ (j.2 = false ∧ ¬ r ∈ (bt (kset 6)).take j.1.toNat))) (fun j => ((bt (kset 6)).length - j.1).toNat) (0, false) ⟨Int.le_refl _, by decide, .inr ⟨rfl, by simp⟩⟩ ⟨rfl, ⟨rfl, rfl, rfl, rfl, rfl, rfl, trivial⟩, trivial, rfl, .inl rfl⟩ ?_; rintro ⟨j, is⟩ ⟨hj0, hj1, hj2⟩ Q' hQn hQe; have hset := in_set hv.1 (by omega) 6 (by decide) (by decide); have hbl : (bt (kset 6)).length = 1 := (by decide); simp only at hj0 hj1 hj2; rcases hj2 with ⟨hj2, hj3⟩ | ⟨hj2, hj3⟩ <;> subst hj2) | (refine q_loop ‹_› (fun j : Int × Bool => ⟨80, [(0, vr r), (3, vi c), (7, .bp 0 0), (8, vi 7), (9, vb j.2), (10, vi j.1)], [], [ksets], []⟩) (fun j => 0 ≤ j.1 ∧ j.1 ≤ (bt (kset 7)).length ∧ ((j.2 = true ∧ r ∈ (bt (kset 7)).take j.1.toNat) ∨ (j.2 = false ∧ ¬ r ∈ (bt (kset 7)).take j.1.toNat))) (fun j => ((bt (kset 7)).length - j.1).toNat) (0, false) ⟨Int.le_refl _, by decide, .inr ⟨rfl, by simp⟩⟩ ⟨rfl, ⟨rfl, rfl, rfl, rfl, rfl, rfl, trivial⟩, trivial, rfl, .inl rfl⟩ ?_; rintro ⟨j, is⟩ ⟨hj0, hj1, hj2⟩ Q' hQn hQe; have hset := in_set hv.1 (by omega) 7 (by decide) (by decide); have hbl : (bt (kset 7)).length = 10 := (by decide); simp only at hj0 hj1 hj2; rcases hj2 with ⟨hj2, hj3⟩ | ⟨hj2, hj3⟩ <;> subst hj2) | (refine q_loop ‹_› (fun j : Int × Bool => ⟨80, [(0, vr r), (3, vi c), (7, .bp 0 0), (8, vi 8), (9, vb j.2), (10, vi j.1)], [], [ksets], []⟩) (fun j => 0 ≤ j.1 ∧ j.1 ≤ (bt (kset 8)).length ∧ ((j.2 = true ∧ r ∈ (bt (kset 8)).take j.1.toNat) ∨ (j.2 = false ∧ ¬ r ∈ (bt (kset 8)).take j.1.toNat))) (fun j => ((bt (kset 8)).length - j.1).toNat) (0, false) ⟨Int.le_refl _, by decide, .inr ⟨rfl, by simp⟩⟩ ⟨rfl, ⟨rfl, rfl, rfl, rfl, rfl, rfl, trivial⟩, trivial, rfl, .inl rfl⟩ ?_; rintro ⟨j, is⟩ ⟨hj0, hj1, hj2⟩ Q' hQn hQe; have hset := in_set hv.1 (by omega) 8 (by decide) (by decide); have hbl : (bt (kset 8)).length = 2 := (by decide); simp only at hj0 hj1 hj2; rcases hj2 with ⟨hj2, hj3⟩ | ⟨hj2, hj3⟩ <;> subst hj2) | (refine q_loop ‹_› (fun j : Int × Bool => ⟨80, [(0, vr r), (3, vi c), (7, .bp 0 0), (8, vi 9), (9, vb j.2), (10, vi j.1)], [], [ksets], []⟩) (fun j => 0 ≤ j.1 ∧ j.1 ≤ (bt (kset 9)).length ∧ ((j.2 = true ∧ r ∈ (bt (kset 9)).take j.1.toNat) ∨ (j.2 = false ∧ ¬ r ∈ (bt (kset 9)).take j.1.toNat))) (fun j => ((bt (kset 9)).length - j.1).toNat) (0, false) ⟨Int.le_refl _, by decide, .inr ⟨rfl, by simp⟩⟩ ⟨rfl, ⟨rfl, rfl, rfl, rfl, rfl, rfl, trivial⟩, trivial, rfl, .inl rfl⟩ ?_; rintro ⟨j, is⟩ ⟨hj0, hj1, hj2⟩ Q' hQn hQe; have hset := in_set hv.1 (by omega) 9 (by decide) (by decide); have hbl : (bt (kset 9)).length = 68 := (by decide); simp only at hj0 hj1 hj2; rcases hj2 with ⟨hj2, hj3⟩ | ⟨hj2, hj3⟩ <;> subst hj2) | (refine q_loop ‹_› (fun k : Int => ⟨80, [(0, vr r), (3, vi c), (7, .bp 0 0), (8, vi k)], [], [ksets], []⟩) (fun k => 1 ≤ k ∧ k ≤ 10) (fun k => (10 - k).toNat) 1 ⟨by omega, by omega⟩ ⟨rfl, ⟨rfl, rfl, rfl, rfl, trivial⟩, trivial, rfl, .inl rfl⟩ ?_; rintro k ⟨hk0, hk1⟩ Qb hQnb hQeb; obtain rfl | rfl | rfl | rfl | rfl | rfl | rfl | rfl | rfl | rfl := (by omega : k = 1 ∨ k = 2 ∨ k = 3 ∨ k = 4 ∨ k = 5 ∨ k = 6 ∨ k = 7 ∨ k = 8 ∨ k = 9 ∨ k = 10))) <;> (conv => cbv)) | (refine hQnb _ ⟨_, ?_, ?_, rfl, ⟨rfl, rfl, rfl, rfl, trivial⟩, trivial, rfl, .inl rfl⟩) | ((first | refine hQeb _ _ nofun ?_) <;> (conv => cbv)) | (((refine q_call1 ‹_› f10 (fun t ht => ?_))) <;> (conv => cbv) <;> (subst ht)) | (refine hQn _ ⟨(_, _), ?_, ?_, rfl, ⟨rfl, rfl, rfl, rfl, rfl, rfl, trivial⟩, trivial, rfl, .inl rfl⟩) | ((first | refine hQe _ _ nofun ?_ | refine q_lssT ‹_› (by omega) ?_ | refine q_lssF ‹_› (by omega) ?_ | refine q_lss ‹_› (fun h => ?_) (fun h => ?_) | refine q_leqT ‹_› (by omega) ?_ | refine q_geqT ‹_› (by omega) ?_ | refine q_geqF ‹_› (by omega) ?_ | refine q_geq ‹_› (fun h => ?_) (fun h => ?_) | refine q_eqlT ‹_› (by omega) ?_ | refine q_eqlF ‹_› (by omega) ?_ | refine q_eql ‹_› (fun h => ?_) (fun h => ?_) | refine q_neqT ‹_› (by omega) ?_ | refine q_neqF ‹_› (by omega) ?_ | (refine q_eqs ‹_› rfl (fun h => ?_) (fun h => ?_) <;> simp only [eqP, and_true, reduceCtorEq, eq_self, not_true_eq_false, not_false_eq_true] at h) | (refine q_addc ‹_› (by simp only [Int.reduceAdd, Int.reduceSub]; rfl) (by decide) ?_) | refine q_add64 ‹_› (by omega) (by omega) (fun n hn => ?_) | refine q_cv32 ‹_› (by omega) (by omega) ?_ | refine q_slen ‹_› (fun n hn => ?_) | refine q_six ‹_› (by omega) (by omega) (fun c hc n hn h1 => ?_) | refine q_arrl ‹_› (by decide) (by decide) ?_) <;> (conv => cbv)))
  all_goals clear hR ho
  all_goals try clear hQn hQe
  all_goals try clear hQnb hQeb
  all_goals try clear hQnb hQeb
  all_goals first
    | rfl
    | omega
    | (exfalso; have h9 := cls_big (by assumption); omega)
    | skip
  all_goals simp only [List.length_cons, List.length_nil, Nat.reduceAdd, Int.cast_ofNat_Int] at *
  all_goals first
    | omega
    | exact ⟨by omega, by omega, .inl ⟨by trivial, take_mono (by assumption) (by omega)⟩⟩
    | (exfalso; have h9 := hset.1 (List.mem_of_mem_take hj3); omega)
    | (exfalso; rw [List.take_of_length_le (by omega)] at hj3; have h9 := mt hset.2 hj3; omega)
    | exact ⟨by omega, by omega, .inl ⟨by trivial, hn ▸ (bt_take (s := kset 1) hj0 (by assumption)).2 (.inr (by omega))⟩⟩
    | exact ⟨by omega, by omega, .inr ⟨by trivial, hn ▸ fun hm => ((bt_take (s := kset 1) hj0 (by assumption)).1 hm).elim hj3 (by omega)⟩⟩
    | exact ⟨by omega, by omega, .inl ⟨by trivial, hn ▸ (bt_take (s := kset 2) hj0 (by assumption)).2 (.inr (by omega))⟩⟩
    | exact ⟨by omega, by omega, .inr ⟨by trivial, hn ▸ fun hm => ((bt_take (s := kset 2) hj0 (by assumption)).1 hm).elim hj3 (by omega)⟩⟩
    | exact ⟨by omega, by omega, .inl ⟨by trivial, hn ▸ (bt_take (s := kset 3) hj0 (by assumption)).2 (.inr (by omega))⟩⟩
    | exact ⟨by omega, by omega, .inr ⟨by trivial, hn ▸ fun hm => ((bt_take (s := kset 3) hj0 (by assumption)).1 hm).elim hj3 (by omega)⟩⟩
    | exact ⟨by omega, by omega, .inl ⟨by trivial, hn ▸ (bt_take (s := kset 4) hj0 (by assumption)).2 (.inr (by omega))⟩⟩
    | exact ⟨by omega, by omega, .inr ⟨by trivial, hn ▸ fun hm => ((bt_take (s := kset 4) hj0 (by assumption)).1 hm).elim hj3 (by omega)⟩⟩
    | exact ⟨by omega, by omega, .inl ⟨by trivial, hn ▸ (bt_take (s := kset 5) hj0 (by assumption)).2 (.inr (by omega))⟩⟩
    | exact ⟨by omega, by omega, .inr ⟨by trivial, hn ▸ fun hm => ((bt_take (s := kset 5) hj0 (by assumption)).1 hm).elim hj3 (by omega)⟩⟩
    | exact ⟨by omega, by omega, .inl ⟨by trivial, hn ▸ (bt_take (s := kset 6) hj0 (by assumption)).2 (.inr (by omega))⟩⟩
    | exact ⟨by omega, by omega, .inr ⟨by trivial, hn ▸ fun hm => ((bt_take (s := kset 6) hj0 (by assumption)).1 hm).elim hj3 (by omega)⟩⟩
    | exact ⟨by omega, by omega, .inl ⟨by trivial, hn ▸ (bt_take (s := kset 7) hj0 (by assumption)).2 (.inr (by omega))⟩⟩
    | exact ⟨by omega, by omega, .inr ⟨by trivial, hn ▸ fun hm => ((bt_take (s := kset 7) hj0 (by assumption)).1 hm).elim hj3 (by omega)⟩⟩
    | exact ⟨by omega, by omega, .inl ⟨by trivial, hn ▸ (bt_take (s := kset 8) hj0 (by assumption)).2 (.inr (by omega))⟩⟩
    | exact ⟨by omega, by omega, .inr ⟨by trivial, hn ▸ fun hm => ((bt_take (s := kset 8) hj0 (by assumption)).1 hm).elim hj3 (by omega)⟩⟩
    | exact ⟨by omega, by omega, .inl ⟨by trivial, hn ▸ (bt_take (s := kset 9) hj0 (by assumption)).2 (.inr (by omega))⟩⟩
    | exact ⟨by omega, by omega, .inr ⟨by trivial, hn ▸ fun hm => ((bt_take (s := kset 9) hj0 (by assumption)).1 hm).elim hj3 (by omega)⟩⟩
    | (trace_state; sorry)
end Go.Ab.R2
end
