/- Walks: what each function computes. -/
import Derived.Test.YtfokbedokggilaaDoorW13
set_option linter.all false
section
namespace Go.Ab.R2
open Go.Proofs Go.Ab Go.Ab.C2
set_option linter.unusedSimpArgs false
set_option linter.unusedVariables false
set_option maxRecDepth 10000
set_option maxHeartbeats 4000000
theorem enc_le {r : Int} : (enc r).length ≤ 4 := by rw [enc_len]; (repeat' split) <;> omega
theorem f53 {x : List Int} {r : Int} {M : List AV} (hM : M = x.map vu) (hx : x.length ≤ 1000000) (hr : isR r) (h1 : 127 < r) : ACall En 53 ⟨2, [(0, .own 0), (1, vr r)], [(0, (1, M))], [], []⟩ (RetL1 1 fun L => L = (x ++ enc r).map vu) := by
  refine ACall.vm {} [] ok53 glNil mixed rfl fun o R' ho hR => ?_
  conv => cbv
  repeat' (first | (refine hR _ _ ⟨rfl, _, ?_, rfl⟩) | ((first | (refine q_app ‹_› (by subst hM; simp only [List.length_map, List.length_cons, List.length_nil]; omega) (fun L hL => ?_)) | refine q_lssT ‹_› (by omega) ?_ | refine q_lss ‹_› (fun h => ?_) (fun h => ?_) | refine q_leqT ‹_› (by omega) ?_ | refine q_leq ‹_› (fun h => ?_) (fun h => ?_) | refine q_gtrT ‹_› (by omega) ?_ | refine q_cvU8 ‹_› (by omega) (by omega) ?_ | refine q_cvU8m ‹_› (fun n hn => ?_) | refine q_cvU32 ‹_› (by omega) (by omega) ?_ | (refine q_andc 6 63 64 ‹_› (by decide) (by omega) (by simp only [IntKind.bits]; omega) (fun n hn => ?_)) | refine q_orU8 64 192 ‹_› (by decide +kernel) rfl (by omega) (by omega) (fun n hn => ?_) | refine q_orU8 32 224 ‹_› (by decide +kernel) rfl (by omega) (by omega) (fun n hn => ?_) | refine q_orU8 16 240 ‹_› (by decide +kernel) rfl (by omega) (by omega) (fun n hn => ?_) | refine q_orU8 64 128 ‹_› (by decide +kernel) rfl (by omega) (by omega) (fun n hn => ?_) | refine q_shrc 6 64 ‹_› (by decide) (by omega) (fun n hn => ?_) | refine q_shrc 12 4096 ‹_› (by decide) (by omega) (fun n hn => ?_) | refine q_shrc 18 262144 ‹_› (by decide) (by omega) (fun n hn => ?_)) <;> (conv => cbv)))
  all_goals clear hR ho
  all_goals (subst_vars; rw [List.map_append]; congr 1; unfold enc; (repeat' split) <;> first | omega | (simp only [List.map_cons, List.map_nil, List.cons.injEq, AV.sc.injEq, Value.int.injEq, true_and, and_true] <;> omega) | rfl)
theorem f48 {x : List Int} {r : Int} {M : List AV} (hM : M = x.map vu) (hx : x.length ≤ 1000000) (hr : isR r) : ACall En 48 ⟨2, [(0, .own 0), (1, vr r)], [(0, (1, M))], [], []⟩ (RetL1 1 fun L => L = (x ++ enc r).map vu) := by
  refine ACall.vm { mv := fun f => match f with | 53 => [0] | _ => [] } [] ok48 glNil mixed rfl fun o R' ho hR => ?_
  conv => cbv
  repeat' (first | (refine hR _ _ ⟨rfl, _, ?_, rfl⟩) | ((first | (refine q_app ‹_› (by subst hM; simp only [List.length_map, List.length_cons, List.length_nil]; omega) (fun L hL => ?_)) | (refine q_call ‹_› (f53 hM hx hr (by omega)) ?_; rintro _ _ ⟨rfl, L, hL, rfl⟩) | refine q_leq ‹_› (fun h => ?_) (fun h => ?_) | refine q_cvU8 ‹_› (by omega) (by omega) ?_ | refine q_cvU32 ‹_› (by omega) (by omega) ?_) <;> (conv => cbv)))
  all_goals clear hR ho
  · subst_vars; rw [List.map_append]; congr 1; unfold enc; rw [if_pos (by omega)]; rfl
  · exact hL
theorem f47 {r : Int} : ACall En 47 ⟨1, [(0, vr r)], [], [], []⟩ (Ret1 vb fun t => (t = true ∧ ¬ isR r) ∨ (t = false ∧ isR r)) := by
  refine ACall.vm {} [] ok47 glNil mixed rfl fun o R' ho hR => ?_
  conv => cbv
  repeat' (first | (refine hR _ _ ⟨rfl, _, ?_, rfl⟩) | (((refine q_call1 ho (f37 r) (fun t ht => ?_))) <;> (conv => cbv) <;> (rcases ht with ⟨ht, hs⟩ | ⟨ht, hs⟩ <;> subst ht)))
  all_goals clear hR ho
  · exact .inr ⟨rfl, hs⟩
  · exact .inl ⟨rfl, hs⟩
theorem f46 {l : List Int} {L : List AV} (hL : L = l.map vr) (hl : l.length < 4611686018427387904) : ACall En 46 ⟨2, [(0, .sl 1 L), (1, .fn (.func 47) [] [])], [], [], []⟩ (Ret1 vi fun k => (k = -1 ∧ ∀ n ∈ l, isR n) ∨ ∃ (i : Nat) (n : Int), k = i ∧ l[i]? = some n ∧ ¬ isR n ∧ ∀ (j : Nat) m, j < i → l[j]? = some m → isR m) := by
  refine ACall.vm {} [] ok46 glNil mixed rfl fun o R' ho hR => ?_
  conv => cbv
  repeat' (first | (refine hR _ _ ⟨rfl, _, ?_, rfl⟩) | ((first | (refine q_loop ho (fun k : Int => ⟨19, [(0, .sl 1 L), (1, .fn (.func 47) [] []), (7, vi n), (8, vi k)], [], [], []⟩) (fun k => 0 ≤ k ∧ k ≤ l.length ∧ ∀ (j : Nat) m, j < k.toNat → l[j]? = some m → isR m) (fun k => (l.length - k).toNat) 0 ⟨by omega, by omega, by omega⟩ ⟨rfl, ⟨rfl, rfl, rfl, rfl, trivial⟩, trivial, rfl, .inl rfl⟩ ?_; rintro k ⟨hk0, hk1, hk2⟩ Q' hQn hQe)) <;> (conv => cbv)) | (((refine q_call1 ‹_› f47 (fun t ht => ?_))) <;> (conv => cbv) <;> (rcases ht with ⟨ht, hs⟩ | ⟨ht, hs⟩ <;> subst ht)) | (refine hQn _ ⟨_, ?_, ?_, rfl, ⟨rfl, rfl, rfl, rfl, trivial⟩, trivial, rfl, .inl rfl⟩) | ((first | refine hQe _ _ nofun ?_ | refine q_lss ‹_› (fun h => ?_) (fun h => ?_) | refine q_add64 ‹_› (by omega) (by omega) (fun n hn => ?_) | refine q_lenM ‹_› (by assumption) (fun n hn => ?_) | refine q_idxM ‹_› (by assumption) (by omega) (by omega) (fun e he => ?_)) <;> (conv => cbv)))
  all_goals clear hR ho
  all_goals try clear hQn hQe
  · exact .inr ⟨k.toNat, e, by omega, he, hs, hk2⟩
  · refine ⟨by omega, by omega, fun j m hj hm => ?_⟩
    by_cases c : j = k.toNat
    · subst c; rw [he] at hm; cases hm; exact hs
    · exact hk2 j m (by omega) hm
  · omega
  · refine .inl ⟨rfl, fun m hm => ?_⟩
    obtain ⟨j, hj⟩ := List.getElem?_of_mem hm
    refine hk2 j m ?_ hj
    rcases Nat.lt_or_ge j l.length with c | c
    · omega
    · rw [List.getElem?_eq_none c] at hj; cases hj
end Go.Ab.R2
end
section
namespace Go.Ab.R2
open Go.Proofs Go.Ab Go.Ab.C2
set_option linter.unusedSimpArgs false
set_option linter.unusedVariables false
set_option maxRecDepth 10000
set_option maxHeartbeats 4000000
theorem take_step {x : List Int} {k e : Int} (hk : 0 ≤ k) (he : x[k.toNat]? = some e) : x.take (k + 1).toNat = x.take k.toNat ++ [e] := by
  rw [show (k + 1).toNat = k.toNat + 1 by omega, List.take_add_one, he]; rfl
theorem flat_take {x : List Int} {f : Int → List Int} {i : Nat} : ((x.take i).flatMap f).length ≤ (x.flatMap f).length := by
  conv => rhs; rw [← List.take_append_drop i x, List.flatMap_append, List.length_append]
  omega
theorem f27 {l : List Int} {L : List AV} (hL : L = l.map vr) (hl : l.length < 4611686018427387904) : ACall En 27 ⟨1, [(0, .sl 1 L)], [], [], []⟩ (Ret3 (.sl 1) vi vi (BytP l)) := by
  refine ACall.share ?_
  refine ACall.vm { mv := fun f => match f with | 48 => [0] | _ => [] } [] ok27 glNil mixed rfl fun o R' ho hR => ?_
  conv => cbv
  repeat' (first | (refine hR _ _ ⟨rfl, _, _, _, ?_, rfl⟩) | (((refine q_call1 ‹_› (f46 hL hl) (fun k hk => ?_))) <;> (conv => cbv) <;> (rcases hk with ⟨hk, hv⟩ | ⟨i, n, hk, hi, hni, hv⟩)) | ((first | (refine q_loop ho (fun k : Int × List AV => ⟨27, [(2, .own 2), (13, .sl 1 L), (14, vi n), (15, vi k.1)], [(2, (1, k.2))], [], []⟩) (fun k => 0 ≤ k.1 ∧ k.1 ≤ l.length ∧ k.2 = ((l.take k.1.toNat).flatMap enc).map vu ∧ ((l.take k.1.toNat).flatMap enc).length ≤ 8000) (fun k => (l.length - k.1).toNat) (0, []) ⟨Int.le_refl _, by omega, rfl, Nat.zero_le _⟩ ⟨rfl, ⟨rfl, rfl, rfl, rfl, trivial⟩, ⟨rfl, trivial⟩, rfl, .inl rfl⟩ ?_; rintro ⟨k, M⟩ ⟨hk0, hk1, hk2, hk3⟩ Q' hQn hQe; simp only at hk0 hk1 hk2 hk3) | (refine q_call ‹_› (f48 hk2 (by omega) (hv _ (List.mem_of_getElem? (by assumption)))) ?_; rintro _ _ ⟨rfl, M2, hM2, rfl⟩)) <;> (conv => cbv)) | (refine hQn _ ⟨(_, _), ?_, ?_, rfl, ⟨rfl, rfl, rfl, rfl, trivial⟩, ⟨rfl, trivial⟩, rfl, .inl rfl⟩) | ((first | refine hQe _ _ nofun ?_ | refine q_lss ‹_› (fun h => ?_) (fun h => ?_) | refine q_gtr ‹_› (fun h => ?_) (fun h => ?_) | refine q_geqT ‹_› (by omega) ?_ | refine q_geqF ‹_› (by omega) ?_ | refine q_add64 ‹_› (by omega) (by omega) (fun n hn => ?_) | refine q_lenM ‹_› (by assumption) (fun n hn => ?_) | refine q_idxM ‹_› (by assumption) (by omega) (by omega) (fun e he => ?_)) <;> (conv => cbv)))
  all_goals clear hR ho
  all_goals try clear hQn hQe
  · refine .inr ⟨hv, .inr ⟨?_, rfl, rfl, rfl⟩⟩
    have h1 := flat_take (x := l) (f := enc) (i := (k + 1).toNat)
    rw [take_step hk0 he, List.flatMap_append, List.flatMap_cons, List.flatMap_nil, List.append_nil] at h1
    omega
  · refine ⟨by simp only []; omega, by simp only []; omega, ?_, ?_⟩
    · simp only []; rw [hM2, hn, take_step hk0 he, List.flatMap_append, List.flatMap_cons, List.flatMap_nil, List.append_nil]
    · simp only []; rw [hn, take_step hk0 he, List.flatMap_append, List.flatMap_cons, List.flatMap_nil, List.append_nil]; omega
  · simp only []; omega
  · have e : k.toNat = l.length := by omega
    rw [e, List.take_length] at hk2 hk3
    exact .inr ⟨hv, .inl ⟨hk3, hk2, rfl, rfl⟩⟩
  · exact .inl ⟨i, n, hi, hni, hv, rfl, hk, rfl⟩
end Go.Ab.R2
end
section
namespace Go.Ab.R2
open Go.Proofs Go.Ab Go.Ab.C2
set_option linter.unusedSimpArgs false
set_option linter.unusedVariables false
set_option maxRecDepth 10000
set_option maxHeartbeats 4000000
theorem allR {l : List Int} {k : Int} (h : ∀ (j : Nat) m, j < k.toNat → l[j]? = some m → isR m) (hk : ¬ k < l.length) : ∀ m ∈ l, isR m := fun m hm => by
  obtain ⟨j, hj⟩ := List.getElem?_of_mem hm
  refine h j m ?_ hj
  rcases Nat.lt_or_ge j l.length with c | c
  · omega
  · rw [List.getElem?_eq_none c] at hj; cases hj
theorem f32 {l : List Int} {L : List AV} (hL : L = l.map vr) (hl : l.length < 4611686018427387904) : ACall En 32 ⟨1, [(0, .sl 1 L)], [], [], []⟩ (Ret3 (.sl 1) vi vi (BytP l)) := by
  refine ACall.share ?_
  refine ACall.vm {} [] ok32 glNil mixed rfl fun o R' ho hR => ?_
  conv => cbv
  repeat' (first | (refine hR _ _ ⟨rfl, _, _, _, ?_, rfl⟩) | ((first | (refine q_loop ho (fun k : Int => ⟨44, [(0, .sl 1 L), (5, vi k)], [], [], []⟩) (fun k => 0 ≤ k ∧ k ≤ l.length ∧ ∀ (j : Nat) m, j < k.toNat → l[j]? = some m → isR m) (fun k => (l.length - k).toNat) 0 ⟨by omega, by omega, by omega⟩ ⟨rfl, ⟨rfl, rfl, trivial⟩, trivial, rfl, .inl rfl⟩ ?_; rintro k ⟨hk0, hk1, hk2⟩ Q' hQn hQe)) <;> (conv => cbv)) | (((refine q_call1 ‹_› (f40 _) (fun t ht => ?_))) <;> (conv => cbv) <;> (rcases ht with ⟨ht, hs⟩ | ⟨ht, hs⟩ <;> subst ht)) | (((refine q_call2 ‹_› (RetL2.share (fun b => ⟨_, rfl⟩) (f14 _)) (fun M2 e4 hp2 => ?_))) <;> (conv => cbv) <;> (rcases hp2 with ⟨hr2, hM2, he4⟩ | ⟨hr2, _, _⟩ <;> first | (exact absurd (allR hk2 (by omega) _ (List.mem_of_getElem? (by assumption))) hr2) | skip)) | ((first | (refine q_appM ‹_› hk2' hM2 (by have := @enc_le e; omega) (fun M3 hM3 => ?_))) <;> (conv => cbv)) | (refine hQn _ ⟨_, ?_, ?_, rfl, ⟨rfl, rfl, trivial⟩, trivial, rfl, .inl rfl⟩) | ((first | refine hQe _ _ nofun ?_ | (refine q_loop ho (fun k : Int × List AV => ⟨44, [(0, .sl 1 L), (6, .own 6), (7, vi k.1)], [(6, (1, k.2))], [], []⟩) (fun k => 0 ≤ k.1 ∧ k.1 ≤ l.length ∧ k.2 = ((l.take k.1.toNat).flatMap enc).map vu ∧ ((l.take k.1.toNat).flatMap enc).length ≤ 8000) (fun k => (l.length - k.1).toNat) (0, []) ⟨Int.le_refl _, by omega, rfl, Nat.zero_le _⟩ ⟨rfl, ⟨rfl, rfl, rfl, trivial⟩, ⟨rfl, trivial⟩, rfl, .inl rfl⟩ ?_; rintro ⟨k', M⟩ ⟨hk0', hk1', hk2', hk3'⟩ Q'' hQnb hQeb; simp only at hk0' hk1' hk2' hk3')) <;> (conv => cbv)) | (refine hQnb _ ⟨(_, _), ?_, ?_, rfl, ⟨rfl, rfl, rfl, trivial⟩, ⟨rfl, trivial⟩, rfl, .inl rfl⟩) | ((first | refine hQeb _ _ nofun ?_ | refine q_lss ‹_› (fun h => ?_) (fun h => ?_) | refine q_gtr ‹_› (fun h => ?_) (fun h => ?_) | refine q_add64 ‹_› (by omega) (by omega) (fun n hn => ?_) | refine q_lenM ‹_› (by assumption) (fun n hn => ?_) | refine q_idxM ‹_› (by assumption) (by omega) (by omega) (fun e he => ?_)) <;> (conv => cbv)))
  all_goals clear hR ho
  all_goals try clear hQn hQe
  all_goals try clear hQnb hQeb
  · refine ⟨by omega, by omega, fun j m hj hm => ?_⟩
    by_cases c : j = k.toNat
    · subst c; rw [he] at hm; cases hm; exact hs
    · exact hk2 j m (by omega) hm
  · omega
  · exact .inl ⟨k.toNat, e, he, hs, hk2, rfl, by omega, rfl⟩
  · refine .inr ⟨allR hk2 (by omega), .inr ⟨?_, rfl, rfl, rfl⟩⟩
    have h1 := flat_take (x := l) (f := enc) (i := (k' + 1).toNat)
    rw [take_step hk0' he, List.flatMap_append, List.flatMap_cons, List.flatMap_nil, List.append_nil] at h1
    omega
  · refine ⟨by simp only []; omega, by simp only []; omega, ?_, ?_⟩
    · simp only []; rw [hM3, hn, take_step hk0' he, List.flatMap_append, List.flatMap_cons, List.flatMap_nil, List.append_nil]
    · simp only []; rw [hn, take_step hk0' he, List.flatMap_append, List.flatMap_cons, List.flatMap_nil, List.append_nil]; omega
  · simp only []; omega
  · have e : k'.toNat = l.length := by omega
    rw [e, List.take_length] at hk2' hk3'
    exact .inr ⟨allR hk2 (by omega), .inl ⟨hk3', hk2', rfl, rfl⟩⟩
end Go.Ab.R2
end
section
namespace Go.Ab.R2
open Go.Proofs Go.Ab Go.Ab.C2
set_option linter.unusedSimpArgs false
set_option linter.unusedVariables false
set_option maxRecDepth 10000
set_option maxHeartbeats 4000000
theorem StaP.ints {b : List Int} {M : List AV} {e : Int} (hb : By b) (h : StaP b M e) : ∃ x : List Int, M = x.map vi ∧ x.length ≤ b.length + 1 := by
  rcases h with ⟨rs, ss, _, h2, h3, _⟩ | ⟨p, _, _, h3⟩
  · exact ⟨_, h3, by have := h2.len; have := h2.cnt hb; simp only [List.length_append, List.length_cons, List.length_nil]; omega⟩
  · exact ⟨[], h3, by simp⟩
theorem RunP.ints {b : List Int} {M : List AV} {e : Int} (hb : By b) (h : RunP b M e) : ∃ x : List Int, M = x.map vr ∧ x.length ≤ b.length := by
  rcases h with ⟨rs, ss, _, h2, h3, _⟩ | ⟨p, _, _, h3⟩
  · exact ⟨_, h3, by have := h2.cnt hb; omega⟩
  · exact ⟨[], h3, by simp⟩
theorem BytP.ints {l : List Int} {M : List AV} {k e : Int} (h : BytP l M k e) : ∃ x : List Int, M = x.map vu := by
  rcases h with ⟨_, _, _, _, _, h, _⟩ | ⟨_, ⟨_, h, _⟩ | ⟨_, h, _⟩⟩
  · exact ⟨[], h⟩
  · exact ⟨_, h⟩
  · exact ⟨[], h⟩
theorem f5 {b : List Int} {L : List AV} {at' : Int} (hL : L = b.map vu) (hb : By b) : ACall En 5 ⟨2, [(0, .sl 1 L), (1, vi at')], [], [], []⟩ (Ret1 vb fun t => t = true) := by
  refine ACall.vm {} [] ok5 glNil mixed rfl fun o R' ho hR => ?_
  conv => cbv
  repeat' (first | (refine hR _ _ ⟨rfl, _, ?_, rfl⟩) | ((first | refine q_call2 ho (f17 hL hb (by omega)) (fun M1 e1 hp1 => ?_)) <;> (conv => cbv)) | (((refine q_call2 ho (f18 hL hb (by omega)) (fun M2 e2 hp2 => ?_))) <;> (conv => cbv) <;> (obtain ⟨h1, h2⟩ := hp1.uni hb hp2; subst h1; subst h2; obtain ⟨x, hx, hxl⟩ := hp1.ints hb)) | ((first | refine q_call2 ho (f19 hL hb (by omega)) (fun t1 e3 hp3 => ?_)) <;> (conv => cbv)) | (((refine q_call2 ho (f20 hL hb (by omega)) (fun t2 e4 hp4 => ?_))) <;> (conv => cbv) <;> (obtain ⟨h1, h2⟩ := hp3.uni hb hp4; subst h1; subst h2)) | ((first | refine q_call2 ho (f21 hL hb (by omega)) (fun k1 e5 hp5 => ?_)) <;> (conv => cbv)) | (((refine q_call2 ho (f22 hL hb (by omega)) (fun k2 e6 hp6 => ?_))) <;> (conv => cbv) <;> (obtain ⟨h1, h2⟩ := hp5.uni hb hp6; subst h1; subst h2)) | (((refine q_call1 ho (f23 hx hx (by omega)) (fun t ht => ?_))) <;> (conv => cbv) <;> (rcases ht with ⟨ht, hs⟩ | ⟨ht, hs⟩ <;> first | exact absurd rfl hs | subst ht)) | (((refine q_call1 ho f10 (fun t ht => ?_))) <;> (conv => cbv) <;> (subst ht)) | ((first | refine q_leq ‹_› (fun h => ?_) (fun h => ?_) | refine q_gtrF ‹_› (by omega) ?_ | refine q_gtr ‹_› (fun h => ?_) (fun h => ?_) | refine q_eqlT ‹_› (by omega) ?_ | (refine q_eqs ‹_› rfl (fun h => ?_) (fun h => ?_) <;> simp only [eqP, and_true, reduceCtorEq, eq_self, not_true_eq_false, not_false_eq_true] at h) | refine q_lenM ‹_› (by assumption) (fun n hn => ?_)) <;> (conv => cbv)))
  all_goals clear hR ho
  all_goals first | rfl | (subst_vars; exact absurd rfl (by assumption))
theorem f9 {b l : List Int} {L M : List AV} (hL : L = b.map vu) (hb : By b) (hM : M = l.map vr) : ACall En 9 ⟨2, [(0, .sl 1 L), (1, .sl 1 M)], [], [], []⟩ (Ret1 vb fun t => t = true) := by
  refine ACall.vm {} [] ok9 glNil mixed rfl fun o R' ho hR => ?_
  conv => cbv
  repeat' (first | (refine hR _ _ ⟨rfl, _, ?_, rfl⟩) | ((first | refine q_call2 ho (f24 hL hb (by omega)) (fun p1 e1 hp1 => ?_)) <;> (conv => cbv)) | (((refine q_call2 ho (f29 hL hb (by omega)) (fun p2 e2 hp2 => ?_))) <;> (conv => cbv) <;> (obtain ⟨h1, h2⟩ := hp1.uni hb hp2; subst h1; subst h2)) | ((first | refine q_call2 ho (f25 hL hb (by omega)) (fun c1 e3 hp3 => ?_)) <;> (conv => cbv)) | (((refine q_call2 ho (f30 hL hb (by omega)) (fun c2 e4 hp4 => ?_))) <;> (conv => cbv) <;> (obtain ⟨h1, h2⟩ := hp3.uni hb hp4; subst h1; subst h2)) | ((first | refine q_call2 ho (f26 hL hb (by omega)) (fun M1 e5 hp5 => ?_)) <;> (conv => cbv)) | (((refine q_call2 ho (f31 hL hb (by omega)) (fun M2 e6 hp6 => ?_))) <;> (conv => cbv) <;> (obtain ⟨h1, h2⟩ := hp5.uni hb hp6; subst h1; subst h2; obtain ⟨x, hx, hxl⟩ := hp5.ints hb)) | ((first | refine q_call3 ho (f27 hM (by omega)) (fun M3 k1 e7 hp7 => ?_)) <;> (conv => cbv)) | (((refine q_call3 ho (f32 hM (by omega)) (fun M4 k2 e8 hp8 => ?_))) <;> (conv => cbv) <;> (obtain ⟨h1, h2, h3⟩ := hp7.uni hp8; subst h1; subst h2; subst h3; obtain ⟨y, hy⟩ := hp7.ints)) | (((refine q_call1 ho (f28 hx hx (by omega)) (fun t ht => ?_))) <;> (conv => cbv) <;> (rcases ht with ⟨ht, hs⟩ | ⟨ht, hs⟩ <;> first | exact absurd rfl hs | subst ht)) | ((first | refine q_tostrM ho hy (fun s hs => ?_)) <;> (conv => cbv)) | (((refine q_call1 ho f10 (fun t ht => ?_))) <;> (conv => cbv) <;> (subst ht)) | ((first | refine q_leq ‹_› (fun h => ?_) (fun h => ?_) | refine q_gtrF ‹_› (by omega) ?_ | refine q_gtr ‹_› (fun h => ?_) (fun h => ?_) | refine q_eqlT ‹_› (by omega) ?_ | refine q_neqF ‹_› (by omega) ?_ | refine q_seql ‹_› (fun h => ?_) (fun h => ?_) | refine q_lenM ‹_› (by assumption) (fun n hn => ?_)) <;> (conv => cbv)))
  all_goals clear hR ho
  all_goals first | rfl | (subst_vars; exact absurd rfl (by assumption))
end Go.Ab.R2
end
