/- Walks: what each function computes. -/
import Derived.Test.YtfokbedokggilaaDoorW11
set_option linter.all false
section
namespace Go.Ab.R2
open Go.Proofs Go.Ab Go.Ab.C2
set_option linter.unusedSimpArgs false
set_option linter.unusedVariables false
set_option maxRecDepth 10000
set_option maxHeartbeats 4000000
theorem get_step {x y : List Int} {k : Int} (hk : 0 ≤ k) (hj : ∀ j : Nat, j < k → x[j]? = y[j]?) {e : Int} (h1 : x[k.toNat]? = some e) (h2 : y[k.toNat]? = some e) {n : Int} (hn : n = k + 1) : ∀ j : Nat, j < n → x[j]? = y[j]? := by
  intro j h
  by_cases c : j = k.toNat
  · subst c; rw [h1, h2]
  · exact hj j (by omega)
theorem get_all {x y : List Int} {k : Int} (hj : ∀ j : Nat, j < k → x[j]? = y[j]?) (h : x.length = y.length) (hk : ¬ k < x.length) : x = y := by
  refine List.ext_getElem? fun j => ?_
  by_cases c : j < k
  · exact hj j c
  · rw [List.getElem?_eq_none (by omega), List.getElem?_eq_none (by omega)]
theorem f23 {x y : List Int} {L M : List AV} (hL : L = x.map vi) (hM : M = y.map vi) (hl : x.length < 4611686018427387904) : ACall En 23 ⟨2, [(0, .sl 1 L), (1, .sl 1 M)], [], [], []⟩ (Ret1 vb fun t => (t = true ∧ x = y) ∨ (t = false ∧ x ≠ y)) := by
  refine ACall.vm {} [] ok23 glNil mixed rfl fun o R' ho hR => ?_
  conv => cbv
  repeat' (first | (refine hR _ _ ⟨rfl, _, ?_, rfl⟩) | ((first | (refine q_loop ho (fun k : Int => ⟨26, [(0, .sl 1 L), (1, .sl 1 M), (5, vi k)], [], [], []⟩) (fun k => 0 ≤ k ∧ ∀ j : Nat, j < k → x[j]? = y[j]?) (fun k => (x.length - k).toNat) 0 ⟨by omega, by omega⟩ ⟨rfl, ⟨rfl, rfl, rfl, trivial⟩, trivial, rfl, .inl rfl⟩ ?_; rintro k ⟨hk, hj⟩ Q' hQn hQe)) <;> (conv => cbv)) | (refine hQn _ ⟨_, ?_, ?_, rfl, ⟨rfl, rfl, rfl, trivial⟩, trivial, rfl, .inl rfl⟩) | ((first | refine hQe _ _ nofun ?_ | refine q_lss ‹_› (fun h => ?_) (fun h => ?_) | refine q_neq ‹_› (fun h => ?_) (fun h => ?_) | refine q_add64 ‹_› (by omega) (by omega) (fun n hn => ?_) | refine q_lenM ‹_› (by assumption) (fun n hn => ?_) | refine q_idxM ‹_› (by assumption) (by omega) (by omega) (fun e he => ?_) | refine q_free ‹_› ?_) <;> (conv => cbv)))
  all_goals clear hR ho
  · exact .inr ⟨rfl, fun e => by subst e; omega⟩
  · exact .inr ⟨rfl, fun e => by subst e; simp_all⟩
  · subst_vars; exact ⟨by omega, get_step hk hj (by assumption) (by assumption) (by first | assumption | rfl)⟩
  · subst_vars; omega
  · exact .inl ⟨rfl, get_all hj (by omega) (by omega)⟩
theorem f28 {x y : List Int} {L M : List AV} (hL : L = x.map vr) (hM : M = y.map vr) (hl : x.length < 4611686018427387904) : ACall En 28 ⟨2, [(0, .sl 1 L), (1, .sl 1 M)], [], [], []⟩ (Ret1 vb fun t => (t = true ∧ x = y) ∨ (t = false ∧ x ≠ y)) := by
  refine ACall.vm {} [] ok28 glNil mixed rfl fun o R' ho hR => ?_
  conv => cbv
  repeat' (first | (refine hR _ _ ⟨rfl, _, ?_, rfl⟩) | ((first | (refine q_loop ho (fun k : Int => ⟨26, [(0, .sl 1 L), (1, .sl 1 M), (5, vi k)], [], [], []⟩) (fun k => 0 ≤ k ∧ ∀ j : Nat, j < k → x[j]? = y[j]?) (fun k => (x.length - k).toNat) 0 ⟨by omega, by omega⟩ ⟨rfl, ⟨rfl, rfl, rfl, trivial⟩, trivial, rfl, .inl rfl⟩ ?_; rintro k ⟨hk, hj⟩ Q' hQn hQe)) <;> (conv => cbv)) | (refine hQn _ ⟨_, ?_, ?_, rfl, ⟨rfl, rfl, rfl, trivial⟩, trivial, rfl, .inl rfl⟩) | ((first | refine hQe _ _ nofun ?_ | refine q_lss ‹_› (fun h => ?_) (fun h => ?_) | refine q_neq ‹_› (fun h => ?_) (fun h => ?_) | refine q_add64 ‹_› (by omega) (by omega) (fun n hn => ?_) | refine q_lenM ‹_› (by assumption) (fun n hn => ?_) | refine q_idxM ‹_› (by assumption) (by omega) (by omega) (fun e he => ?_) | refine q_free ‹_› ?_) <;> (conv => cbv)))
  all_goals clear hR ho
  · exact .inr ⟨rfl, fun e => by subst e; omega⟩
  · exact .inr ⟨rfl, fun e => by subst e; simp_all⟩
  · subst_vars; exact ⟨by omega, get_step hk hj (by assumption) (by assumption) (by first | assumption | rfl)⟩
  · subst_vars; omega
  · exact .inl ⟨rfl, get_all hj (by omega) (by omega)⟩
theorem f29 {b : List Int} {L : List AV} (hL : L = b.map vu) (hb : By b) (hl : b.length < 4611686018427387904) : ACall En 29 ⟨1, [(0, .sl 1 L)], [], [], []⟩ (Ret2 vi vi (ChkP b)) := by
  refine ACall.vm {} [] ok29 glNil mixed rfl fun o R' ho hR => ?_
  conv => cbv
  repeat' (first | (refine hR _ _ ⟨rfl, _, _, ?_, rfl⟩) | ((first | (refine q_loop ho (fun k : Int => ⟨30, [(0, .sl 1 L), (4, vi k)], [], [], []⟩) (fun k => ∃ rs ss, Rch b rs ss k) (fun k => (b.length - k).toNat) 0 ⟨[], [], .nil⟩ ⟨rfl, ⟨rfl, rfl, trivial⟩, trivial, rfl, .inl rfl⟩ ?_; rintro k ⟨rs, ss, hk⟩ Q' hQn hQe; have hbd := hk.bd hb) | (refine q_call (by assumption) (f12 hL hb hl) ?_; rintro _ _ ⟨rfl, x, n, e2, hd, rfl⟩; have hw := dec_w hb hd)) <;> (conv => cbv)) | (refine hQn _ ⟨_, ?_, ?_, rfl, ⟨rfl, rfl, trivial⟩, trivial, rfl, .inl rfl⟩) | ((first | refine hQe _ _ nofun ?_ | refine q_lss ‹_› (fun h => ?_) (fun h => ?_) | refine q_gtr ‹_› (fun h => ?_) (fun h => ?_) | refine q_neq ‹_› (fun h => ?_) (fun h => ?_) | refine q_add64 ‹_› (by omega) (by omega) (fun n hn => ?_) | refine q_lenM ‹_› (by assumption) (fun n hn => ?_)) <;> (conv => cbv)))
  all_goals clear hR ho
  · exact .inl ⟨by omega, rfl, rfl⟩
  · exact .inr ⟨by omega, rs, ss, hk, .inr ⟨by omega, by rw [← hd], by assumption⟩⟩
  · exact ⟨rs ++ [x], ss ++ [k], by subst_vars; exact .step hk hd.symm⟩
  · omega
  · exact .inr ⟨by omega, rs, ss, hk, .inl ⟨by omega, rfl⟩⟩
theorem f31 {b : List Int} {L : List AV} (hL : L = b.map vu) (hb : By b) (hl : b.length < 4611686018427387904) : ACall En 31 ⟨1, [(0, .sl 1 L)], [], [], []⟩ (Ret2 (.sl 1) vi (RunP b)) := by
  refine ACall.share ?_
  refine ACall.vm {} [] ok31 glNil mixed rfl fun o R' ho hR => ?_
  conv => cbv
  repeat' (first | (refine hR _ _ ⟨rfl, _, _, ?_, rfl⟩) | ((first | (refine q_call ho (f29 hL hb hl) ?_; rintro _ _ ⟨rfl, p, e, hp, rfl⟩; have h8 := hp.le) | (refine q_loop ho (fun k : Int × List AV => ⟨38, [(0, .sl 1 L), (6, .own 6), (7, vi k.1)], [(6, (1, k.2))], [], []⟩) (fun k => ∃ rs ss, Rch b rs ss k.1 ∧ k.2 = rs.map vr) (fun k => (b.length - k.1).toNat) (0, []) ⟨[], [], .nil, rfl⟩ ⟨rfl, ⟨rfl, rfl, rfl, trivial⟩, ⟨rfl, trivial⟩, rfl, .inl rfl⟩ ?_; rintro ⟨k, M⟩ ⟨rs, ss, hk, hM⟩ Q' hQn hQe; simp only at hM hk; have hbd := hk.bd hb; have hcn := hk.cnt hb; have hln := hk.len) | (refine q_call (by assumption) (f12 hL hb hl) ?_; rintro _ _ ⟨rfl, x, n, e2, hd, rfl⟩; have hw := dec_w hb hd; have hz : e2 = 0 := (show e = 0 by assumption) ▸ (ChkP.go hb ((show e = 0 by assumption) ▸ hp) hk hd (by omega))) | (refine q_appM (x := rs) (y := [x]) (by assumption) hM rfl (by simp only [List.length_cons, List.length_nil]; omega) (fun r hr => ?_))) <;> (conv => cbv)) | (refine hQn _ ⟨(_, _), ?_, ?_, rfl, ⟨rfl, rfl, rfl, trivial⟩, ⟨rfl, trivial⟩, rfl, .inl rfl⟩) | ((first | refine hQe _ _ nofun ?_ | refine q_lss ‹_› (fun h => ?_) (fun h => ?_) | refine q_neq ‹_› (fun h => ?_) (fun h => ?_) | refine q_add64 ‹_› (by omega) (by omega) (fun n hn => ?_) | refine q_lenM ‹_› (by assumption) (fun n hn => ?_)) <;> (conv => cbv)))
  all_goals clear hR ho
  · exact .inr ⟨p, hp, by assumption, rfl⟩
  · exact ⟨rs ++ [x], ss ++ [k], by simp only []; subst_vars; exact .step hk hd.symm, hr⟩
  · simp only []; omega
  · have he : e = 0 := by assumption
    subst he
    have hkb : k = b.length := by omega
    subst hkb
    exact .inl ⟨rs, ss, hp.fin.1 ▸ hp, hk, by assumption, rfl⟩
theorem f18 {b : List Int} {L : List AV} (hL : L = b.map vu) (hb : By b) (hl : b.length < 4611686018427387904) : ACall En 18 ⟨1, [(0, .sl 1 L)], [], [], []⟩ (Ret2 (.sl 1) vi (StaP b)) := by
  refine ACall.share ?_
  refine ACall.vm {} [] ok18 glNil mixed rfl fun o R' ho hR => ?_
  conv => cbv
  repeat' (first | (refine hR _ _ ⟨rfl, _, _, ?_, rfl⟩) | ((first | (refine q_call ho (f29 hL hb hl) ?_; rintro _ _ ⟨rfl, p, e, hp, rfl⟩; have h8 := hp.le) | (refine q_loop ho (fun k : Int × List AV => ⟨41, [(0, .sl 1 L), (6, .own 6), (7, vi k.1)], [(6, (1, k.2))], [], []⟩) (fun k => ∃ rs ss, Rch b rs ss k.1 ∧ k.2 = ss.map vi) (fun k => (b.length - k.1).toNat) (0, []) ⟨[], [], .nil, rfl⟩ ⟨rfl, ⟨rfl, rfl, rfl, trivial⟩, ⟨rfl, trivial⟩, rfl, .inl rfl⟩ ?_; rintro ⟨k, M⟩ ⟨rs, ss, hk, hM⟩ Q' hQn hQe; simp only at hM hk; have hbd := hk.bd hb; have hcn := hk.cnt hb; have hln := hk.len) | (refine q_call (by assumption) (f12 hL hb hl) ?_; rintro _ _ ⟨rfl, x, n, e2, hd, rfl⟩; have hw := dec_w hb hd; have hz : e2 = 0 := (show e = 0 by assumption) ▸ (ChkP.go hb ((show e = 0 by assumption) ▸ hp) hk hd (by omega))) | (refine q_appM (x := ss) (y := [k]) (by assumption) hM rfl (by simp only [List.length_cons, List.length_nil]; omega) (fun r hr => ?_))) <;> (conv => cbv)) | (refine hQn _ ⟨(_, _), ?_, ?_, rfl, ⟨rfl, rfl, rfl, trivial⟩, ⟨rfl, trivial⟩, rfl, .inl rfl⟩) | ((first | refine hQe _ _ nofun ?_ | refine q_lss ‹_› (fun h => ?_) (fun h => ?_) | refine q_neq ‹_› (fun h => ?_) (fun h => ?_) | refine q_add64 ‹_› (by omega) (by omega) (fun n hn => ?_) | refine q_lenM ‹_› (by assumption) (fun n hn => ?_)) <;> (conv => cbv)))
  all_goals clear hR ho
  · exact .inr ⟨p, hp, by assumption, rfl⟩
  · exact ⟨rs ++ [x], ss ++ [k], by simp only []; subst_vars; exact .step hk hd.symm, hr⟩
  · simp only []; omega
  · have he : e = 0 := by assumption
    subst he
    have hkb : k = b.length := by omega
    subst hkb
    exact .inl ⟨rs, ss, hp.fin.1 ▸ hp, hk, by assumption, rfl⟩
/-- What Count returns. -/
def CntP (b : List Int) (c e : Int) : Prop := ∃ M, RunP b M e ∧ c = M.length
theorem f25 {b : List Int} {L : List AV} (hL : L = b.map vu) (hb : By b) (hl : b.length < 4611686018427387904) : ACall En 25 ⟨1, [(0, .sl 1 L)], [], [], []⟩ (Ret2 vi vi (CntP b)) := by
  refine ACall.vm {} [] ok25 glNil mixed rfl fun o R' ho hR => ?_
  conv => cbv
  repeat' (first | (refine hR _ _ ⟨rfl, _, _, ?_, rfl⟩) | ((first | (refine q_call ho (f26 hL hb hl) ?_; rintro _ _ ⟨rfl, M, e, hp, rfl⟩) | refine q_len ‹_› (fun n hn => ?_)) <;> (conv => cbv)))
  all_goals clear hR ho
  · exact ⟨M, hp, by assumption⟩
theorem f30 {b : List Int} {L : List AV} (hL : L = b.map vu) (hb : By b) (hl : b.length < 4611686018427387904) : ACall En 30 ⟨1, [(0, .sl 1 L)], [], [], []⟩ (Ret2 vi vi (CntP b)) := by
  refine ACall.vm {} [] ok30 glNil mixed rfl fun o R' ho hR => ?_
  conv => cbv
  repeat' (first | (refine hR _ _ ⟨rfl, _, _, ?_, rfl⟩) | ((first | (refine q_call ho (f31 hL hb hl) ?_; rintro _ _ ⟨rfl, M, e, hp, rfl⟩) | refine q_len ‹_› (fun n hn => ?_)) <;> (conv => cbv)))
  all_goals clear hR ho
  · exact ⟨M, hp, by assumption⟩
end Go.Ab.R2
end
section
namespace Go.Ab.R2
open Go.Proofs Go.Ab Go.Ab.C2
set_option linter.unusedSimpArgs false
set_option linter.unusedVariables false
set_option maxRecDepth 10000
set_option maxHeartbeats 4000000
theorem RunP.uni {b : List Int} {M M' : List AV} {e e' : Int} (hb : By b) (h : RunP b M e) (h' : RunP b M' e') : M = M' ∧ e = e' := by
  rcases h with ⟨rs, ss, h1, h2, h3, h4⟩ | ⟨p, h1, h2, h3⟩ <;> rcases h' with ⟨rs', ss', h1', h2', h3', h4'⟩ | ⟨p', h1', h2', h3'⟩
  · obtain ⟨rfl, rfl⟩ := h2.uni hb h2'; exact ⟨by rw [h3, h3'], by rw [h4, h4']⟩
  · have := (h1.uni hb h1').2; omega
  · have := (h1.uni hb h1').2; omega
  · exact ⟨by rw [h3, h3'], (h1.uni hb h1').2⟩
theorem StaP.uni {b : List Int} {M M' : List AV} {e e' : Int} (hb : By b) (h : StaP b M e) (h' : StaP b M' e') : M = M' ∧ e = e' := by
  rcases h with ⟨rs, ss, h1, h2, h3, h4⟩ | ⟨p, h1, h2, h3⟩ <;> rcases h' with ⟨rs', ss', h1', h2', h3', h4'⟩ | ⟨p', h1', h2', h3'⟩
  · obtain ⟨rfl, rfl⟩ := h2.uni hb h2'; exact ⟨by rw [h3, h3'], by rw [h4, h4']⟩
  · have := (h1.uni hb h1').2; omega
  · have := (h1.uni hb h1').2; omega
  · exact ⟨by rw [h3, h3'], (h1.uni hb h1').2⟩
theorem CntP.uni {b : List Int} {c c' : Int} {e e' : Int} (hb : By b) (h : CntP b c e) (h' : CntP b c' e') : c = c' ∧ e = e' := by
  obtain ⟨M, h1, rfl⟩ := h; obtain ⟨M', h2, rfl⟩ := h'
  obtain ⟨rfl, rfl⟩ := h1.uni hb h2; exact ⟨rfl, rfl⟩
theorem k13 : ACall En 13 ⟨1, [(0, vr 8364)], [], [], []⟩ (Ret2 (.sl 1) vi fun M e => M = [226, 130, 172].map vu ∧ e = 0) := by
  refine (f13 8364).mono ?_
  rintro ae st ⟨rfl, M, e, h, rfl⟩
  refine ⟨rfl, M, e, ?_, rfl⟩
  rcases h with ⟨_, h1, h2⟩ | ⟨h1, _⟩
  · exact ⟨h1.trans rfl, h2⟩
  · exact absurd (show isR 8364 by decide) h1
theorem k11 {b : List Int} (hb : By b) (hl : b.length < 4611686018427387904) {r n e : Int} (h : dec b 0 = (r, n, e)) : ACall En 11 ⟨2, [(0, .sl 1 (b.map vu)), (1, vi 0)], [], [], []⟩ (Ret3 vr vi vi fun r' n' e' => r' = r ∧ n' = n ∧ e' = e) := by
  refine (f11 rfl hb).mono ?_
  rintro ae st ⟨rfl, r', n', e', h', rfl⟩
  refine ⟨rfl, r', n', e', ?_, rfl⟩
  rw [h] at h'; simpa using h'
theorem by_dec {b : List Int} (h : b.all (fun n => decide (0 ≤ n ∧ n < 256)) = true) : By b := fun n hn => by simpa using List.all_eq_true.1 h n hn
theorem k17 : ACall En 17 ⟨1, [(0, .sl 1 ([97, 195, 169].map vu))], [], [], []⟩ (Ret2 (.sl 1) vi fun M e => M = [0, 1, 3].map vi ∧ e = 0) := by
  have hb : By [97, 195, 169] := by_dec rfl
  refine (f17 rfl hb (by decide)).mono ?_
  rintro ae st ⟨rfl, M, e, h, rfl⟩
  refine ⟨rfl, M, e, ?_, rfl⟩
  have hr : Rch [97, 195, 169] [97, 233] [0, 1] 3 := .step (n := 2) (.step (n := 1) .nil (by decide)) (by decide)
  exact h.uni hb (.inl ⟨_, _, .inr ⟨by decide, _, _, hr, .inl ⟨rfl, rfl⟩⟩, hr, rfl, rfl⟩)
theorem f10 : ACall En 10 ⟨0, [], [], [], []⟩ (Ret1 vb fun t => t = true) := by
  refine ACall.vm {} [] ok10 glNil mixed rfl fun o R' ho hR => ?_
  conv => cbv
  repeat' (first | (refine hR _ _ ⟨rfl, _, ?_, rfl⟩) | ((first | (refine q_call ho k13 ?_; rintro _ _ ⟨rfl, M, _, ⟨hM, rfl⟩, rfl⟩) | (refine q_call ho (k11 (b := [195, 169, 0]) (by_dec rfl) (by decide) (by decide : _ = ((233 : Int), (2 : Int), (0 : Int)))) ?_; rintro _ _ ⟨rfl, _, _, _, ⟨rfl, rfl, rfl⟩, rfl⟩) | (refine q_call ho (k11 (b := [195]) (by_dec rfl) (by decide) (by decide : _ = ((0 : Int), (0 : Int), (320 : Int)))) ?_; rintro _ _ ⟨rfl, _, _, _, ⟨rfl, rfl, rfl⟩, rfl⟩) | (refine q_call ho (k11 (b := [237, 160, 128]) (by_dec rfl) (by decide) (by decide : _ = ((0 : Int), (0 : Int), (6 : Int)))) ?_; rintro _ _ ⟨rfl, _, _, _, ⟨rfl, rfl, rfl⟩, rfl⟩) | (refine q_call ho k17 ?_; rintro _ _ ⟨rfl, M2, _, ⟨hM2, rfl⟩, rfl⟩) | (refine q_call ho (f15 91) ?_; rintro _ _ ⟨rfl, c, e, hc, rfl⟩; obtain ⟨rfl, rfl⟩ : c = 2 ∧ e = 0 := by (rcases hc with ⟨_, h1, h2⟩ | ⟨h1, _⟩; exact ⟨h1.trans rfl, h2⟩; exact absurd (by decide) h1)) | refine q_tostrM ho hM (fun s hs => ?_) | (refine q_call ho (f23 hM2 (y := [0, 1, 3]) rfl (by decide)) ?_; rintro _ _ ⟨rfl, _, ⟨rfl, hq⟩ | ⟨rfl, hq⟩, rfl⟩) | refine q_eqlT ‹_› (by omega) ?_ | refine q_seql ‹_› (fun h => ?_) (fun h => ?_)) <;> (conv => cbv)))
  all_goals clear hR ho
  · rfl
  · exact absurd rfl hq
  · exact absurd (hs.trans (by decide)) h
end Go.Ab.R2
end
section
namespace Go.Ab.R2
open Go.Proofs Go.Ab Go.Ab.C2
set_option linter.unusedSimpArgs false
set_option linter.unusedVariables false
set_option maxRecDepth 10000
set_option maxHeartbeats 4000000
theorem dec3 {r n e r' n' e' : Int} {d : Int × Int × Int} (h : (r, n, e) = d) (h' : (r', n', e') = d) : r = r' ∧ n = n' ∧ e = e' := by
  subst h; cases h'; exact ⟨rfl, rfl, rfl⟩
theorem p14_uni {r : Int} {M M' : List AV} {e e' : Int} (h : p14 r M e) (h' : p14 r M' e') : M = M' ∧ e = e' := by
  rcases h with ⟨h1, h2, h3⟩ | ⟨h1, h2, h3⟩ <;> rcases h' with ⟨h1', h2', h3'⟩ | ⟨h1', h2', h3'⟩ <;> first | exact absurd h1 h1' | exact absurd h1' h1 | exact ⟨by rw [h2, h2'], by rw [h3, h3']⟩
theorem clsP_uni {r c c' e e' : Int} (h : clsP r c e) (h' : clsP r c' e') : c = c' ∧ e = e' := by
  rcases h with ⟨h1, h2, h3⟩ | ⟨h1, h2, h3⟩ <;> rcases h' with ⟨h1', h2', h3'⟩ | ⟨h1', h2', h3'⟩ <;> first | exact absurd h1 h1' | exact absurd h1' h1 | exact ⟨by rw [h2, h2'], by rw [h3, h3']⟩
theorem p14_by {r : Int} {M : List AV} {e : Int} (h : p14 r M e) : ∃ x : List Int, M = x.map vu := by
  rcases h with ⟨_, h, _⟩ | ⟨_, h, _⟩
  · exact ⟨_, h⟩
  · exact ⟨[], h⟩
theorem f3 {b : List Int} {L : List AV} {at' r : Int} (hL : L = b.map vu) (hb : By b) : ACall En 3 ⟨3, [(0, .sl 1 L), (1, vi at'), (2, vr r)], [], [], []⟩ (Ret1 vb fun t => t = true) := by
  refine ACall.vm {} [] ok3 glNil mixed rfl fun o R' ho hR => ?_
  conv => cbv
  repeat' (first | (refine hR _ _ ⟨rfl, _, ?_, rfl⟩) | ((first | refine q_call3 ho (f11 hL hb) (fun r1 n1 e1 hd1 => ?_)) <;> (conv => cbv)) | (((refine q_call3 ho (f12 hL hb (by omega)) (fun r2 n2 e2 hd2 => ?_))) <;> (conv => cbv) <;> (obtain ⟨h1, h2, h3⟩ := dec3 hd1 hd2; subst h1; subst h2; subst h3)) | ((first | refine q_call2 ho (f13 r) (fun M1 e3 hp1 => ?_)) <;> (conv => cbv)) | (((refine q_call2 ho (RetL2.share (fun b => ⟨_, rfl⟩) (f14 r)) (fun M2 e4 hp2 => ?_))) <;> (conv => cbv) <;> (obtain ⟨h1, h2⟩ := p14_uni hp1 hp2; subst h1; subst h2; obtain ⟨x, hx⟩ := p14_by hp1)) | ((first | refine q_call2 ho (f15 r) (fun c1 e5 hc1 => ?_)) <;> (conv => cbv)) | (((refine q_call2 ho (f16 r) (fun c2 e6 hc2 => ?_))) <;> (conv => cbv) <;> (obtain ⟨h1, h2⟩ := clsP_uni hc1 hc2; subst h1; subst h2)) | ((first | refine q_tostrM ho hx (fun s hs => ?_)) <;> (conv => cbv)) | (((refine q_call1 ho f10 (fun t ht => ?_))) <;> (conv => cbv) <;> (subst ht)) | ((first | refine q_gtr ‹_› (fun h => ?_) (fun h => ?_) | refine q_eqlT ‹_› (by omega) ?_ | refine q_seql ‹_› (fun h => ?_) (fun h => ?_) | refine q_lenM ‹_› (by assumption) (fun n hn => ?_)) <;> (conv => cbv)))
  all_goals clear hR ho
  all_goals first | rfl | (subst_vars; exact absurd rfl (by assumption))
end Go.Ab.R2
end
