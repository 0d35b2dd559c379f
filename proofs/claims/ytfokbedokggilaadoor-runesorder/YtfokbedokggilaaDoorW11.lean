/- Walks: what each function computes. -/
import Derived.Test.YtfokbedokggilaaDoorW10
set_option linter.all false
section
namespace Go.Ab.R2
open Go.Proofs Go.Ab Go.Ab.C2
set_option linter.unusedSimpArgs false
set_option linter.unusedVariables false
set_option maxRecDepth 10000
set_option maxHeartbeats 4000000
/-- A place in a text to which its runes lead: the runes before it, and where they begin. -/
inductive Rch (b : List Int) : List Int → List Int → Int → Prop
  | nil : Rch b [] [] 0
  | step {rs ss : List Int} {at' r n : Int} : Rch b rs ss at' → dec b at' = (r, n, 0) → Rch b (rs ++ [r]) (ss ++ [at']) (at' + n)
theorem std_enc {y : List Int} {r : Int} (hy : By y) (h : std y = some r) : isR r ∧ y = enc r := by
  have h1 : 1 ≤ y.length := by
    rcases y with _ | ⟨a, y⟩
    · simp [std] at h
    · simp
  have h2 : y.length ≤ 4 := by
    rcases y with _ | ⟨a, _ | ⟨b, _ | ⟨c, _ | ⟨d, _ | ⟨e, y⟩⟩⟩⟩⟩ <;> simp [std] at h ⊢
  rw [std_of hy h1 h2] at h
  split at h
  · rename_i hc; simp only [Option.some.injEq] at h; subst h; exact hc
  · cases h
theorem decS_ok {d : List Int} {r n : Int} (h : decS d = (r, n, 0)) : 1 ≤ n ∧ n ≤ 4 ∧ n ≤ d.length ∧ std (d.take n.toNat) = some r := by
  by_cases hd : d = []
  · subst hd; simp [decS, std, bg] at h
  have hl : 0 < d.length := List.length_pos_iff.2 hd
  unfold decS at h
  split at h
  · rename_i r' h1
    simp only [Prod.mk.injEq, and_true] at h
    obtain ⟨rfl, rfl⟩ := h
    exact ⟨by omega, by omega, by omega, h1⟩
  · split at h
    · rename_i r' h1
      simp only [Prod.mk.injEq, and_true] at h
      obtain ⟨rfl, rfl⟩ := h
      split at h1
      · exact ⟨by omega, by omega, by omega, h1⟩
      · cases h1
    · split at h
      · rename_i r' h1
        simp only [Prod.mk.injEq, and_true] at h
        obtain ⟨rfl, rfl⟩ := h
        split at h1
        · exact ⟨by omega, by omega, by omega, h1⟩
        · cases h1
      · split at h
        · rename_i r' h1
          simp only [Prod.mk.injEq, and_true] at h
          obtain ⟨rfl, rfl⟩ := h
          split at h1
          · exact ⟨by omega, by omega, by omega, h1⟩
          · cases h1
        · split at h <;> simp at h
theorem dec_ok {b : List Int} {at' r n : Int} (hb : By b) (h : dec b at' = (r, n, 0)) : 0 ≤ at' ∧ at' < b.length ∧ 1 ≤ n ∧ n ≤ 4 ∧ at' + n ≤ b.length ∧ isR r ∧ (b.drop at'.toNat).take n.toNat = enc r := by
  unfold dec at h
  split at h
  · simp at h
  · rename_i hc
    obtain ⟨h1, h2, h3, h4⟩ := decS_ok h
    obtain ⟨h5, h6⟩ := std_enc ((hb.drop _).take _) h4
    rw [List.length_drop] at h3
    exact ⟨by omega, by omega, h1, h2, by omega, h5, h6⟩
theorem enc_len {r : Int} : (enc r).length = if r < 128 then 1 else if r < 2048 then 2 else if r < 65536 then 3 else 4 := by
  unfold enc; (repeat' split) <;> rfl
theorem dec_width {b : List Int} {at' r n : Int} (hb : By b) (h : dec b at' = (r, n, 0)) : n = (enc r).length := by
  obtain ⟨h1, h2, h3, h4, h5, h6, h7⟩ := dec_ok hb h
  rw [← h7, List.length_take, List.length_drop]; omega
theorem Rch.bd {b rs ss : List Int} {at' : Int} (hb : By b) (h : Rch b rs ss at') : 0 ≤ at' ∧ at' ≤ b.length := by
  induction h with
  | nil => exact ⟨Int.le_refl _, by omega⟩
  | step _ hd ih => obtain ⟨h1, h2, h3, h4, h5, _⟩ := dec_ok hb hd; exact ⟨by omega, h5⟩
/-- What Check returns of a text that is not too long. -/
def ChkP (b : List Int) (at' e : Int) : Prop := (8000 < b.length ∧ at' = 0 ∧ e = 3) ∨ (b.length ≤ 8000 ∧ ∃ rs ss, Rch b rs ss at' ∧ ((at' = b.length ∧ e = 0) ∨ (at' < b.length ∧ e = (dec b at').2.2 ∧ e ≠ 0)))

theorem dec_len {b : List Int} {at' r n : Int} (hb : By b) (h : dec b at' = (r, n, 0)) : ACall En 39 ⟨1, [(0, vr r)], [], [], []⟩ (Ret1 vi fun m => m = n) := by
  have hw := dec_width hb h
  rw [enc_len] at hw
  obtain ⟨_, _, _, _, _, h6, _⟩ := dec_ok hb h
  refine (f39v h6).mono ?_
  rintro ae st ⟨rfl, m, hm, rfl⟩
  refine ⟨rfl, m, ?_, rfl⟩
  (repeat' split at hw) <;> omega
theorem f24 {b : List Int} {L : List AV} (hL : L = b.map vu) (hb : By b) (hl : b.length < 4611686018427387904) : ACall En 24 ⟨1, [(0, .sl 1 L)], [], [], []⟩ (Ret2 vi vi (ChkP b)) := by
  refine ACall.vm { pa := [44] } [] ok24 glNil mixed rfl fun o R' ho hR => ?_
  conv => cbv
  repeat' (first | (refine hR _ _ ⟨rfl, _, _, ?_, rfl⟩) | ((first | refine q_inl {} [] ho ok44 glNil mixed rfl fun o' ho' => ?_ | (refine q_rfun {} [] ho rfl ok52 glNil mixed rfl (fun lp r o1 R1 hr1 hr2 hr3 hr4 hr5 ho1 hn1 hn2 hn3 => ?_); rcases r with ⟨s0, p0, fn0, tm0, pa0, as0, bo0, df0⟩; simp only at hr1 hr2 hr3 hr4 hr5 ho1; subst hr1 hr2) | (refine q_loop ho1 (fun k : Int × Int => ⟨30, [(0, .fn (.yield lp) [] []), (1, .bp 1 0), (3, vi k.1)], [], [[vi k.2], [.sl 1 L]], [(lp, .loop ⟨.ready, none, fn0, tm0, pa0, as0, bo0, df0⟩)]⟩) (fun k => k.2 = k.1 ∧ ∃ rs ss, Rch b rs ss k.1) (fun k => (b.length - k.1).toNat) (0, 0) ⟨rfl, [], [], .nil⟩ ⟨rfl, ⟨rfl, rfl, rfl, trivial⟩, trivial, rfl, .inl rfl⟩ ?_; rintro ⟨k, k2⟩ ⟨hk2, rs, ss, hk⟩ Q' hQn hQe; simp only at hk2 hk; subst hk2; have hbd := hk.bd hb) | (refine q_call (by assumption) (f11 hL hb) ?_; rintro _ _ ⟨rfl, x, n, e, hd, rfl⟩) | refine q_yld (i := 0) (n := 30) {} [] ho1 (fun E hE => hE.1) rfl rfl rfl hr3 rfl hr4 hr5 glNil mixed (fun o2 ho2 => ?_) | (refine q_call (by assumption) (dec_len hb (hd.symm.trans (by rw [h]))) ?_; rintro _ _ ⟨rfl, m, rfl, rfl⟩; have hw := dec_ok hb (hd.symm.trans (by rw [h])))) <;> (conv => cbv)) | (refine hQn _ ⟨(_, _), ?_, ?_, rfl, ⟨rfl, rfl, rfl, trivial⟩, trivial, rfl, .inl rfl⟩) | ((first | refine hQe _ _ nofun ?_ | refine hn1 _ _ rfl (by nofun) rfl ?_ | refine q_lssT ‹_› (by omega) ?_ | refine q_lssF ‹_› (by omega) ?_ | refine q_lss ‹_› (fun h => ?_) (fun h => ?_) | refine q_gtr ‹_› (fun h => ?_) (fun h => ?_) | refine q_neq ‹_› (fun h => ?_) (fun h => ?_) | refine q_add64 ‹_› (by omega) (by omega) (fun n hn => ?_) | refine q_lenM ‹_› (by assumption) (fun n hn => ?_)) <;> (conv => cbv)))
  all_goals clear hR ho
  · exact .inl ⟨by omega, rfl, rfl⟩
  · exact .inr ⟨by omega, rs, ss, hk, .inr ⟨by omega, by rw [← hd], by grind⟩⟩
  · exact ⟨by simp only []; omega, rs ++ [x], ss ++ [k2], by simp only []; rw [hn]; exact .step hk (hd.symm.trans (by rw [h]))⟩
  · simp only []; omega
  · exact .inr ⟨by omega, rs, ss, hk, .inl ⟨by omega, rfl⟩⟩
theorem Rch.len {b rs ss : List Int} {p : Int} (h : Rch b rs ss p) : ss.length = rs.length := by
  induction h with
  | nil => rfl
  | step _ _ ih => simp [ih]
theorem Rch.det {b rs ss : List Int} {p : Int} (h : Rch b rs ss p) : ∀ {rs' ss' : List Int} {p' : Int}, Rch b rs' ss' p' → rs.length = rs'.length → rs = rs' ∧ ss = ss' ∧ p = p' := by
  induction h with
  | nil =>
    intro rs' ss' p' h' hl
    cases h' with
    | nil => exact ⟨rfl, rfl, rfl⟩
    | step _ _ => simp at hl
  | @step rs ss p r n h hd ih =>
    intro rs' ss' p' h' hl
    cases h' with
    | nil => simp at hl
    | @step rs' ss' p' r' n' h' hd' =>
      obtain ⟨rfl, rfl, rfl⟩ := ih h' (by simpa using hl)
      rw [hd] at hd'; simp only [Prod.mk.injEq, and_true] at hd'; obtain ⟨rfl, rfl⟩ := hd'
      exact ⟨rfl, rfl, rfl⟩
theorem Rch.lt {b rs ss rs' ss' : List Int} {p q : Int} (hb : By b) (h : Rch b rs ss p) (h' : Rch b rs' ss' q) (hlt : rs.length < rs'.length) : p < q ∧ (dec b p).2.2 = 0 := by
  induction h' with
  | nil => simp at hlt
  | @step rs' ss' q r n h' hd ih =>
    have h1 := dec_ok hb hd
    by_cases e : rs.length = rs'.length
    · obtain ⟨rfl, rfl, rfl⟩ := h.det h' e
      exact ⟨by omega, by rw [hd]⟩
    · have := ih (by simp at hlt; omega)
      exact ⟨by omega, this.2⟩
theorem Rch.uni {b rs ss rs' ss' : List Int} {p : Int} (hb : By b) (h : Rch b rs ss p) (h' : Rch b rs' ss' p) : rs = rs' ∧ ss = ss' := by
  rcases Nat.lt_trichotomy rs.length rs'.length with e | e | e
  · have := h.lt hb h' e; omega
  · obtain ⟨h1, h2, _⟩ := h.det h' e; exact ⟨h1, h2⟩
  · have := h'.lt hb h e; omega
theorem ChkP.uni {b : List Int} {p e p' e' : Int} (hb : By b) (h : ChkP b p e) (h' : ChkP b p' e') : p = p' ∧ e = e' := by
  rcases h with ⟨h1, rfl, rfl⟩ | ⟨h1, rs, ss, hr, hc⟩
  · rcases h' with ⟨h2, rfl, rfl⟩ | ⟨h2, _⟩
    · exact ⟨rfl, rfl⟩
    · omega
  · rcases h' with ⟨h2, rfl, rfl⟩ | ⟨h2, rs', ss', hr', hc'⟩
    · omega
    · have k1 := hr.bd hb
      have k2 := hr'.bd hb
      have k3 : ∀ {q}, (q : Int) = b.length → (dec b q).2.2 ≠ 0 := by
        intro q hq; unfold dec; rw [if_pos (by omega)]; simp
      rcases Nat.lt_trichotomy rs.length rs'.length with e | e | e
      · have k4 := hr.lt hb hr' e
        rcases hc with ⟨c1, c2⟩ | ⟨c1, c2, c3⟩
        · omega
        · exact absurd (c2.trans k4.2) c3
      · obtain ⟨_, _, rfl⟩ := hr.det hr' e
        refine ⟨rfl, ?_⟩
        rcases hc with ⟨c1, c2⟩ | ⟨c1, c2, c3⟩ <;> rcases hc' with ⟨d1, d2⟩ | ⟨d1, d2, d3⟩ <;> first | omega | rw [c2, d2]
      · have k4 := hr'.lt hb hr e
        rcases hc' with ⟨c1, c2⟩ | ⟨c1, c2, c3⟩
        · omega
        · exact absurd (c2.trans k4.2) c3
end Go.Ab.R2
end
section
namespace Go.Ab.R2
open Go.Proofs Go.Ab Go.Ab.C2
set_option linter.unusedSimpArgs false
set_option linter.unusedVariables false
set_option maxRecDepth 10000
set_option maxHeartbeats 4000000
/-- What Runes returns: the runes, or what is wrong. -/
def RunP (b : List Int) (M : List AV) (e : Int) : Prop := (∃ rs ss, ChkP b b.length 0 ∧ Rch b rs ss b.length ∧ M = rs.map vr ∧ e = 0) ∨ (∃ p, ChkP b p e ∧ e ≠ 0 ∧ M = [])
theorem Rch.cnt {b rs ss : List Int} {p : Int} (hb : By b) (h : Rch b rs ss p) : rs.length ≤ p := by
  induction h with
  | nil => simp
  | step h hd ih => have := dec_ok hb hd; simp only [List.length_append, List.length_cons, List.length_nil]; omega
theorem ChkP.le {b : List Int} {p e : Int} (h : ChkP b p e) (he : e = 0) : b.length ≤ 8000 := by
  rcases h with ⟨_, _, h⟩ | ⟨h, _⟩ <;> omega
theorem ChkP.fin {b : List Int} {p : Int} (h : ChkP b p 0) : p = b.length ∧ ∃ rs ss, Rch b rs ss b.length := by
  rcases h with ⟨_, _, h⟩ | ⟨h, rs, ss, h2, ⟨h3, _⟩ | ⟨_, _, h3⟩⟩
  · omega
  · exact ⟨h3, rs, ss, h3 ▸ h2⟩
  · exact absurd rfl h3
theorem dec_w {b : List Int} {k r n e : Int} (hb : By b) (hd : (r, n, e) = dec b k) : e = 0 → 1 ≤ n ∧ n ≤ 4 ∧ k + n ≤ b.length := by
  rintro rfl
  obtain ⟨_, _, h1, h2, h3, _⟩ := dec_ok hb hd.symm
  exact ⟨h1, h2, h3⟩
/-- A text whose check went well is read to its end. -/
theorem ChkP.go {b rs ss : List Int} {p k r n e : Int} (hb : By b) (h : ChkP b p 0) (hk : Rch b rs ss k) (hd : (r, n, e) = dec b k) (hlt : k < b.length) : e = 0 := by
  obtain ⟨rfl, rs', ss', h2⟩ := h.fin
  rcases Nat.lt_trichotomy rs.length rs'.length with c | c | c
  · have := (hk.lt hb h2 c).2; rw [← hd] at this; exact this
  · obtain ⟨_, _, c⟩ := hk.det h2 c; omega
  · have := h2.lt hb hk c; omega
theorem f26 {b : List Int} {L : List AV} (hL : L = b.map vu) (hb : By b) (hl : b.length < 4611686018427387904) : ACall En 26 ⟨1, [(0, .sl 1 L)], [], [], []⟩ (Ret2 (.sl 1) vi (RunP b)) := by
  refine ACall.share ?_
  refine ACall.vm { pa := [44] } [] ok26 glNil mixed rfl fun o R' ho hR => ?_
  conv => cbv
  repeat' (first | (refine hR _ _ ⟨rfl, _, _, ?_, rfl⟩) | ((first | refine q_inl {} [] ho ok44 glNil mixed rfl fun o' ho' => ?_ | (refine q_call ho (f24 hL hb hl) ?_; rintro _ _ ⟨rfl, p, e, hp, rfl⟩; have h8 := hp.le) | (refine q_rfun {} [] ho rfl ok52 glNil mixed rfl (fun lp r o1 R1 hr1 hr2 hr3 hr4 hr5 ho1 hn1 hn2 hn3 => ?_); rcases r with ⟨s0, p0, fn0, tm0, pa0, as0, bo0, df0⟩; simp only at hr1 hr2 hr3 hr4 hr5 ho1; subst hr1 hr2) | (refine q_loop ho1 (fun k : Int × List AV => ⟨30, [(0, .fn (.yield lp) [] []), (1, .bp 1 0), (3, vi k.1)], [], [[.ow 1 k.2], [.sl 1 L]], [(lp, .loop ⟨.ready, none, fn0, tm0, pa0, as0, bo0, df0⟩)]⟩) (fun k => ∃ rs ss, Rch b rs ss k.1 ∧ k.2 = rs.map vr) (fun k => (b.length - k.1).toNat) (0, []) ⟨[], [], .nil, rfl⟩ ⟨rfl, ⟨rfl, rfl, rfl, trivial⟩, trivial, rfl, .inl rfl⟩ ?_; rintro ⟨k, M⟩ ⟨rs, ss, hk, hM⟩ Q' hQn hQe; simp only at hM hk; have hbd := hk.bd hb; have hcn := hk.cnt hb) | (refine q_call (by assumption) (f11 hL hb) ?_; rintro _ _ ⟨rfl, x, n, e2, hd, rfl⟩; have hw := dec_w hb hd) | refine q_yld (i := 0) (n := 26) {} [] ho1 (fun E hE => hE.1) rfl rfl rfl hr3 rfl hr4 hr5 glNil mixed (fun o2 ho2 => ?_) | (refine q_appM (x := rs) (y := [x]) (by assumption) hM rfl (by simp only [List.length_cons, List.length_nil]; omega) (fun r hr => ?_))) <;> (conv => cbv)) | (refine hQn _ ⟨(_, _), ?_, ?_, rfl, ⟨rfl, rfl, rfl, trivial⟩, trivial, rfl, .inl rfl⟩) | ((first | refine hQe _ _ nofun ?_ | refine hn1 _ _ rfl (by nofun) rfl ?_ | refine q_lss ‹_› (fun h => ?_) (fun h => ?_) | refine q_neq ‹_› (fun h => ?_) (fun h => ?_) | refine q_add64 ‹_› (by omega) (by omega) (fun n hn => ?_) | refine q_lenM ‹_› (by assumption) (fun n hn => ?_)) <;> (conv => cbv)))
  all_goals clear hR ho
  · exact .inr ⟨p, hp, h, rfl⟩
  · have he : e = 0 := by assumption
    subst he; exact absurd (hp.go hb hk hd (by omega)) (by assumption)
  · exact ⟨rs ++ [x], ss ++ [k], by simp only []; rw [hn]; exact .step hk (hd.symm.trans (by rw [show e2 = 0 by omega])), hr⟩
  · simp only []; omega
  · have he : e = 0 := by assumption
    subst he
    have hkb : k = b.length := by omega
    subst hkb
    exact .inl ⟨rs, ss, hp.fin.1 ▸ hp, hk, hM, rfl⟩
/-- What Starts returns: where the runes begin, and the end. -/
def StaP (b : List Int) (M : List AV) (e : Int) : Prop := (∃ rs ss, ChkP b b.length 0 ∧ Rch b rs ss b.length ∧ M = (ss ++ [(b.length : Int)]).map vi ∧ e = 0) ∨ (∃ p, ChkP b p e ∧ e ≠ 0 ∧ M = [])
theorem f17 {b : List Int} {L : List AV} (hL : L = b.map vu) (hb : By b) (hl : b.length < 4611686018427387904) : ACall En 17 ⟨1, [(0, .sl 1 L)], [], [], []⟩ (Ret2 (.sl 1) vi (StaP b)) := by
  refine ACall.share ?_
  refine ACall.vm { pa := [44] } [] ok17 glNil mixed rfl fun o R' ho hR => ?_
  conv => cbv
  repeat' (first | (refine hR _ _ ⟨rfl, _, _, ?_, rfl⟩) | ((first | refine q_inl {} [] ho ok44 glNil mixed rfl fun o' ho' => ?_ | (refine q_call ho (f24 hL hb hl) ?_; rintro _ _ ⟨rfl, p, e, hp, rfl⟩; have h8 := hp.le) | (refine q_rfun {} [] ho rfl ok52 glNil mixed rfl (fun lp r o1 R1 hr1 hr2 hr3 hr4 hr5 ho1 hn1 hn2 hn3 => ?_); rcases r with ⟨s0, p0, fn0, tm0, pa0, as0, bo0, df0⟩; simp only at hr1 hr2 hr3 hr4 hr5 ho1; subst hr1 hr2) | (refine q_loop ho1 (fun k : Int × List AV => ⟨30, [(0, .fn (.yield lp) [] []), (1, .bp 1 0), (3, vi k.1)], [], [[.ow 1 k.2], [.sl 1 L]], [(lp, .loop ⟨.ready, none, fn0, tm0, pa0, as0, bo0, df0⟩)]⟩) (fun k => ∃ rs ss, Rch b rs ss k.1 ∧ k.2 = ss.map vi) (fun k => (b.length - k.1).toNat) (0, []) ⟨[], [], .nil, rfl⟩ ⟨rfl, ⟨rfl, rfl, rfl, trivial⟩, trivial, rfl, .inl rfl⟩ ?_; rintro ⟨k, M⟩ ⟨rs, ss, hk, hM⟩ Q' hQn hQe; simp only at hM hk; have hbd := hk.bd hb; have hcn := hk.cnt hb; have hln := hk.len) | (refine q_call (by assumption) (f11 hL hb) ?_; rintro _ _ ⟨rfl, x, n, e2, hd, rfl⟩; have hw := dec_w hb hd) | refine q_yld (i := 0) (n := 29) {} [] ho1 (fun E hE => hE.1) rfl rfl rfl hr3 rfl hr4 hr5 glNil mixed (fun o2 ho2 => ?_) | (refine q_appM (x := ss) (y := [(b.length : Int)]) (by assumption) hM (by simp only [*]; rfl) (by simp only [List.length_cons, List.length_nil]; omega) (fun r hr => ?_)) | (refine q_appM (x := ss) (y := [k]) (by assumption) hM rfl (by simp only [List.length_cons, List.length_nil]; omega) (fun r hr => ?_))) <;> (conv => cbv)) | (refine hQn _ ⟨(_, _), ?_, ?_, rfl, ⟨rfl, rfl, rfl, trivial⟩, trivial, rfl, .inl rfl⟩) | ((first | refine hQe _ _ nofun ?_ | refine hn1 _ _ rfl (by nofun) rfl ?_ | refine q_lss ‹_› (fun h => ?_) (fun h => ?_) | refine q_neq ‹_› (fun h => ?_) (fun h => ?_) | refine q_add64 ‹_› (by omega) (by omega) (fun n hn => ?_) | refine q_lenM ‹_› (by assumption) (fun n hn => ?_)) <;> (conv => cbv)))
  all_goals clear hR ho
  · exact .inr ⟨p, hp, h, rfl⟩
  · have he : e = 0 := by assumption
    subst he; exact absurd (hp.go hb hk hd (by omega)) (by assumption)
  · exact ⟨rs ++ [x], ss ++ [k], by simp only []; rw [hn]; exact .step hk (hd.symm.trans (by rw [show e2 = 0 by omega])), hr⟩
  · simp only []; omega
  · have he : e = 0 := by assumption
    subst he
    have hkb : k = b.length := by omega
    subst hkb
    exact .inl ⟨rs, ss, hp.fin.1 ▸ hp, hk, by assumption, rfl⟩
end Go.Ab.R2
end
