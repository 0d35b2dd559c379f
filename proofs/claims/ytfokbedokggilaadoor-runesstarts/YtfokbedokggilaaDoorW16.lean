/- Walks: what each function computes. -/
import Derived.Test.YtfokbedokggilaaDoorW15
set_option linter.all false
section
namespace Go.Ab.R2
open Go.Proofs Go.Ab Go.Ab.C2
set_option linter.unusedSimpArgs false
set_option linter.unusedVariables false
set_option maxRecDepth 10000
set_option maxHeartbeats 4000000
/-- A place in a text to which its runes lead: the runes before it, and where they begin. -/
inductive Rch (b : List Int) : List Int → List Int → Int → Prop
  | nil : Rch b [] [] 0
  | step {rs ss : List Int} {at' r n : Int} : Rch b rs ss at' → dec b at' = (r, n, 0) → Rch b (rs ++ [r]) (ss ++ [at']) (at' + n)
theorem std_enc {y : List Int} {r : Int} (hy : By y) (h : std y = some r) : isR r ∧ y = enc r := by
  have h1 : 1 ≤ y.length := by
    rcases y with _ | ⟨a, y⟩
    · simp [std] at h
    · simp
  have h2 : y.length ≤ 4 := by
    rcases y with _ | ⟨a, _ | ⟨b, _ | ⟨c, _ | ⟨d, _ | ⟨e, y⟩⟩⟩⟩⟩ <;> simp [std] at h ⊢
  rw [std_of hy h1 h2] at h
  split at h
  · rename_i hc; simp only [Option.some.injEq] at h; subst h; exact hc
  · cases h
theorem decS_ok {d : List Int} {r n : Int} (h : decS d = (r, n, 0)) : 1 ≤ n ∧ n ≤ 4 ∧ n ≤ d.length ∧ std (d.take n.toNat) = some r := by
  by_cases hd : d = []
  · subst hd; simp [decS, std, bg] at h
  have hl : 0 < d.length := List.length_pos_iff.2 hd
  unfold decS at h
  split at h
  · rename_i r' h1
    simp only [Prod.mk.injEq, and_true] at h
    obtain ⟨rfl, rfl⟩ := h
    exact ⟨by omega, by omega, by omega, h1⟩
  · split at h
    · rename_i r' h1
      simp only [Prod.mk.injEq, and_true] at h
      obtain ⟨rfl, rfl⟩ := h
      split at h1
      · exact ⟨by omega, by omega, by omega, h1⟩
      · cases h1
    · split at h
      · rename_i r' h1
        simp only [Prod.mk.injEq, and_true] at h
        obtain ⟨rfl, rfl⟩ := h
        split at h1
        · exact ⟨by omega, by omega, by omega, h1⟩
        · cases h1
      · split at h
        · rename_i r' h1
          simp only [Prod.mk.injEq, and_true] at h
          obtain ⟨rfl, rfl⟩ := h
          split at h1
          · exact ⟨by omega, by omega, by omega, h1⟩
          · cases h1
        · split at h <;> simp at h
theorem dec_ok {b : List Int} {at' r n : Int} (hb : By b) (h : dec b at' = (r, n, 0)) : 0 ≤ at' ∧ at' < b.length ∧ 1 ≤ n ∧ n ≤ 4 ∧ at' + n ≤ b.length ∧ isR r ∧ (b.drop at'.toNat).take n.toNat = enc r := by
  unfold dec at h
  split at h
  · simp at h
  · rename_i hc
    obtain ⟨h1, h2, h3, h4⟩ := decS_ok h
    obtain ⟨h5, h6⟩ := std_enc ((hb.drop _).take _) h4
    rw [List.length_drop] at h3
    exact ⟨by omega, by omega, h1, h2, by omega, h5, h6⟩
theorem enc_len {r : Int} : (enc r).length = if r < 128 then 1 else if r < 2048 then 2 else if r < 65536 then 3 else 4 := by
  unfold enc; (repeat' split) <;> rfl
theorem dec_width {b : List Int} {at' r n : Int} (hb : By b) (h : dec b at' = (r, n, 0)) : n = (enc r).length := by
  obtain ⟨h1, h2, h3, h4, h5, h6, h7⟩ := dec_ok hb h
  rw [← h7, List.length_take, List.length_drop]; omega
theorem Rch.bd {b rs ss : List Int} {at' : Int} (hb : By b) (h : Rch b rs ss at') : 0 ≤ at' ∧ at' ≤ b.length := by
  induction h with
  | nil => exact ⟨Int.le_refl _, by omega⟩
  | step _ hd ih => obtain ⟨h1, h2, h3, h4, h5, _⟩ := dec_ok hb hd; exact ⟨by omega, h5⟩
/-- What Check returns of a text that is not too long. -/
def ChkP (b : List Int) (at' e : Int) : Prop := (8000 < b.length ∧ at' = 0 ∧ e = 3) ∨ (b.length ≤ 8000 ∧ ∃ rs ss, Rch b rs ss at' ∧ ((at' = b.length ∧ e = 0) ∨ (at' < b.length ∧ e = (dec b at').2.2 ∧ e ≠ 0)))

theorem dec_len {b : List Int} {at' r n : Int} (hb : By b) (h : dec b at' = (r, n, 0)) : ACall En 39 ⟨1, [(0, vr r)], [], [], []⟩ (Ret1 vi fun m => m = n) := by
  have hw := dec_width hb h
  rw [enc_len] at hw
  obtain ⟨_, _, _, _, _, h6, _⟩ := dec_ok hb h
  refine (f39v h6).mono ?_
  rintro ae st ⟨rfl, m, hm, rfl⟩
  refine ⟨rfl, m, ?_, rfl⟩
  (repeat' split at hw) <;> omega
theorem f24 {b : List Int} {L : List AV} (hL : L = b.map vu) (hb : By b) (hl : b.length < 4611686018427387904) : ACall En 24 ⟨1, [(0, .sl 1 L)], [], [], []⟩ (Ret2 vi vi (ChkP b)) := by
  refine ACall.vm { pa := [44] } [] ok24 glNil mixed rfl fun o R' ho hR => ?_
  conv => cbv
  repeat' (first | (refine hR _ _ ⟨rfl, _, _, ?_, rfl⟩) | ((first | refine q_inl {} [] ho ok44 glNil mixed rfl fun o' ho' => ?_ | (refine q_rfun {} [] ho rfl ok52 glNil mixed rfl (fun lp r o1 R1 hr1 hr2 hr3 hr4 hr5 ho1 hn1 hn2 hn3 => ?_); rcases r with ⟨s0, p0, fn0, tm0, pa0, as0, bo0, df0⟩; simp only at hr1 hr2 hr3 hr4 hr5 ho1; subst hr1 hr2) | (refine q_loop ho1 (fun k : Int × Int => ⟨30, [(0, .fn (.yield lp) [] []), (1, .bp 1 0), (3, vi k.1)], [], [[vi k.2], [.sl 1 L]], [(lp, .loop ⟨.ready, none, fn0, tm0, pa0, as0, bo0, df0⟩)]⟩) (fun k => k.2 = k.1 ∧ ∃ rs ss, Rch b rs ss k.1) (fun k => (b.length - k.1).toNat) (0, 0) ⟨rfl, [], [], .nil⟩ ⟨rfl, ⟨rfl, rfl, rfl, trivial⟩, trivial, rfl, .inl rfl⟩ ?_; rintro ⟨k, k2⟩ ⟨hk2, rs, ss, hk⟩ Q' hQn hQe; simp only at hk2 hk; subst hk2; have hbd := hk.bd hb) | (refine q_call (by assumption) (f11 hL hb) ?_; rintro _ _ ⟨rfl, x, n, e, hd, rfl⟩) | refine q_yld (i := 0) (n := 30) {} [] ho1 (fun E hE => hE.1) rfl rfl rfl hr3 rfl hr4 hr5 glNil mixed (fun o2 ho2 => ?_) | (refine q_call (by assumption) (dec_len hb (hd.symm.trans (by rw [h]))) ?_; rintro _ _ ⟨rfl, m, rfl, rfl⟩; have hw := dec_ok hb (hd.symm.trans (by rw [h]))) | refine ⟨rfl, ?_⟩) <;> (conv => cbv)) | (refine hQn _ ⟨(_, _), ?_, ?_, rfl, ⟨rfl, rfl, rfl, trivial⟩, trivial, rfl, .inl rfl⟩) | ((first | refine hQe _ _ nofun ?_ | refine hn1 _ _ rfl (by nofun) rfl ?_ | refine q_lssT ‹_› (by omega) ?_ | refine q_lssF ‹_› (by omega) ?_ | refine q_lss ‹_› (fun h => ?_) (fun h => ?_) | refine q_leqT ‹_› (by omega) ?_ | refine q_leqF ‹_› (by omega) ?_ | refine q_leq ‹_› (fun h => ?_) (fun h => ?_) | refine q_gtrT ‹_› (by omega) ?_ | refine q_gtrF ‹_› (by omega) ?_ | refine q_gtr ‹_› (fun h => ?_) (fun h => ?_) | refine q_geqT ‹_› (by omega) ?_ | refine q_geqF ‹_› (by omega) ?_ | refine q_geq ‹_› (fun h => ?_) (fun h => ?_) | refine q_eqlT ‹_› (by omega) ?_ | refine q_eqlF ‹_› (by omega) ?_ | refine q_eql ‹_› (fun h => ?_) (fun h => ?_) | refine q_neqT ‹_› (by omega) ?_ | refine q_neqF ‹_› (by omega) ?_ | refine q_neq ‹_› (fun h => ?_) (fun h => ?_) | refine q_seql ‹_› (fun h => ?_) (fun h => ?_) | refine q_sneq ‹_› (fun h => ?_) (fun h => ?_) | refine q_slss ‹_› (fun h => ?_) (fun h => ?_) | (refine q_eqs ‹_› rfl (fun h => ?_) (fun h => ?_) <;> simp only [eqP, and_true, reduceCtorEq] at h) | (refine q_addc ‹_› (by simp only [Int.reduceAdd, Int.reduceSub]; rfl) (by decide) ?_) | (refine q_subc ‹_› (by simp only [Int.reduceAdd, Int.reduceSub]; rfl) (by decide) ?_) | refine q_add64 ‹_› (by omega) (by omega) (fun n hn => ?_) | refine q_sub64 ‹_› (by omega) (by omega) (fun n hn => ?_) | refine q_mul64 ‹_› (by omega) (by omega) (fun n hn => ?_) | refine q_quo64 ‹_› (by omega) (by omega) (by omega) (fun n hn => ?_) | refine q_rem64 ‹_› (by omega) (by omega) (fun n hn => ?_) | refine q_add32 ‹_› (by omega) (by omega) (fun n hn => ?_) | refine q_sub32 ‹_› (by omega) (by omega) (fun n hn => ?_) | refine q_mul32 ‹_› (by omega) (by omega) (fun n hn => ?_) | refine q_quo32 ‹_› (by omega) (by omega) (by omega) (fun n hn => ?_) | refine q_addU8 ‹_› (by omega) (by omega) (fun n hn => ?_) | refine q_subU8 ‹_› (by omega) (by omega) (fun n hn => ?_) | refine q_cv64 ‹_› (by omega) (by omega) ?_ | refine q_cv32 ‹_› (by omega) (by omega) ?_ | refine q_cvU8 ‹_› (by omega) (by omega) ?_ | refine q_cvU8m ‹_› (fun n hn => ?_) | refine q_cvU64 ‹_› (by omega) (by omega) ?_ | refine q_cvU32 ‹_› (by omega) (by omega) ?_ | (refine q_andc 1 1 2 ‹_› (by decide) (by omega) (by simp only [IntKind.bits]; omega) (fun n hn => ?_)) | (refine q_andc 2 3 4 ‹_› (by decide) (by omega) (by simp only [IntKind.bits]; omega) (fun n hn => ?_)) | (refine q_andc 3 7 8 ‹_› (by decide) (by omega) (by simp only [IntKind.bits]; omega) (fun n hn => ?_)) | (refine q_andc 4 15 16 ‹_› (by decide) (by omega) (by simp only [IntKind.bits]; omega) (fun n hn => ?_)) | (refine q_andc 5 31 32 ‹_› (by decide) (by omega) (by simp only [IntKind.bits]; omega) (fun n hn => ?_)) | (refine q_andc 6 63 64 ‹_› (by decide) (by omega) (by simp only [IntKind.bits]; omega) (fun n hn => ?_)) | (refine q_andc 7 127 128 ‹_› (by decide) (by omega) (by simp only [IntKind.bits]; omega) (fun n hn => ?_)) | (refine q_andc 8 255 256 ‹_› (by decide) (by omega) (by simp only [IntKind.bits]; omega) (fun n hn => ?_)) | (refine q_orc 6 192 3 64 ‹_› (by decide) (by omega) (by omega) (by simp only [IntKind.bits]; omega) (fun n hn => ?_)) | (refine q_orc 5 224 7 32 ‹_› (by decide) (by omega) (by omega) (by simp only [IntKind.bits]; omega) (fun n hn => ?_)) | (refine q_orc 4 240 15 16 ‹_› (by decide) (by omega) (by omega) (by simp only [IntKind.bits]; omega) (fun n hn => ?_)) | (refine q_orc 7 128 1 128 ‹_› (by decide) (by omega) (by omega) (by simp only [IntKind.bits]; omega) (fun n hn => ?_)) | refine q_orU8 64 192 ‹_› (by decide +kernel) rfl (by omega) (by omega) (fun n hn => ?_) | refine q_orU8 32 224 ‹_› (by decide +kernel) rfl (by omega) (by omega) (fun n hn => ?_) | refine q_orU8 16 240 ‹_› (by decide +kernel) rfl (by omega) (by omega) (fun n hn => ?_) | refine q_orU8 64 128 ‹_› (by decide +kernel) rfl (by omega) (by omega) (fun n hn => ?_) | refine q_and ‹_› (fun n hn => ?_) | refine q_or ‹_› (fun n hn => ?_) | refine q_xor ‹_› (fun n hn => ?_) | refine q_shrc 1 2 ‹_› (by decide) (by omega) (fun n hn => ?_) | refine q_shrc 2 4 ‹_› (by decide) (by omega) (fun n hn => ?_) | refine q_shrc 3 8 ‹_› (by decide) (by omega) (fun n hn => ?_) | refine q_shrc 4 16 ‹_› (by decide) (by omega) (fun n hn => ?_) | refine q_shrc 5 32 ‹_› (by decide) (by omega) (fun n hn => ?_) | refine q_shrc 6 64 ‹_› (by decide) (by omega) (fun n hn => ?_) | refine q_shrc 7 128 ‹_› (by decide) (by omega) (fun n hn => ?_) | refine q_shrc 8 256 ‹_› (by decide) (by omega) (fun n hn => ?_) | refine q_shrc 10 1024 ‹_› (by decide) (by omega) (fun n hn => ?_) | refine q_shrc 12 4096 ‹_› (by decide) (by omega) (fun n hn => ?_) | refine q_shrc 16 65536 ‹_› (by decide) (by omega) (fun n hn => ?_) | refine q_shrc 18 262144 ‹_› (by decide) (by omega) (fun n hn => ?_) | refine q_shrc 24 16777216 ‹_› (by decide) (by omega) (fun n hn => ?_) | (refine q_shlc 1 2 ‹_› (by decide) (by omega) (by simp only [IntKind.bits]; omega) (fun n hn => ?_)) | (refine q_shlc 2 4 ‹_› (by decide) (by omega) (by simp only [IntKind.bits]; omega) (fun n hn => ?_)) | (refine q_shlc 3 8 ‹_› (by decide) (by omega) (by simp only [IntKind.bits]; omega) (fun n hn => ?_)) | (refine q_shlc 4 16 ‹_› (by decide) (by omega) (by simp only [IntKind.bits]; omega) (fun n hn => ?_)) | (refine q_shlc 5 32 ‹_› (by decide) (by omega) (by simp only [IntKind.bits]; omega) (fun n hn => ?_)) | (refine q_shlc 6 64 ‹_› (by decide) (by omega) (by simp only [IntKind.bits]; omega) (fun n hn => ?_)) | (refine q_shlc 7 128 ‹_› (by decide) (by omega) (by simp only [IntKind.bits]; omega) (fun n hn => ?_)) | (refine q_shlc 8 256 ‹_› (by decide) (by omega) (by simp only [IntKind.bits]; omega) (fun n hn => ?_)) | (refine q_shlc 10 1024 ‹_› (by decide) (by omega) (by simp only [IntKind.bits]; omega) (fun n hn => ?_)) | (refine q_shlc 12 4096 ‹_› (by decide) (by omega) (by simp only [IntKind.bits]; omega) (fun n hn => ?_)) | (refine q_shlc 16 65536 ‹_› (by decide) (by omega) (by simp only [IntKind.bits]; omega) (fun n hn => ?_)) | (refine q_shlc 18 262144 ‹_› (by decide) (by omega) (by simp only [IntKind.bits]; omega) (fun n hn => ?_)) | (refine q_shlc 24 16777216 ‹_› (by decide) (by omega) (by simp only [IntKind.bits]; omega) (fun n hn => ?_)) | refine q_shl ‹_› (by omega) (fun n hn => ?_) | refine q_shr ‹_› (by omega) (fun n hn => ?_) | refine q_slen ‹_› (fun n hn => ?_) | refine q_six ‹_› (by omega) (by omega) (fun c hc n hn h1 => ?_) | refine q_tobytesM ‹_› (fun r hr => ?_) | refine q_tostrM ‹_› (by assumption) (fun s hs => ?_) | refine q_lenM ‹_› (by assumption) (fun n hn => ?_) | refine q_len0 ‹_› ?_ | refine q_len1 ‹_› ?_ | refine q_len2 ‹_› ?_ | refine q_len3 ‹_› ?_ | refine q_len4 ‹_› ?_ | refine q_len5 ‹_› ?_ | refine q_len6 ‹_› ?_ | refine q_len7 ‹_› ?_ | refine q_len8 ‹_› ?_ | refine q_len ‹_› (fun n hn => ?_) | refine q_idxc ‹_› (by decide) rfl ?_ | refine q_arrl ‹_› (by decide) (by decide) ?_ | refine q_idxM ‹_› (by assumption) (by omega) (by omega) (fun e he => ?_) | refine q_idx ‹_› (by omega) (by omega) (fun e he => ?_) | refine q_posM ‹_› (by assumption) (by omega) (by omega) (fun j hj => ?_) | refine q_nthM ‹_› (by assumption) (by omega) (fun e he => ?_) | refine q_subHiL ‹_› (by decide) rfl ?_ | refine q_subLoL ‹_› (by decide) rfl ?_ | refine q_sub2L ‹_› (by decide) (by decide) rfl ?_ | refine q_sub2M ‹_› (by assumption) (by omega) (by omega) (by omega) (fun r hr => ?_) | refine q_subLoM ‹_› (by assumption) (by omega) (by omega) (fun r hr => ?_) | refine q_subHiM ‹_› (by assumption) (by omega) (by omega) (fun r hr => ?_) | refine q_sub3M ‹_› (by assumption) (by omega) (by omega) (by omega) (fun r hr => ?_) | refine q_sub0 ‹_› ?_ | refine q_popM ‹_› (by assumption) (by omega) (by omega) (fun r hr => ?_) | refine q_free ‹_› ?_ | refine q_newo ‹_› (fun lp => ?_) | refine q_obj 0 ‹_› rfl ?_ | refine q_nxt ‹_› (fun h c w hd hw => ?_) (fun h => ?_) | refine q_appL ‹_› (Nat.le_of_ble_eq_true rfl) ?_) <;> (conv => cbv)))
  all_goals clear hR ho
  · exact .inl ⟨by omega, rfl, rfl⟩
  · exact .inr ⟨by omega, rs, ss, hk, .inr ⟨by omega, by rw [← hd], by grind⟩⟩
  · exact ⟨by simp only []; omega, rs ++ [x], ss ++ [k2], by simp only []; rw [hn]; exact .step hk (hd.symm.trans (by rw [h]))⟩
  · simp only []; omega
  · exact .inr ⟨by omega, rs, ss, hk, .inl ⟨by omega, rfl⟩⟩
theorem Rch.len {b rs ss : List Int} {p : Int} (h : Rch b rs ss p) : ss.length = rs.length := by
  induction h with
  | nil => rfl
  | step _ _ ih => simp [ih]
theorem Rch.det {b rs ss : List Int} {p : Int} (h : Rch b rs ss p) : ∀ {rs' ss' : List Int} {p' : Int}, Rch b rs' ss' p' → rs.length = rs'.length → rs = rs' ∧ ss = ss' ∧ p = p' := by
  induction h with
  | nil =>
    intro rs' ss' p' h' hl
    cases h' with
    | nil => exact ⟨rfl, rfl, rfl⟩
    | step _ _ => simp at hl
  | @step rs ss p r n h hd ih =>
    intro rs' ss' p' h' hl
    cases h' with
    | nil => simp at hl
    | @step rs' ss' p' r' n' h' hd' =>
      obtain ⟨rfl, rfl, rfl⟩ := ih h' (by simpa using hl)
      rw [hd] at hd'; simp only [Prod.mk.injEq, and_true] at hd'; obtain ⟨rfl, rfl⟩ := hd'
      exact ⟨rfl, rfl, rfl⟩
theorem Rch.lt {b rs ss rs' ss' : List Int} {p q : Int} (hb : By b) (h : Rch b rs ss p) (h' : Rch b rs' ss' q) (hlt : rs.length < rs'.length) : p < q ∧ (dec b p).2.2 = 0 := by
  induction h' with
  | nil => simp at hlt
  | @step rs' ss' q r n h' hd ih =>
    have h1 := dec_ok hb hd
    by_cases e : rs.length = rs'.length
    · obtain ⟨rfl, rfl, rfl⟩ := h.det h' e
      exact ⟨by omega, by rw [hd]⟩
    · have := ih (by simp at hlt; omega)
      exact ⟨by omega, this.2⟩
theorem Rch.uni {b rs ss rs' ss' : List Int} {p : Int} (hb : By b) (h : Rch b rs ss p) (h' : Rch b rs' ss' p) : rs = rs' ∧ ss = ss' := by
  rcases Nat.lt_trichotomy rs.length rs'.length with e | e | e
  · have := h.lt hb h' e; omega
  · obtain ⟨h1, h2, _⟩ := h.det h' e; exact ⟨h1, h2⟩
  · have := h'.lt hb h e; omega
theorem ChkP.uni {b : List Int} {p e p' e' : Int} (hb : By b) (h : ChkP b p e) (h' : ChkP b p' e') : p = p' ∧ e = e' := by
  rcases h with ⟨h1, rfl, rfl⟩ | ⟨h1, rs, ss, hr, hc⟩
  · rcases h' with ⟨h2, rfl, rfl⟩ | ⟨h2, _⟩
    · exact ⟨rfl, rfl⟩
    · omega
  · rcases h' with ⟨h2, rfl, rfl⟩ | ⟨h2, rs', ss', hr', hc'⟩
    · omega
    · have k1 := hr.bd hb
      have k2 := hr'.bd hb
      have k3 : ∀ {q}, (q : Int) = b.length → (dec b q).2.2 ≠ 0 := by
        intro q hq; unfold dec; rw [if_pos (by omega)]; simp
      rcases Nat.lt_trichotomy rs.length rs'.length with e | e | e
      · have k4 := hr.lt hb hr' e
        rcases hc with ⟨c1, c2⟩ | ⟨c1, c2, c3⟩
        · omega
        · exact absurd (c2.trans k4.2) c3
      · obtain ⟨_, _, rfl⟩ := hr.det hr' e
        refine ⟨rfl, ?_⟩
        rcases hc with ⟨c1, c2⟩ | ⟨c1, c2, c3⟩ <;> rcases hc' with ⟨d1, d2⟩ | ⟨d1, d2, d3⟩ <;> first | omega | rw [c2, d2]
      · have k4 := hr'.lt hb hr e
        rcases hc' with ⟨c1, c2⟩ | ⟨c1, c2, c3⟩
        · omega
        · exact absurd (c2.trans k4.2) c3
end Go.Ab.R2
end
