/- Walks: what each function computes. -/
import Derived.Test.YtfokbedokggilaaDoorW12
set_option linter.all false
section
namespace Go.Ab.R2
open Go.Proofs Go.Ab Go.Ab.C2
set_option linter.unusedSimpArgs false
set_option linter.unusedVariables false
set_option maxRecDepth 10000
set_option maxHeartbeats 4000000
instance (y : List Int) : Decidable (bg y) := by unfold bg; split <;> infer_instance
/-- What Decode returns of the bytes from a place on. -/
def decS (d : List Int) : Int × Int × Int :=
  match std (d.take 1) with
  | some r => (r, 1, 0)
  | none => match (if 2 ≤ d.length then std (d.take 2) else none) with
    | some r => (r, 2, 0)
    | none => match (if 3 ≤ d.length then std (d.take 3) else none) with
      | some r => (r, 3, 0)
      | none => match (if 4 ≤ d.length then std (d.take 4) else none) with
        | some r => (r, 4, 0)
        | none => if d.length < 4 ∧ bg d then (0, 0, 320) else (0, 0, 6)
def dec (b : List Int) (at' : Int) : Int × Int × Int := if at' < 0 ∨ (b.length : Int) ≤ at' then (0, 0, 7) else decS (b.drop at'.toNat)
def decD (d : List Int) : Int × Int × Int := if ¬ (dr d).1 = 65533 ∨ 1 < (dr d).2 then ((dr d).1, (dr d).2, 0) else if full d then (0, 0, 6) else (0, 0, 320)

theorem decS_1 (a : Int) (ha : 0 ≤ a ∧ a < 256) : decD ([a]) = decS ([a]) := by
  simp only [decD, decS, std, List.take_succ_cons, List.take_zero, List.take_nil, List.length_cons, List.length_nil, Nat.reduceAdd, Nat.reduceLeDiff, if_false, dr, res2, res3, res4, full, szI, loI, hiI, short, bg]
  grind (splits := 40)
theorem decS_2 (a b : Int) (ha : 0 ≤ a ∧ a < 256) (hb : 0 ≤ b ∧ b < 256) : decD ([a, b]) = decS ([a, b]) := by
  simp only [decD, decS, std, List.take_succ_cons, List.take_zero, List.take_nil, List.length_cons, List.length_nil, Nat.reduceAdd, Nat.reduceLeDiff, if_false, dr, res2, res3, res4, full, szI, loI, hiI, short, bg]
  grind (splits := 40)
theorem decS_3 (a b c : Int) (ha : 0 ≤ a ∧ a < 256) (hb : 0 ≤ b ∧ b < 256) (hc : 0 ≤ c ∧ c < 256) : decD ([a, b, c]) = decS ([a, b, c]) := by
  simp only [decD, decS, std, List.take_succ_cons, List.take_zero, List.take_nil, List.length_cons, List.length_nil, Nat.reduceAdd, Nat.reduceLeDiff, if_false, dr, res2, res3, res4, full, szI, loI, hiI, short, bg]
  grind (splits := 40)
theorem decS_4 (a b c d : Int) (t : List Int) (ha : 0 ≤ a ∧ a < 256) (hb : 0 ≤ b ∧ b < 256) (hc : 0 ≤ c ∧ c < 256) (hd : 0 ≤ d ∧ d < 256) : decD (a :: b :: c :: d :: t) = decS (a :: b :: c :: d :: t) := by
  simp only [decD, decS, std, List.take_succ_cons, List.take_zero, List.take_nil, List.length_cons, List.length_nil, Nat.reduceAdd, Nat.reduceLeDiff, if_false, dr, res2, res3, res4, full, szI, loI, hiI, short, bg]
  grind (splits := 40)
theorem decD_eq {d : List Int} (hd : By d) (hne : d ≠ []) : decD d = decS d := by
  rcases d with _ | ⟨a, _ | ⟨b, _ | ⟨c, _ | ⟨e, d⟩⟩⟩⟩
  · exact absurd rfl hne
  · exact decS_1 a (hd a (by simp))
  · exact decS_2 a b (hd a (by simp)) (hd b (by simp))
  · exact decS_3 a b c (hd a (by simp)) (hd b (by simp)) (hd c (by simp))
  · exact decS_4 a b c e d (hd a (by simp)) (hd b (by simp)) (hd c (by simp)) (hd e (by simp))
theorem decI_eq {b : List Int} (hb : By b) (at' : Int) : decI b at' = dec b at' := by
  unfold decI dec
  by_cases h : at' < 0 ∨ (b.length : Int) ≤ at'
  · rw [if_pos h, if_pos h]
  · rw [if_neg h, if_neg h]
    refine decD_eq (hb.drop _) fun e => ?_
    have := congrArg List.length e
    rw [List.length_drop] at this
    simp only [List.length_nil] at this
    omega
theorem f11 {b : List Int} {L : List AV} {at' : Int} (hL : L = b.map vu) (hb : By b) : ACall En 11 ⟨2, [(0, .sl 1 L), (1, vi at')], [], [], []⟩ (Ret3 vr vi vi fun r n e => (r, n, e) = dec b at') := by
  subst hL
  refine (decode b at' hb).mono ?_
  rintro ae st ⟨rfl, rfl⟩
  exact ⟨rfl, _, _, _, decI_eq hb at', rfl⟩
theorem take_from (b : List Int) (i j k : Nat) (h : j = i + k) : (b.take j).drop i = (b.drop i).take k := by
  rw [List.drop_take, h, Nat.add_sub_cancel_left]
end Go.Ab.R2
end
section
namespace Go.Ab.R2
open Go.Proofs Go.Ab Go.Ab.C2
set_option linter.unusedSimpArgs false
set_option linter.unusedVariables false
set_option maxRecDepth 10000
set_option maxHeartbeats 4000000
theorem f35k (k : Nat) {b : List Int} {L : List AV} {i j : Nat} (hL : L = ((b.take j).drop i).map vu) (hb : By b) (hj : j = i + k) (hl : j ≤ b.length) (h1 : 1 ≤ k) (h2 : k ≤ 4) : ACall En 35 ⟨1, [(0, .sl 1 L)], [], [], []⟩ (Ret2 vr vb fun r t => (t = true ∧ std ((b.drop i).take k) = some r) ∨ (t = false ∧ std ((b.drop i).take k) = none)) := by
  rw [take_from b i j k hj] at hL
  exact f35 hL ((hb.drop _).take _) (by rw [List.length_take, List.length_drop]; omega) (by rw [List.length_take]; omega)
theorem f12 {b : List Int} {L : List AV} {at' : Int} (hL : L = b.map vu) (hb : By b) (hl : b.length < 4611686018427387904) : ACall En 12 ⟨2, [(0, .sl 1 L), (1, vi at')], [], [], []⟩ (Ret3 vr vi vi fun r n e => (r, n, e) = dec b at') := by
  refine ACall.vm {} [] ok12 glNil mixed rfl fun o R' ho hR => ?_
  conv => cbv
  repeat' (first | (refine hR _ _ ⟨rfl, _, _, _, ?_, rfl⟩) | ((first | refine q_unr 5 ho ?_ | (refine q_call ho (f35k 1 (by assumption) hb (by omega) (by omega) (by decide) (by decide)) ?_; rintro _ _ ⟨rfl, r, _, ⟨rfl, hs⟩ | ⟨rfl, hs⟩, rfl⟩) | (refine q_call ho (f35k 2 (by assumption) hb (by omega) (by omega) (by decide) (by decide)) ?_; rintro _ _ ⟨rfl, r, _, ⟨rfl, hs⟩ | ⟨rfl, hs⟩, rfl⟩) | (refine q_call ho (f35k 3 (by assumption) hb (by omega) (by omega) (by decide) (by decide)) ?_; rintro _ _ ⟨rfl, r, _, ⟨rfl, hs⟩ | ⟨rfl, hs⟩, rfl⟩) | (refine q_call ho (f35k 4 (by assumption) hb (by omega) (by omega) (by decide) (by decide)) ?_; rintro _ _ ⟨rfl, r, _, ⟨rfl, hs⟩ | ⟨rfl, hs⟩, rfl⟩) | (refine q_call ho (f36 (by assumption) (hb.drop _) (by simp only [List.length_drop]; omega) (by simp only [List.length_drop]; omega)) ?_; rintro _ _ ⟨rfl, _, ⟨rfl, hs⟩ | ⟨rfl, hs⟩, rfl⟩) | refine q_lssT ‹_› (by omega) ?_ | refine q_lssF ‹_› (by omega) ?_ | refine q_lss ‹_› (fun h => ?_) (fun h => ?_) | refine q_leqT ‹_› (by omega) ?_ | refine q_leqF ‹_› (by omega) ?_ | refine q_leq ‹_› (fun h => ?_) (fun h => ?_) | refine q_gtrT ‹_› (by omega) ?_ | refine q_gtrF ‹_› (by omega) ?_ | refine q_gtr ‹_› (fun h => ?_) (fun h => ?_) | refine q_geqT ‹_› (by omega) ?_ | refine q_geqF ‹_› (by omega) ?_ | refine q_geq ‹_› (fun h => ?_) (fun h => ?_) | refine q_eqlT ‹_› (by omega) ?_ | refine q_eqlF ‹_› (by omega) ?_ | refine q_eql ‹_› (fun h => ?_) (fun h => ?_) | refine q_neqT ‹_› (by omega) ?_ | refine q_neqF ‹_› (by omega) ?_ | refine q_neq ‹_› (fun h => ?_) (fun h => ?_) | refine q_seql ‹_› (fun h => ?_) (fun h => ?_) | refine q_sneq ‹_› (fun h => ?_) (fun h => ?_) | refine q_slss ‹_› (fun h => ?_) (fun h => ?_) | (refine q_eqs ‹_› rfl (fun h => ?_) (fun h => ?_) <;> simp only [eqP, and_true, reduceCtorEq] at h) | (refine q_addc ‹_› (by simp only [Int.reduceAdd, Int.reduceSub]; rfl) (by decide) ?_) | (refine q_subc ‹_› (by simp only [Int.reduceAdd, Int.reduceSub]; rfl) (by decide) ?_) | refine q_add64 ‹_› (by omega) (by omega) (fun n hn => ?_) | refine q_sub64 ‹_› (by omega) (by omega) (fun n hn => ?_) | refine q_mul64 ‹_› (by omega) (by omega) (fun n hn => ?_) | refine q_quo64 ‹_› (by omega) (by omega) (by omega) (fun n hn => ?_) | refine q_rem64 ‹_› (by omega) (by omega) (fun n hn => ?_) | refine q_add32 ‹_› (by omega) (by omega) (fun n hn => ?_) | refine q_sub32 ‹_› (by omega) (by omega) (fun n hn => ?_) | refine q_mul32 ‹_› (by omega) (by omega) (fun n hn => ?_) | refine q_quo32 ‹_› (by omega) (by omega) (by omega) (fun n hn => ?_) | refine q_addU8 ‹_› (by omega) (by omega) (fun n hn => ?_) | refine q_subU8 ‹_› (by omega) (by omega) (fun n hn => ?_) | refine q_cv64 ‹_› (by omega) (by omega) ?_ | refine q_cv32 ‹_› (by omega) (by omega) ?_ | refine q_cvU8 ‹_› (by omega) (by omega) ?_ | refine q_cvU8m ‹_› (fun n hn => ?_) | refine q_cvU64 ‹_› (by omega) (by omega) ?_ | refine q_cvU32 ‹_› (by omega) (by omega) ?_ | (refine q_andc 1 1 2 ‹_› (by decide) (by omega) (by simp only [IntKind.bits]; omega) (fun n hn => ?_)) | (refine q_andc 2 3 4 ‹_› (by decide) (by omega) (by simp only [IntKind.bits]; omega) (fun n hn => ?_)) | (refine q_andc 3 7 8 ‹_› (by decide) (by omega) (by simp only [IntKind.bits]; omega) (fun n hn => ?_)) | (refine q_andc 4 15 16 ‹_› (by decide) (by omega) (by simp only [IntKind.bits]; omega) (fun n hn => ?_)) | (refine q_andc 5 31 32 ‹_› (by decide) (by omega) (by simp only [IntKind.bits]; omega) (fun n hn => ?_)) | (refine q_andc 6 63 64 ‹_› (by decide) (by omega) (by simp only [IntKind.bits]; omega) (fun n hn => ?_)) | (refine q_andc 7 127 128 ‹_› (by decide) (by omega) (by simp only [IntKind.bits]; omega) (fun n hn => ?_)) | (refine q_andc 8 255 256 ‹_› (by decide) (by omega) (by simp only [IntKind.bits]; omega) (fun n hn => ?_)) | (refine q_orc 6 192 3 64 ‹_› (by decide) (by omega) (by omega) (by simp only [IntKind.bits]; omega) (fun n hn => ?_)) | (refine q_orc 5 224 7 32 ‹_› (by decide) (by omega) (by omega) (by simp only [IntKind.bits]; omega) (fun n hn => ?_)) | (refine q_orc 4 240 15 16 ‹_› (by decide) (by omega) (by omega) (by simp only [IntKind.bits]; omega) (fun n hn => ?_)) | (refine q_orc 7 128 1 128 ‹_› (by decide) (by omega) (by omega) (by simp only [IntKind.bits]; omega) (fun n hn => ?_)) | refine q_orU8 64 192 ‹_› (by decide +kernel) rfl (by omega) (by omega) (fun n hn => ?_) | refine q_orU8 32 224 ‹_› (by decide +kernel) rfl (by omega) (by omega) (fun n hn => ?_) | refine q_orU8 16 240 ‹_› (by decide +kernel) rfl (by omega) (by omega) (fun n hn => ?_) | refine q_orU8 64 128 ‹_› (by decide +kernel) rfl (by omega) (by omega) (fun n hn => ?_) | refine q_and ‹_› (fun n hn => ?_) | refine q_or ‹_› (fun n hn => ?_) | refine q_xor ‹_› (fun n hn => ?_) | refine q_shrc 1 2 ‹_› (by decide) (by omega) (fun n hn => ?_) | refine q_shrc 2 4 ‹_› (by decide) (by omega) (fun n hn => ?_) | refine q_shrc 3 8 ‹_› (by decide) (by omega) (fun n hn => ?_) | refine q_shrc 4 16 ‹_› (by decide) (by omega) (fun n hn => ?_) | refine q_shrc 5 32 ‹_› (by decide) (by omega) (fun n hn => ?_) | refine q_shrc 6 64 ‹_› (by decide) (by omega) (fun n hn => ?_) | refine q_shrc 7 128 ‹_› (by decide) (by omega) (fun n hn => ?_) | refine q_shrc 8 256 ‹_› (by decide) (by omega) (fun n hn => ?_) | refine q_shrc 10 1024 ‹_› (by decide) (by omega) (fun n hn => ?_) | refine q_shrc 12 4096 ‹_› (by decide) (by omega) (fun n hn => ?_) | refine q_shrc 16 65536 ‹_› (by decide) (by omega) (fun n hn => ?_) | refine q_shrc 18 262144 ‹_› (by decide) (by omega) (fun n hn => ?_) | refine q_shrc 24 16777216 ‹_› (by decide) (by omega) (fun n hn => ?_) | (refine q_shlc 1 2 ‹_› (by decide) (by omega) (by simp only [IntKind.bits]; omega) (fun n hn => ?_)) | (refine q_shlc 2 4 ‹_› (by decide) (by omega) (by simp only [IntKind.bits]; omega) (fun n hn => ?_)) | (refine q_shlc 3 8 ‹_› (by decide) (by omega) (by simp only [IntKind.bits]; omega) (fun n hn => ?_)) | (refine q_shlc 4 16 ‹_› (by decide) (by omega) (by simp only [IntKind.bits]; omega) (fun n hn => ?_)) | (refine q_shlc 5 32 ‹_› (by decide) (by omega) (by simp only [IntKind.bits]; omega) (fun n hn => ?_)) | (refine q_shlc 6 64 ‹_› (by decide) (by omega) (by simp only [IntKind.bits]; omega) (fun n hn => ?_)) | (refine q_shlc 7 128 ‹_› (by decide) (by omega) (by simp only [IntKind.bits]; omega) (fun n hn => ?_)) | (refine q_shlc 8 256 ‹_› (by decide) (by omega) (by simp only [IntKind.bits]; omega) (fun n hn => ?_)) | (refine q_shlc 10 1024 ‹_› (by decide) (by omega) (by simp only [IntKind.bits]; omega) (fun n hn => ?_)) | (refine q_shlc 12 4096 ‹_› (by decide) (by omega) (by simp only [IntKind.bits]; omega) (fun n hn => ?_)) | (refine q_shlc 16 65536 ‹_› (by decide) (by omega) (by simp only [IntKind.bits]; omega) (fun n hn => ?_)) | (refine q_shlc 18 262144 ‹_› (by decide) (by omega) (by simp only [IntKind.bits]; omega) (fun n hn => ?_)) | (refine q_shlc 24 16777216 ‹_› (by decide) (by omega) (by simp only [IntKind.bits]; omega) (fun n hn => ?_)) | refine q_shl ‹_› (by omega) (fun n hn => ?_) | refine q_shr ‹_› (by omega) (fun n hn => ?_) | refine q_slen ‹_› (fun n hn => ?_) | refine q_six ‹_› (by omega) (by omega) (fun c hc n hn h1 => ?_) | refine q_tobytesM ‹_› (fun r hr => ?_) | refine q_tostrM ‹_› (by assumption) (fun s hs => ?_) | refine q_lenM ‹_› (by assumption) (fun n hn => ?_) | refine q_len0 ‹_› ?_ | refine q_len1 ‹_› ?_ | refine q_len2 ‹_› ?_ | refine q_len3 ‹_› ?_ | refine q_len4 ‹_› ?_ | refine q_len5 ‹_› ?_ | refine q_len6 ‹_› ?_ | refine q_len7 ‹_› ?_ | refine q_len8 ‹_› ?_ | refine q_len ‹_› (fun n hn => ?_) | refine q_idxc ‹_› (by decide) rfl ?_ | refine q_arrl ‹_› (by decide) (by decide) ?_ | refine q_idxM ‹_› (by assumption) (by omega) (by omega) (fun e he => ?_) | refine q_idx ‹_› (by omega) (by omega) (fun e he => ?_) | refine q_posM ‹_› (by assumption) (by omega) (by omega) (fun j hj => ?_) | refine q_nthM ‹_› (by assumption) (by omega) (fun e he => ?_) | refine q_subHiL ‹_› (by decide) rfl ?_ | refine q_subLoL ‹_› (by decide) rfl ?_ | refine q_sub2L ‹_› (by decide) (by decide) rfl ?_ | refine q_sub2M ‹_› (by assumption) (by omega) (by omega) (by omega) (fun r hr => ?_) | refine q_subLoM ‹_› (by assumption) (by omega) (by omega) (fun r hr => ?_) | refine q_subHiM ‹_› (by assumption) (by omega) (by omega) (fun r hr => ?_) | refine q_sub3M ‹_› (by assumption) (by omega) (by omega) (by omega) (fun r hr => ?_) | refine q_sub0 ‹_› ?_ | refine q_popM ‹_› (by assumption) (by omega) (by omega) (fun r hr => ?_) | refine q_free ‹_› ?_ | refine q_newo ‹_› (fun lp => ?_) | refine q_obj 0 ‹_› rfl ?_ | refine q_nxt ‹_› (fun h c w hd hw => ?_) (fun h => ?_) | refine q_appL ‹_› (Nat.le_of_ble_eq_true rfl) ?_) <;> (conv => cbv)))
  all_goals clear hR ho
  all_goals (simp only [dec, decS, List.length_drop])
  all_goals (clear hL hb; subst_vars; grind)
end Go.Ab.R2
end
