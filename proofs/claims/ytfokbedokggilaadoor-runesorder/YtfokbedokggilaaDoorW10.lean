/- Walks: what each function computes. -/
import Derived.Test.YtfokbedokggilaaDoorW9
set_option linter.all false
section
namespace Go.Ab.R2
open Go.Proofs Go.Ab Go.Ab.C2
set_option linter.unusedSimpArgs false
set_option linter.unusedVariables false
set_option maxRecDepth 10000
set_option maxHeartbeats 4000000
instance (y : List Int) : Decidable (bg y) := by unfold bg; split <;> infer_instance
/-- What Decode returns of the bytes from a place on. -/
def decS (d : List Int) : Int × Int × Int :=
  match std (d.take 1) with
  | some r => (r, 1, 0)
  | none => match (if 2 ≤ d.length then std (d.take 2) else none) with
    | some r => (r, 2, 0)
    | none => match (if 3 ≤ d.length then std (d.take 3) else none) with
      | some r => (r, 3, 0)
      | none => match (if 4 ≤ d.length then std (d.take 4) else none) with
        | some r => (r, 4, 0)
        | none => if d.length < 4 ∧ bg d then (0, 0, 320) else (0, 0, 6)
def dec (b : List Int) (at' : Int) : Int × Int × Int := if at' < 0 ∨ (b.length : Int) ≤ at' then (0, 0, 7) else decS (b.drop at'.toNat)
def decD (d : List Int) : Int × Int × Int := if ¬ (dr d).1 = 65533 ∨ 1 < (dr d).2 then ((dr d).1, (dr d).2, 0) else if full d then (0, 0, 6) else (0, 0, 320)

theorem decS_1 (a : Int) (ha : 0 ≤ a ∧ a < 256) : decD ([a]) = decS ([a]) := by
  simp only [decD, decS, std, List.take_succ_cons, List.take_zero, List.take_nil, List.length_cons, List.length_nil, Nat.reduceAdd, Nat.reduceLeDiff, if_false, dr, res2, res3, res4, full, szI, loI, hiI, short, bg]
  grind (splits := 40)
theorem decS_2 (a b : Int) (ha : 0 ≤ a ∧ a < 256) (hb : 0 ≤ b ∧ b < 256) : decD ([a, b]) = decS ([a, b]) := by
  simp only [decD, decS, std, List.take_succ_cons, List.take_zero, List.take_nil, List.length_cons, List.length_nil, Nat.reduceAdd, Nat.reduceLeDiff, if_false, dr, res2, res3, res4, full, szI, loI, hiI, short, bg]
  grind (splits := 40)
theorem decS_3 (a b c : Int) (ha : 0 ≤ a ∧ a < 256) (hb : 0 ≤ b ∧ b < 256) (hc : 0 ≤ c ∧ c < 256) : decD ([a, b, c]) = decS ([a, b, c]) := by
  simp only [decD, decS, std, List.take_succ_cons, List.take_zero, List.take_nil, List.length_cons, List.length_nil, Nat.reduceAdd, Nat.reduceLeDiff, if_false, dr, res2, res3, res4, full, szI, loI, hiI, short, bg]
  grind (splits := 40)
theorem decS_4 (a b c d : Int) (t : List Int) (ha : 0 ≤ a ∧ a < 256) (hb : 0 ≤ b ∧ b < 256) (hc : 0 ≤ c ∧ c < 256) (hd : 0 ≤ d ∧ d < 256) : decD (a :: b :: c :: d :: t) = decS (a :: b :: c :: d :: t) := by
  simp only [decD, decS, std, List.take_succ_cons, List.take_zero, List.take_nil, List.length_cons, List.length_nil, Nat.reduceAdd, Nat.reduceLeDiff, if_false, dr, res2, res3, res4, full, szI, loI, hiI, short, bg]
  grind (splits := 40)
theorem decD_eq {d : List Int} (hd : By d) (hne : d ≠ []) : decD d = decS d := by
  rcases d with _ | ⟨a, _ | ⟨b, _ | ⟨c, _ | ⟨e, d⟩⟩⟩⟩
  · exact absurd rfl hne
  · exact decS_1 a (hd a (by simp))
  · exact decS_2 a b (hd a (by simp)) (hd b (by simp))
  · exact decS_3 a b c (hd a (by simp)) (hd b (by simp)) (hd c (by simp))
  · exact decS_4 a b c e d (hd a (by simp)) (hd b (by simp)) (hd c (by simp)) (hd e (by simp))
theorem decI_eq {b : List Int} (hb : By b) (at' : Int) : decI b at' = dec b at' := by
  unfold decI dec
  by_cases h : at' < 0 ∨ (b.length : Int) ≤ at'
  · rw [if_pos h, if_pos h]
  · rw [if_neg h, if_neg h]
    refine decD_eq (hb.drop _) fun e => ?_
    have := congrArg List.length e
    rw [List.length_drop] at this
    simp only [List.length_nil] at this
    omega
theorem f11 {b : List Int} {L : List AV} {at' : Int} (hL : L = b.map vu) (hb : By b) : ACall En 11 ⟨2, [(0, .sl 1 L), (1, vi at')], [], [], []⟩ (Ret3 vr vi vi fun r n e => (r, n, e) = dec b at') := by
  subst hL
  refine (decode b at' hb).mono ?_
  rintro ae st ⟨rfl, rfl⟩
  exact ⟨rfl, _, _, _, decI_eq hb at', rfl⟩
theorem take_from (b : List Int) (i j k : Nat) (h : j = i + k) : (b.take j).drop i = (b.drop i).take k := by
  rw [List.drop_take, h, Nat.add_sub_cancel_left]
end Go.Ab.R2
end
section
namespace Go.Ab.R2
open Go.Proofs Go.Ab Go.Ab.C2
set_option linter.unusedSimpArgs false
set_option linter.unusedVariables false
set_option maxRecDepth 10000
set_option maxHeartbeats 4000000
theorem f35k (k : Nat) {b : List Int} {L : List AV} {i j : Nat} (hL : L = ((b.take j).drop i).map vu) (hb : By b) (hj : j = i + k) (hl : j ≤ b.length) (h1 : 1 ≤ k) (h2 : k ≤ 4) : ACall En 35 ⟨1, [(0, .sl 1 L)], [], [], []⟩ (Ret2 vr vb fun r t => (t = true ∧ std ((b.drop i).take k) = some r) ∨ (t = false ∧ std ((b.drop i).take k) = none)) := by
  rw [take_from b i j k hj] at hL
  exact f35 hL ((hb.drop _).take _) (by rw [List.length_take, List.length_drop]; omega) (by rw [List.length_take]; omega)
theorem f12 {b : List Int} {L : List AV} {at' : Int} (hL : L = b.map vu) (hb : By b) (hl : b.length < 4611686018427387904) : ACall En 12 ⟨2, [(0, .sl 1 L), (1, vi at')], [], [], []⟩ (Ret3 vr vi vi fun r n e => (r, n, e) = dec b at') := by
  refine ACall.vm {} [] ok12 glNil mixed rfl fun o R' ho hR => ?_
  conv => cbv
  repeat' (first | (refine hR _ _ ⟨rfl, _, _, _, ?_, rfl⟩) | ((first | refine q_unr 5 ho ?_ | (refine q_call ho (f35k 1 (by assumption) hb (by omega) (by omega) (by decide) (by decide)) ?_; rintro _ _ ⟨rfl, r, _, ⟨rfl, hs⟩ | ⟨rfl, hs⟩, rfl⟩) | (refine q_call ho (f35k 2 (by assumption) hb (by omega) (by omega) (by decide) (by decide)) ?_; rintro _ _ ⟨rfl, r, _, ⟨rfl, hs⟩ | ⟨rfl, hs⟩, rfl⟩) | (refine q_call ho (f35k 3 (by assumption) hb (by omega) (by omega) (by decide) (by decide)) ?_; rintro _ _ ⟨rfl, r, _, ⟨rfl, hs⟩ | ⟨rfl, hs⟩, rfl⟩) | (refine q_call ho (f35k 4 (by assumption) hb (by omega) (by omega) (by decide) (by decide)) ?_; rintro _ _ ⟨rfl, r, _, ⟨rfl, hs⟩ | ⟨rfl, hs⟩, rfl⟩) | (refine q_call ho (f36 (by assumption) (hb.drop _) (by simp only [List.length_drop]; omega) (by simp only [List.length_drop]; omega)) ?_; rintro _ _ ⟨rfl, _, ⟨rfl, hs⟩ | ⟨rfl, hs⟩, rfl⟩) | refine q_lssT ‹_› (by omega) ?_ | refine q_lssF ‹_› (by omega) ?_ | refine q_lss ‹_› (fun h => ?_) (fun h => ?_) | refine q_leqT ‹_› (by omega) ?_ | refine q_leqF ‹_› (by omega) ?_ | refine q_leq ‹_› (fun h => ?_) (fun h => ?_) | refine q_geq ‹_› (fun h => ?_) (fun h => ?_) | (refine q_addc ‹_› (by simp only [Int.reduceAdd, Int.reduceSub]; rfl) (by decide) ?_) | refine q_add64 ‹_› (by omega) (by omega) (fun n hn => ?_) | refine q_sub64 ‹_› (by omega) (by omega) (fun n hn => ?_) | refine q_lenM ‹_› (by assumption) (fun n hn => ?_) | refine q_sub2M ‹_› (by assumption) (by omega) (by omega) (by omega) (fun r hr => ?_) | refine q_subLoM ‹_› (by assumption) (by omega) (by omega) (fun r hr => ?_)) <;> (conv => cbv)))
  all_goals clear hR ho
  all_goals (simp only [dec, decS, List.length_drop])
  all_goals (clear hL hb; subst_vars; grind)
end Go.Ab.R2
end
section
namespace Go.Ab.R2
open Go.Proofs Go.Ab Go.Ab.C2
set_option linter.unusedSimpArgs false
set_option linter.unusedVariables false
set_option maxRecDepth 10000
set_option maxHeartbeats 4000000
/-- The class of a rune. -/
def cls (r : Int) : Int :=
  if r = 9 ∨ r = 10 ∨ r = 13 ∨ r = 32 then 1 else if r = 40 ∨ r = 91 then 2 else if r = 41 ∨ r = 93 then 3 else if r = 39 then 4 else if r = 35 then 5 else if r = 59 then 6
  else if 48 ≤ r ∧ r ≤ 57 then 7 else if r = 43 ∨ r = 45 then 8
  else if (97 ≤ r ∧ r ≤ 122) ∨ (65 ≤ r ∧ r ≤ 90) ∨ 161 ≤ r ∨ r ∈ [33, 36, 37, 38, 42, 47, 58, 60, 61, 62, 63, 94, 95, 126, 46, 64] then 9 else 10
def clsP (r c e : Int) : Prop := (isR r ∧ c = cls r ∧ e = 0) ∨ (¬ isR r ∧ c = 0 ∧ e = 7)
theorem f16 (r : Int) : ACall En 16 ⟨1, [(0, vr r)], [], [], []⟩ (Ret2 vi vi (clsP r)) := by
  refine ACall.vm {} [] ok16 glNil mixed rfl fun o R' ho hR => ?_
  conv => cbv
  repeat' (first | (refine hR _ _ ⟨rfl, _, _, ?_, rfl⟩) | ((first | (refine q_call ho (f40 _) ?_; rintro _ _ ⟨rfl, _, ⟨rfl, hb⟩ | ⟨rfl, hb⟩, rfl⟩) | (refine q_call ho (f43 _ _ (by decide)) ?_; rintro _ _ ⟨rfl, _, ⟨rfl, hc⟩ | ⟨rfl, hc⟩, rfl⟩) | refine q_leqF ‹_› (by omega) ?_ | refine q_leq ‹_› (fun h => ?_) (fun h => ?_) | refine q_geqT ‹_› (by omega) ?_ | refine q_geqF ‹_› (by omega) ?_ | refine q_geq ‹_› (fun h => ?_) (fun h => ?_) | refine q_eqlF ‹_› (by omega) ?_ | refine q_eql ‹_› (fun h => ?_) (fun h => ?_)) <;> (conv => cbv)))
  all_goals (clear hR ho; first | exact .inr ⟨hb, rfl, rfl⟩ | (refine .inl ⟨hb, ?_, rfl⟩; simp only [bt, List.map_cons, List.map_nil, List.mem_cons, List.not_mem_nil, or_false, UInt8.toNat_ofNat, Nat.reducePow, Nat.reduceMod, Int.cast_ofNat_Int, cls] at *))
  all_goals grind

theorem f37 (r : Int) : ACall En 37 ⟨1, [(0, vr r)], [], [], []⟩ (Ret1 vb fun t => (t = true ∧ isR r) ∨ (t = false ∧ ¬ isR r)) := by
  refine (isRune r).mono ?_
  rintro ae st ⟨rfl, rfl⟩
  refine ⟨rfl, valid r, ?_, rfl⟩
  unfold valid isR; grind
theorem decode_ascii {s : ByteArray} {pos : Nat} (hs : ∀ n ∈ bt s, n < 128) (hp : pos < s.size) : (Utf8.decode s pos).2 = 1 ∧ ∃ b : UInt8, s.data.toList[pos]? = some b ∧ (Utf8.decode s pos).1 = b.toNat := by
  have hsz : s.data.toList.length = s.size := by simp
  have hlt : pos < s.data.toList.length := by omega
  have hb : s.data.toList[pos]? = some s.data.toList[pos] := List.getElem?_eq_getElem hlt
  have h1 : ((s.data.toList[pos]).toNat : Int) < 128 := hs _ (List.mem_map.2 ⟨_, List.getElem_mem hlt, rfl⟩)
  have h2 : s.get! (pos + 0) = s.data.toList[pos] := by
    have : pos < s.data.size := hp
    simp [ByteArray.get!, this]
    exact getElem!_pos s.data pos this
  unfold Utf8.decode
  simp only [h2]
  rw [if_pos (by omega)]
  exact ⟨rfl, _, hb, rfl⟩
theorem f42 (s : ByteArray) (r : Int) (hs : ∀ n ∈ bt s, n < 128) : ACall En 42 ⟨2, [(0, vs s), (1, vr r)], [], [], []⟩ (Ret1 vb fun t => (t = true ∧ r ∈ bt s) ∨ (t = false ∧ ¬ r ∈ bt s)) := by
  have hsz : s.data.toList.length = s.size := by simp
  refine ACall.vm {} [] ok42 glNil mixed rfl fun o R' ho hR => ?_
  conv => cbv
  refine q_newo ho (fun lp => ?_)
  conv => cbv
  refine q_loop ho (fun pos : Nat => ⟨15, [(1, vr r), (8, .sc (.pointer (some ⟨lp, 0, none⟩)))], [], [], [(lp, .stringIter s pos)]⟩) (fun k => k ≤ s.size ∧ ∀ (j : Nat) (c : UInt8), j < k → s.data.toList[j]? = some c → ¬ (c.toNat : Int) = r) (fun k => s.size - k) 0 ⟨Nat.zero_le _, by simp⟩ ⟨rfl, ⟨rfl, rfl, trivial⟩, trivial, rfl, .inl rfl⟩ ?_
  rintro k ⟨h1, h2⟩ Q' hQn hQe
  conv => cbv
  repeat' (first | (refine hR _ _ ⟨rfl, _, ?_, rfl⟩) | (refine hQn _ ⟨_, ?_, ?_, rfl, ⟨rfl, rfl, trivial⟩, trivial, rfl, .inl rfl⟩) | ((first | refine hQe _ _ nofun ?_ | refine q_eql ‹_› (fun h => ?_) (fun h => ?_) | refine q_obj 0 ‹_› rfl ?_ | refine q_nxt ‹_› (fun h c w hd hw => ?_) (fun h => ?_)) <;> (conv => cbv)))
  all_goals clear hR ho hQn hQe
  · obtain ⟨e1, b, e2, e3⟩ := decode_ascii hs (by assumption)
    refine .inl ⟨rfl, List.mem_map.2 ⟨b, List.mem_of_getElem? e2, ?_⟩⟩
    omega
  · obtain ⟨e1, b, e2, e3⟩ := decode_ascii hs (by assumption)
    refine ⟨by omega, fun j c hj hc => ?_⟩
    by_cases e : j = k
    · subst e
      rw [hc] at e2
      simp only [Option.some.injEq] at e2; subst e2
      omega
    · exact h2 j c (by omega) hc
  · obtain ⟨e1, b, e2, e3⟩ := decode_ascii hs (by assumption)
    omega
  · refine .inr ⟨rfl, fun hm => ?_⟩
    obtain ⟨c, hc, e⟩ := List.mem_map.1 hm
    obtain ⟨j, hj⟩ := List.getElem?_of_mem hc
    have : j < s.data.toList.length := by
      rcases Nat.lt_or_ge j s.data.toList.length with h | h
      · exact h
      · rw [List.getElem?_eq_none h] at hj; cases hj
    exact h2 j c (by omega) hj e
theorem f15 (r : Int) : ACall En 15 ⟨1, [(0, vr r)], [], [], []⟩ (Ret2 vi vi (clsP r)) := by
  refine ACall.vm {} [] ok15 glNil mixed rfl fun o R' ho hR => ?_
  conv => cbv
  repeat' (first | (refine hR _ _ ⟨rfl, _, _, ?_, rfl⟩) | ((first | refine q_unr 11 ho ?_ | (refine q_call ho (f37 _) ?_; rintro _ _ ⟨rfl, _, ⟨rfl, hb⟩ | ⟨rfl, hb⟩, rfl⟩) | refine q_inl {} [] ho ok41 glNil mixed rfl fun o' ho' => ?_ | (refine q_call ho (f42 _ _ (by decide)) ?_; rintro _ _ ⟨rfl, _, ⟨rfl, hc⟩ | ⟨rfl, hc⟩, rfl⟩) | refine q_lssT ‹_› (by omega) ?_ | refine q_lssF ‹_› (by omega) ?_ | refine q_leqF ‹_› (by omega) ?_ | refine q_leq ‹_› (fun h => ?_) (fun h => ?_) | refine q_gtrF ‹_› (by omega) ?_ | refine q_gtr ‹_› (fun h => ?_) (fun h => ?_) | refine q_geqT ‹_› (by omega) ?_ | refine q_geqF ‹_› (by omega) ?_ | refine q_geq ‹_› (fun h => ?_) (fun h => ?_) | (refine q_addc ‹_› (by simp only [Int.reduceAdd, Int.reduceSub]; rfl) (by decide) ?_) | refine q_arrl ‹_› (by decide) (by decide) ?_) <;> (conv => cbv)))
  all_goals (clear hR ho; first | exact .inr ⟨hb, rfl, rfl⟩ | (refine .inl ⟨hb, ?_, rfl⟩; simp only [bt, List.map_cons, List.map_nil, List.mem_cons, List.not_mem_nil, or_false, UInt8.toNat_ofNat, Nat.reducePow, Nat.reduceMod, Int.cast_ofNat_Int, cls] at *))
  all_goals grind
end Go.Ab.R2
end
section
namespace Go.Ab.R2
open Go.Proofs Go.Ab Go.Ab.C2
set_option linter.unusedSimpArgs false
set_option linter.unusedVariables false
set_option maxRecDepth 10000
set_option maxHeartbeats 4000000
theorem f39 (r : Int) : ACall En 39 ⟨1, [(0, vr r)], [], [], []⟩ (Ret1 vi fun n => n = if r < 0 then -1 else if r ≤ 127 then 1 else if r ≤ 2047 then 2 else if 55296 ≤ r ∧ r ≤ 57343 then -1 else if r ≤ 65535 then 3 else if r ≤ 1114111 then 4 else -1) := by
  refine (runeLen r).mono ?_
  rintro ae st ⟨rfl, rfl⟩
  exact ⟨rfl, _, rfl, rfl⟩
theorem f39v {r : Int} (hr : isR r) : ACall En 39 ⟨1, [(0, vr r)], [], [], []⟩ (Ret1 vi fun n => (r ≤ 127 ∧ n = 1) ∨ (127 < r ∧ r ≤ 2047 ∧ n = 2) ∨ (2047 < r ∧ r ≤ 65535 ∧ n = 3) ∨ (65535 < r ∧ n = 4)) := by
  refine (f39 r).mono ?_
  rintro ae st ⟨rfl, n, hn, rfl⟩
  refine ⟨rfl, n, ?_, rfl⟩
  unfold isR at hr
  (repeat' split at hn) <;> omega
theorem f13 (r : Int) : ACall En 13 ⟨1, [(0, vr r)], [], [], []⟩ (Ret2 (.sl 1) vi (p14 r)) := by
  refine ACall.share ?_
  refine ACall.vm {} [] ok13 glNil mixed rfl fun o R' ho hR => ?_
  conv => cbv
  repeat' (first | (refine hR _ _ ⟨rfl, _, _, ?_, rfl⟩) | ((first | (refine q_call ho (f37 _) ?_; rintro _ _ ⟨rfl, _, ⟨rfl, hb⟩ | ⟨rfl, hb⟩, rfl⟩) | (refine q_call ho (f39v hb) ?_; rintro _ _ ⟨rfl, n, ⟨h, rfl⟩ | ⟨h, h2, rfl⟩ | ⟨h, h2, rfl⟩ | ⟨h, rfl⟩, rfl⟩) | refine q_inl {} [] ho ok38 glNil mixed rfl fun o' ho' => ?_ | refine q_eqlT ‹_› (by omega) ?_ | refine q_eqlF ‹_› (by omega) ?_ | (refine q_addc ‹_› (by simp only [Int.reduceAdd, Int.reduceSub]; rfl) (by decide) ?_) | refine q_cvU8 ‹_› (by omega) (by omega) ?_ | (refine q_andc 6 63 64 ‹_› (by decide) (by omega) (by simp only [IntKind.bits]; omega) (fun n hn => ?_)) | (refine q_orc 6 192 3 64 ‹_› (by decide) (by omega) (by omega) (by simp only [IntKind.bits]; omega) (fun n hn => ?_)) | (refine q_orc 5 224 7 32 ‹_› (by decide) (by omega) (by omega) (by simp only [IntKind.bits]; omega) (fun n hn => ?_)) | (refine q_orc 4 240 15 16 ‹_› (by decide) (by omega) (by omega) (by simp only [IntKind.bits]; omega) (fun n hn => ?_)) | (refine q_orc 7 128 1 128 ‹_› (by decide) (by omega) (by omega) (by simp only [IntKind.bits]; omega) (fun n hn => ?_)) | refine q_shrc 6 64 ‹_› (by decide) (by omega) (fun n hn => ?_) | refine q_shrc 12 4096 ‹_› (by decide) (by omega) (fun n hn => ?_) | refine q_shrc 18 262144 ‹_› (by decide) (by omega) (fun n hn => ?_) | refine q_arrl ‹_› (by decide) (by decide) ?_ | refine q_subHiL ‹_› (by decide) rfl ?_) <;> (conv => cbv)))
  all_goals clear hR ho
  all_goals first | exact .inr ⟨hb, rfl, rfl⟩ | (refine .inl ⟨hb, ?_, rfl⟩; unfold enc; (repeat' split) <;> first | omega | (simp only [List.map_cons, List.map_nil, List.cons.injEq, AV.sc.injEq, Value.int.injEq, true_and, and_true] <;> omega))
end Go.Ab.R2
end
