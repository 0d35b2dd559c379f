/- Walks: what each function computes. -/
import Derived.Test.YtfokbedokggilaaDoorW7
set_option linter.all false
section
namespace Go.Ab.R2
open Go.Proofs Go.Ab
set_option linter.unusedSimpArgs false
set_option maxRecDepth 4000
theorem tail_eq (b : List Int) (k : Nat) : (b.map U8).drop k = (b.drop k).map U8 := by rw [List.map_drop]

/-- What runes.Decode returns. -/
def decI (b : List Int) (at' : Int) : Int × Int × Int :=
  if at' < 0 ∨ (b.length : Int) ≤ at' then (0, 0, 7)
  else if ¬ (dr (b.drop at'.toNat)).1 = 65533 ∨ 1 < (dr (b.drop at'.toNat)).2 then ((dr (b.drop at'.toNat)).1, (dr (b.drop at'.toNat)).2, 0)
  else if full (b.drop at'.toNat) then (0, 0, 6) else (0, 0, 320)

set_option maxHeartbeats 1000000 in
theorem decode (b : List Int) (at' : Int) (hb : ∀ n ∈ b, 0 ≤ n ∧ n < 256) : ACall En 11 ⟨2, [(0, .sl 1 (b.map U8)), (1, I64 at')], [], [], []⟩ (Ret ⟨3, [(0, I32 (decI b at').1), (1, I64 (decI b at').2.1), (2, I64 (decI b at').2.2)], [], [], []⟩) := by
  refine ACall.go (pol := {}) (fn := Tryd.f11) (n := 37) (rs := [.tmp 4, .tmp 5, .tmp 6]) (nb := 0) Tryd.func11 rfl rfl rfl rfl rfl rfl ?_
  simp only [ab, ad, ax, ac, ae, al, if_true, if_false, Nat.reduceEqDiff, Nat.reduceLT, Nat.reduceSub, Nat.reduceAdd, Nat.reduceMul, Nat.reduceLeDiff, Bool.false_eq_true, List.length_map, List.length_cons, List.length_nil, List.map_cons, List.map_nil, List.drop_zero, List.drop_succ_cons, List.take_succ_cons, List.take_zero, List.getElem?_cons_zero, List.getElem?_cons_succ, List.set_cons_zero, List.set_cons_succ, List.headD_cons, List.headD_nil, List.tail_cons, List.tail_nil, List.all_cons, List.all_nil, List.replicate_succ, List.replicate_zero, List.nil_append, List.cons_append, List.append_nil, Option.isSome_some, List.contains_nil, List.contains_cons, Nat.max_self, Nat.zero_max, Nat.max_zero, bne_self_eq_false, Nat.reduceBEq, Nat.reduceBNe, List.foldl_nil, or_true, true_or, Bool.or_false, Bool.or_true, Bool.and_self, Nat.zero_add, and_true, true_and, and_self, I32, I64]
  refine gob_n (fun h1 => ?_) (fun h1 => ?_) <;> simp only [ab, ad, ax, ac, ae, al, if_true, if_false, Nat.reduceEqDiff, Nat.reduceLT, Nat.reduceSub, Nat.reduceAdd, Nat.reduceMul, Nat.reduceLeDiff, Bool.false_eq_true, List.length_map, List.length_cons, List.length_nil, List.map_cons, List.map_nil, List.drop_zero, List.drop_succ_cons, List.take_succ_cons, List.take_zero, List.getElem?_cons_zero, List.getElem?_cons_succ, List.set_cons_zero, List.set_cons_succ, List.headD_cons, List.headD_nil, List.tail_cons, List.tail_nil, List.all_cons, List.all_nil, List.replicate_succ, List.replicate_zero, List.nil_append, List.cons_append, List.append_nil, Option.isSome_some, List.contains_nil, List.contains_cons, Nat.max_self, Nat.zero_max, Nat.max_zero, bne_self_eq_false, Nat.reduceBEq, Nat.reduceBNe, List.foldl_nil, or_true, true_or, Bool.or_false, Bool.or_true, Bool.and_self, Nat.zero_add, and_true, true_and, and_self, h1, undef, el22]
  · simp only [decI, h1, true_or, if_true]
  · refine godb_d (fun h2 => ?_) (fun h2 => ?_) <;> simp only [ab, ad, ax, ac, ae, al, if_true, if_false, Nat.reduceEqDiff, Nat.reduceLT, Nat.reduceSub, Nat.reduceAdd, Nat.reduceMul, Nat.reduceLeDiff, Bool.false_eq_true, List.length_map, List.length_cons, List.length_nil, List.map_cons, List.map_nil, List.drop_zero, List.drop_succ_cons, List.take_succ_cons, List.take_zero, List.getElem?_cons_zero, List.getElem?_cons_succ, List.set_cons_zero, List.set_cons_succ, List.headD_cons, List.headD_nil, List.tail_cons, List.tail_nil, List.all_cons, List.all_nil, List.replicate_succ, List.replicate_zero, List.nil_append, List.cons_append, List.append_nil, Option.isSome_some, List.contains_nil, List.contains_cons, Nat.max_self, Nat.zero_max, Nat.max_zero, bne_self_eq_false, Nat.reduceBEq, Nat.reduceBNe, List.foldl_nil, or_true, true_or, Bool.or_false, Bool.or_true, Bool.and_self, Nat.zero_add, and_true, true_and, and_self, h2]
    · simp only [decI, h2, or_true, if_true]
    · have e1 : (0 ≤ at' ∧ at' ≤ ((b.length : Nat) : Int) ∧ ((b.length : Nat) : Int) ≤ ((b.length : Nat) : Int)) := ⟨by omega, by omega, Int.le_refl _⟩
      have e2 : List.drop at'.toNat (List.take ((b.length : Nat) : Int).toNat (List.map U8 b)) = (b.drop at'.toNat).map U8 := by
        rw [Int.toNat_natCast, List.take_of_length_le (by simp), List.map_drop]
      have hb' : ∀ n ∈ b.drop at'.toNat, 0 ≤ n ∧ n < 256 := fun n hn => hb n (List.mem_of_mem_drop hn)
      simp only [ab, ad, ax, ac, ae, al, if_true, if_false, Nat.reduceEqDiff, Nat.reduceLT, Nat.reduceSub, Nat.reduceAdd, Nat.reduceMul, Nat.reduceLeDiff, Bool.false_eq_true, List.length_map, List.length_cons, List.length_nil, List.map_cons, List.map_nil, List.drop_zero, List.drop_succ_cons, List.take_succ_cons, List.take_zero, List.getElem?_cons_zero, List.getElem?_cons_succ, List.set_cons_zero, List.set_cons_succ, List.headD_cons, List.headD_nil, List.tail_cons, List.tail_nil, List.all_cons, List.all_nil, List.replicate_succ, List.replicate_zero, List.nil_append, List.cons_append, List.append_nil, Option.isSome_some, List.contains_nil, List.contains_cons, Nat.max_self, Nat.zero_max, Nat.max_zero, bne_self_eq_false, Nat.reduceBEq, Nat.reduceBNe, List.foldl_nil, or_true, true_or, Bool.or_false, Bool.or_true, Bool.and_self, Nat.zero_add, and_true, true_and, and_self, e1, e2, el22]
      refine gocb_ret (decodeRune _ hb') rfl (Nat.le_of_ble_eq_true rfl) (fun _ => rfl) ?_
      simp only [ab, ad, ax, ac, ae, al, if_true, if_false, Nat.reduceEqDiff, Nat.reduceLT, Nat.reduceSub, Nat.reduceAdd, Nat.reduceMul, Nat.reduceLeDiff, Bool.false_eq_true, List.length_map, List.length_cons, List.length_nil, List.map_cons, List.map_nil, List.drop_zero, List.drop_succ_cons, List.take_succ_cons, List.take_zero, List.getElem?_cons_zero, List.getElem?_cons_succ, List.set_cons_zero, List.set_cons_succ, List.headD_cons, List.headD_nil, List.tail_cons, List.tail_nil, List.all_cons, List.all_nil, List.replicate_succ, List.replicate_zero, List.nil_append, List.cons_append, List.append_nil, Option.isSome_some, List.contains_nil, List.contains_cons, Nat.max_self, Nat.zero_max, Nat.max_zero, bne_self_eq_false, Nat.reduceBEq, Nat.reduceBNe, List.foldl_nil, or_true, true_or, Bool.or_false, Bool.or_true, Bool.and_self, Nat.zero_add, and_true, true_and, and_self, I32, I64, Bool.not_not]
      generalize hp : dr (List.drop at'.toNat b) = p
      have hd : decI b at' = if ¬ p.1 = 65533 ∨ 1 < p.2 then (p.1, p.2, 0) else if full (b.drop at'.toNat) then (0, 0, 6) else (0, 0, 320) := by
        unfold decI; rw [if_neg (by omega), hp]
      refine gob_d (fun h3 => ?_) (fun h3 => ?_) <;> simp only [ab, ad, ax, ac, ae, al, if_true, if_false, Nat.reduceEqDiff, Nat.reduceLT, Nat.reduceSub, Nat.reduceAdd, Nat.reduceMul, Nat.reduceLeDiff, Bool.false_eq_true, List.length_map, List.length_cons, List.length_nil, List.map_cons, List.map_nil, List.drop_zero, List.drop_succ_cons, List.take_succ_cons, List.take_zero, List.getElem?_cons_zero, List.getElem?_cons_succ, List.set_cons_zero, List.set_cons_succ, List.headD_cons, List.headD_nil, List.tail_cons, List.tail_nil, List.all_cons, List.all_nil, List.replicate_succ, List.replicate_zero, List.nil_append, List.cons_append, List.append_nil, Option.isSome_some, List.contains_nil, List.contains_cons, Nat.max_self, Nat.zero_max, Nat.max_zero, bne_self_eq_false, Nat.reduceBEq, Nat.reduceBNe, List.foldl_nil, or_true, true_or, Bool.or_false, Bool.or_true, Bool.and_self, Nat.zero_add, and_true, true_and, and_self, h3, undef, Bool.not_not]
      · refine godb_d (fun h4 => ?_) (fun h4 => ?_) <;> simp only [ab, ad, ax, ac, ae, al, if_true, if_false, Nat.reduceEqDiff, Nat.reduceLT, Nat.reduceSub, Nat.reduceAdd, Nat.reduceMul, Nat.reduceLeDiff, Bool.false_eq_true, List.length_map, List.length_cons, List.length_nil, List.map_cons, List.map_nil, List.drop_zero, List.drop_succ_cons, List.take_succ_cons, List.take_zero, List.getElem?_cons_zero, List.getElem?_cons_succ, List.set_cons_zero, List.set_cons_succ, List.headD_cons, List.headD_nil, List.tail_cons, List.tail_nil, List.all_cons, List.all_nil, List.replicate_succ, List.replicate_zero, List.nil_append, List.cons_append, List.append_nil, Option.isSome_some, List.contains_nil, List.contains_cons, Nat.max_self, Nat.zero_max, Nat.max_zero, bne_self_eq_false, Nat.reduceBEq, Nat.reduceBNe, List.foldl_nil, or_true, true_or, Bool.or_false, Bool.or_true, Bool.and_self, Nat.zero_add, and_true, true_and, and_self, h4, h3, e1, e2, el22, I32, I64, Int.natCast_zero]
        · rw [hd, if_pos (.inr h4)]; simp only [h3]
        · refine gocb_ret (fullRune _ hb') rfl (Nat.le_of_ble_eq_true rfl) (fun _ => rfl) ?_
          simp only [ab, ad, ax, ac, ae, al, if_true, if_false, Nat.reduceEqDiff, Nat.reduceLT, Nat.reduceSub, Nat.reduceAdd, Nat.reduceMul, Nat.reduceLeDiff, Bool.false_eq_true, List.length_map, List.length_cons, List.length_nil, List.map_cons, List.map_nil, List.drop_zero, List.drop_succ_cons, List.take_succ_cons, List.take_zero, List.getElem?_cons_zero, List.getElem?_cons_succ, List.set_cons_zero, List.set_cons_succ, List.headD_cons, List.headD_nil, List.tail_cons, List.tail_nil, List.all_cons, List.all_nil, List.replicate_succ, List.replicate_zero, List.nil_append, List.cons_append, List.append_nil, Option.isSome_some, List.contains_nil, List.contains_cons, Nat.max_self, Nat.zero_max, Nat.max_zero, bne_self_eq_false, Nat.reduceBEq, Nat.reduceBNe, List.foldl_nil, or_true, true_or, Bool.or_false, Bool.or_true, Bool.and_self, Nat.zero_add, and_true, true_and, and_self, I32, I64]
          refine godb_b (fun h5 => ?_) (fun h5 => ?_) <;> simp only [ab, ad, ax, ac, ae, al, if_true, if_false, Nat.reduceEqDiff, Nat.reduceLT, Nat.reduceSub, Nat.reduceAdd, Nat.reduceMul, Nat.reduceLeDiff, Bool.false_eq_true, List.length_map, List.length_cons, List.length_nil, List.map_cons, List.map_nil, List.drop_zero, List.drop_succ_cons, List.take_succ_cons, List.take_zero, List.getElem?_cons_zero, List.getElem?_cons_succ, List.set_cons_zero, List.set_cons_succ, List.headD_cons, List.headD_nil, List.tail_cons, List.tail_nil, List.all_cons, List.all_nil, List.replicate_succ, List.replicate_zero, List.nil_append, List.cons_append, List.append_nil, Option.isSome_some, List.contains_nil, List.contains_cons, Nat.max_self, Nat.zero_max, Nat.max_zero, bne_self_eq_false, Nat.reduceBEq, Nat.reduceBNe, List.foldl_nil, or_true, true_or, Bool.or_false, Bool.or_true, Bool.and_self, Nat.zero_add, and_true, true_and, and_self, h5, I32, I64]
          · rw [hd, if_neg (by omega), if_neg (by simpa using h5)]
          · rw [hd, if_neg (by omega), if_pos (by simpa using h5)]
      · rw [hd, if_pos (.inl h3)]
end Go.Ab.R2
end
section
namespace Go.Ab.R2
open Go.Proofs Go.Ab Go.Ab.C2
set_option linter.unusedSimpArgs false
set_option linter.unusedVariables false
set_option maxRecDepth 10000
set_option maxHeartbeats 2000000
theorem glNil : GlOk En [] := fun i cs h => by simp [get] at h
theorem mixed : En.P.follows .mixedOrders = true := by kernel_rfl

abbrev isR (r : Int) : Prop := 0 ≤ r ∧ r ≤ 1114111 ∧ (r < 55296 ∨ 57343 < r)
/-- The bytes of a rune. -/
def enc (r : Int) : List Int := if r < 128 then [r] else if r < 2048 then [192 + r / 64, 128 + r % 64] else if r < 65536 then [224 + r / 4096, 128 + r / 64 % 64, 128 + r % 64] else [240 + r / 262144, 128 + r / 4096 % 64, 128 + r / 64 % 64, 128 + r % 64]

theorem f40 (r : Int) : ACall En 40 ⟨1, [(0, vr r)], [], [], []⟩ (Ret1 vb fun b => (b = true ∧ isR r) ∨ (b = false ∧ ¬ isR r)) := by
  refine ACall.vm {} [] ok40 glNil mixed rfl fun o R' ho hR => ?_
  conv => cbv
  repeat' (first | (refine hR _ _ ⟨rfl, _, ?_, rfl⟩) | ((first | refine q_lss ‹_› (fun h => ?_) (fun h => ?_) | refine q_leq ‹_› (fun h => ?_) (fun h => ?_) | refine q_gtr ‹_› (fun h => ?_) (fun h => ?_) | refine q_geq ‹_› (fun h => ?_) (fun h => ?_)) <;> (conv => cbv)))
  all_goals (simp only [isR, reduceCtorEq, true_and, false_and, or_false, false_or]; omega)
def p14 (r : Int) (L : List AV) (e : Int) : Prop := (isR r ∧ L = (enc r).map vu ∧ e = 0) ∨ (¬ isR r ∧ L = [] ∧ e = 7)
theorem f14 (r : Int) : ACall En 14 ⟨1, [(0, vr r)], [], [], []⟩ (RetL2 1 vi (p14 r)) := by
  refine ACall.vm {} [] ok14 glNil mixed rfl fun o R' ho hR => ?_
  conv => cbv
  repeat' (first | (refine hR _ _ ⟨rfl, _, _, ?_, rfl⟩) | ((first | (refine q_call ho (f40 _) ?_; rintro _ _ ⟨rfl, _, ⟨rfl, hb⟩ | ⟨rfl, hb⟩, rfl⟩) | refine q_lss ‹_› (fun h => ?_) (fun h => ?_) | refine q_rem64 ‹_› (by omega) (by omega) (fun n hn => ?_) | refine q_add32 ‹_› (by omega) (by omega) (fun n hn => ?_) | refine q_quo32 ‹_› (by omega) (by omega) (by omega) (fun n hn => ?_) | refine q_cvU8 ‹_› (by omega) (by omega) ?_) <;> (conv => cbv)))
  all_goals first | exact .inr ⟨by assumption, rfl, rfl⟩ | (refine .inl ⟨by assumption, ?_, rfl⟩; unfold enc; (repeat' split) <;> first | omega | (simp only [List.map_cons, List.map_nil, List.cons.injEq, AV.sc.injEq, Value.int.injEq, true_and, and_true] <;> omega))

theorem f43 (r : Int) (s : ByteArray) (hs : s.data.toList.length < 4611686018427387904) : ACall En 43 ⟨2, [(0, vr r), (1, vs s)], [], [], []⟩ (Ret1 vb fun b => (b = true ∧ r ∈ bt s) ∨ (b = false ∧ ¬ r ∈ bt s)) := by
  refine ACall.vm {} [] ok43 glNil mixed rfl fun o R' ho hR => ?_
  conv => cbv
  refine q_loop ho (fun k : Int => ⟨18, [(0, vr r), (1, vs s), (5, vi k)], [], [], []⟩) (fun k => 0 ≤ k ∧ k.toNat ≤ s.data.toList.length ∧ ∀ j c, j < k.toNat → s.data.toList[j]? = some c → ¬ (c.toNat : Int) = r) (fun k => s.data.toList.length - k.toNat) 0 ⟨by omega, Nat.zero_le _, by simp⟩ ⟨rfl, ⟨rfl, rfl, rfl, trivial⟩, trivial, rfl, .inl rfl⟩ ?_
  rintro k ⟨h0, h1, h2⟩ Q' hQn hQe
  conv => cbv
  repeat' (first | (refine hR _ _ ⟨rfl, _, ?_, rfl⟩) | (refine hQn _ ⟨_, ?_, ?_, rfl, ⟨rfl, rfl, rfl, trivial⟩, trivial, rfl, .inl rfl⟩) | ((first | refine hQe _ _ nofun ?_ | refine q_lss ‹_› (fun h => ?_) (fun h => ?_) | refine q_eql ‹_› (fun h => ?_) (fun h => ?_) | refine q_add64 ‹_› (by omega) (by omega) (fun n hn => ?_) | refine q_cv32 ‹_› (by omega) (by omega) ?_ | refine q_slen ‹_› (fun n hn => ?_) | refine q_six ‹_› (by omega) (by omega) (fun c hc n hn h1 => ?_)) <;> (conv => cbv)))
  all_goals clear hQn hQe ho hR
  · refine .inl ⟨rfl, ?_⟩
    simp only [bt, List.mem_map]
    exact ⟨_, List.mem_of_getElem? (by assumption), by omega⟩
  · grind
  · grind
  · refine .inr ⟨rfl, ?_⟩
    simp only [bt, List.mem_map]
    rintro ⟨c, hc, e⟩
    obtain ⟨j, hj⟩ := List.getElem?_of_mem hc
    grind
end Go.Ab.R2
end
