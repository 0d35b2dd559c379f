/- Walks: what each function computes. -/
import Derived.Test.YtfokbedokggilaaDoorW14
set_option linter.all false
section
namespace Go.Ab.R2
open Go.Proofs Go.Ab Go.Ab.C2
set_option linter.unusedSimpArgs false
set_option linter.unusedVariables false
set_option maxRecDepth 10000
set_option maxHeartbeats 4000000
theorem k13r {r : Int} {x : List Int} (h : isR r) (hx : enc r = x) : ACall En 13 ⟨1, [(0, vr r)], [], [], []⟩ (Ret2 (.sl 1) vi fun M e => M = x.map vu ∧ e = 0) := by
  refine (f13 r).mono ?_
  rintro ae st ⟨rfl, M, e, hp, rfl⟩
  refine ⟨rfl, M, e, ?_, rfl⟩
  rcases hp with ⟨_, h1, h2⟩ | ⟨h1, _⟩
  · exact ⟨by rw [h1, hx], h2⟩
  · exact absurd h h1
theorem k13n {r : Int} (h : ¬ isR r) : ACall En 13 ⟨1, [(0, vr r)], [], [], []⟩ (Ret2 (.sl 1) vi fun M e => M = [] ∧ e = 7) := by
  refine (f13 r).mono ?_
  rintro ae st ⟨rfl, M, e, hp, rfl⟩
  refine ⟨rfl, M, e, ?_, rfl⟩
  rcases hp with ⟨h1, _⟩ | ⟨_, h1, h2⟩
  · exact absurd h1 h
  · exact ⟨h1, h2⟩
theorem kR : Rch [97, 195, 169] [97, 233] [0, 1] 3 := .step (n := 2) (.step (n := 1) .nil (by decide)) (by decide)
theorem kR2 : Rch [97, 195, 169, 255] [97, 233] [0, 1] 3 := .step (n := 2) (.step (n := 1) .nil (by decide)) (by decide)
theorem kB : BacP [97, 195, 169] 2 1 0 := .inl ⟨_, _, by decide, kR, by decide, by decide, rfl, by decide, by decide, by decide⟩
theorem k24 : ACall En 24 ⟨1, [(0, .sl 1 ([97, 195, 169, 255].map vu))], [], [], []⟩ (Ret2 vi vi fun p e => p = 3 ∧ e = 6) := by
  have hb : By [97, 195, 169, 255] := by_dec rfl
  refine (f24 rfl hb (by decide)).mono ?_
  rintro ae st ⟨rfl, p, e, h, rfl⟩
  exact ⟨rfl, p, e, h.uni hb (.inr ⟨by decide, _, _, kR2, .inr ⟨by decide, by decide, by decide⟩⟩), rfl⟩
theorem k25 : ACall En 25 ⟨1, [(0, .sl 1 ([97, 195, 169].map vu))], [], [], []⟩ (Ret2 vi vi fun c e => c = 2 ∧ e = 0) := by
  have hb : By [97, 195, 169] := by_dec rfl
  refine (f25 rfl hb (by decide)).mono ?_
  rintro ae st ⟨rfl, c, e, h, rfl⟩
  exact ⟨rfl, c, e, h.uni hb ⟨[97, 233].map vr, .inl ⟨_, _, .inr ⟨by decide, _, _, kR, .inl ⟨rfl, rfl⟩⟩, kR, rfl, rfl⟩, rfl⟩, rfl⟩
theorem k19 : ACall En 19 ⟨2, [(0, .sl 1 ([97, 195, 169].map vu)), (1, vi 2)], [], [], []⟩ (Ret2 vb vi fun t e => t = false ∧ e = 0) := by
  have hb : By [97, 195, 169] := by_dec rfl
  refine (f19 rfl hb (by decide)).mono ?_
  rintro ae st ⟨rfl, t, e, h, rfl⟩
  exact ⟨rfl, t, e, h.uni hb ⟨1, kB, .inr ⟨rfl, by decide⟩⟩, rfl⟩
theorem k21 : ACall En 21 ⟨2, [(0, .sl 1 ([97, 195, 169].map vu)), (1, vi 2)], [], [], []⟩ (Ret2 vi vi fun k e => k = 1 ∧ e = 0) := by
  have hb : By [97, 195, 169] := by_dec rfl
  refine (f21 rfl hb (by decide)).mono ?_
  rintro ae st ⟨rfl, t, e, h, rfl⟩
  exact ⟨rfl, t, e, h.uni hb kB, rfl⟩
theorem f7 : ACall En 7 ⟨0, [], [], [], []⟩ (Ret1 vb fun t => t = true) := by
  refine ACall.vm {} [] ok7 glNil mixed rfl fun o R' ho hR => ?_
  conv => cbv
  repeat' (first | (refine hR _ _ ⟨rfl, _, ?_, rfl⟩) | (((refine q_call2 ho (k13r (r := 65) (by decide) (x := [65]) (by decide)) (fun M1 e1 h1 => ?_))) <;> (conv => cbv) <;> (obtain ⟨hM1, he1⟩ := h1; subst he1)) | (((refine q_call2 ho (k13r (r := 233) (by decide) (x := [195, 169]) (by decide)) (fun M2 e2 h1 => ?_))) <;> (conv => cbv) <;> (obtain ⟨hM2, he2⟩ := h1; subst he2)) | (((refine q_call2 ho (k13r (r := 128512) (by decide) (x := [240, 159, 152, 128]) (by decide)) (fun M3 e3 h1 => ?_))) <;> (conv => cbv) <;> (obtain ⟨hM3, he3⟩ := h1; subst he3)) | (((refine q_call2 ho (k13n (r := 55296) (by decide)) (fun M4 e4 h1 => ?_))) <;> (conv => cbv) <;> (obtain ⟨hM4, he4⟩ := h1; subst he4)) | (((refine q_call2 ho (k13n (r := 1114112) (by decide)) (fun M5 e5 h1 => ?_))) <;> (conv => cbv) <;> (obtain ⟨hM5, he5⟩ := h1; subst he5)) | (((refine q_call2 ho (k13n (r := -1) (by decide)) (fun M6 e6 h1 => ?_))) <;> (conv => cbv) <;> (obtain ⟨hM6, he6⟩ := h1; subst he6)) | ((first | refine q_tostrM ho hM1 (fun s1 hs1 => ?_) | refine q_tostrM ho hM2 (fun s2 hs2 => ?_) | refine q_tostrM ho hM3 (fun s3 hs3 => ?_)) <;> (conv => cbv)) | (((refine q_call3 ho (k11 (b := [169]) (by_dec rfl) (by decide) (by decide : _ = ((0 : Int), (0 : Int), (6 : Int)))) (fun x1 x2 x3 h1 => ?_))) <;> (conv => cbv) <;> (obtain ⟨g1, g2, g3⟩ := h1; subst g3)) | (((refine q_call3 ho (k11 (b := [192, 128]) (by_dec rfl) (by decide) (by decide : _ = ((0 : Int), (0 : Int), (6 : Int)))) (fun y1 y2 y3 h1 => ?_))) <;> (conv => cbv) <;> (obtain ⟨g1, g2, g3⟩ := h1; subst g3)) | (((refine q_call2 ho k24 (fun p e7 h1 => ?_))) <;> (conv => cbv) <;> (obtain ⟨g1, g2⟩ := h1; subst g1; subst g2)) | (((refine q_call2 ho k25 (fun p e7 h1 => ?_))) <;> (conv => cbv) <;> (obtain ⟨g1, g2⟩ := h1; subst g1; subst g2)) | (((refine q_call2 ho k19 (fun p e7 h1 => ?_))) <;> (conv => cbv) <;> (obtain ⟨g1, g2⟩ := h1; subst g1; subst g2)) | (((refine q_call2 ho k21 (fun p e7 h1 => ?_))) <;> (conv => cbv) <;> (obtain ⟨g1, g2⟩ := h1; subst g1; subst g2)) | (((refine q_call1 ho f10 (fun t ht => ?_))) <;> (conv => cbv) <;> (subst ht)) | ((first | refine q_eqlT ‹_› (by omega) ?_ | refine q_neqF ‹_› (by omega) ?_ | refine q_sneq ‹_› (fun h => ?_) (fun h => ?_)) <;> (conv => cbv)))
  all_goals clear hR ho
  all_goals first | rfl | (subst_vars; exact absurd (by decide) h)
end Go.Ab.R2
end
