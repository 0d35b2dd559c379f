/- Walks: what each function computes. -/
import Derived.Test.YtfokbedokggilaaDoorW6
set_option linter.all false
section
namespace Go.Ab.R2
open Go.Proofs Go.Ab
set_option linter.unusedSimpArgs false
set_option maxRecDepth 4000

theorem full0 : ACall En 34 ⟨1, [(0, .sl 1 [])], [], [], []⟩ (Ret ⟨1, [(0, .sc (.bool false))], [], [], []⟩) := by
  refine ACall.go (pol := {}) (fn := Tryd.f34) (n := 56) (rs := [.tmp 2]) (nb := 0) Tryd.func34 rfl rfl rfl rfl rfl rfl ?_
  simp only [ab, ad, ax, ac, ae, al, if_true, if_false, Nat.reduceEqDiff, Nat.reduceLT, Nat.reduceSub, Nat.reduceAdd, Nat.reduceMul, Nat.reduceLeDiff, Bool.false_eq_true, List.length_map, List.length_cons, List.length_nil, List.map_cons, List.map_nil, List.drop_zero, List.drop_succ_cons, List.take_succ_cons, List.take_zero, List.getElem?_cons_zero, List.getElem?_cons_succ, List.set_cons_zero, List.set_cons_succ, List.headD_cons, List.headD_nil, List.tail_cons, List.tail_nil, List.all_cons, List.all_nil, List.replicate_succ, List.replicate_zero, List.nil_append, List.cons_append, List.append_nil, Option.isSome_some, List.contains_nil, List.contains_cons, Nat.max_self, Nat.zero_max, Nat.max_zero, bne_self_eq_false, Nat.reduceBEq, Nat.reduceBNe, List.foldl_nil, or_true, true_or, Bool.or_false, Bool.or_true, Bool.and_self, Nat.zero_add, and_true, true_and, and_self, el22, Int.natCast_zero]

/-- Long enough for its first byte. -/
theorem fullLong (b0 x s : Int) (r : List Int) (h0 : 0 ≤ b0) (h1 : b0 < 256) (hx : firstI b0.toNat = x) (n2 : iand .u8 x 7 = s) (hs : 0 ≤ s) (hs2 : s ≤ 7) (hl : s ≤ (r.length : Int) + 1) :
    ACall En 34 ⟨1, [(0, .sl 1 (U8 b0 :: r.map U8))], [], [], []⟩ (Ret ⟨1, [(0, .sc (.bool true))], [], [], []⟩) := by
  refine ACall.go (pol := {}) (fn := Tryd.f34) (n := 56) (rs := [.tmp 2]) (nb := 0) Tryd.func34 rfl rfl rfl rfl rfl rfl ?_
  have e1 : ¬ ((r.length + 1 : Nat) : Int) = 0 := by omega
  have e2 : firstL.drop b0.toNat = U8 x :: firstL.drop (b0.toNat + 1) := by rw [first_drop (by omega) (by omega), hx]
  have e3 : b0.toNat ≤ 256 := by omega
  have e4 : IntKind.i64.wrap s = s := wrap64 (by omega) (by omega)
  have e5 : s ≤ ((r.length + 1 : Nat) : Int) := by omega
  simp only [ab, ad, ax, ac, ae, al, if_true, if_false, Nat.reduceEqDiff, Nat.reduceLT, Nat.reduceSub, Nat.reduceAdd, Nat.reduceMul, Nat.reduceLeDiff, Bool.false_eq_true, List.length_map, List.length_cons, List.length_nil, List.map_cons, List.map_nil, List.drop_zero, List.drop_succ_cons, List.take_succ_cons, List.take_zero, List.getElem?_cons_zero, List.getElem?_cons_succ, List.set_cons_zero, List.set_cons_succ, List.headD_cons, List.headD_nil, List.tail_cons, List.tail_nil, List.all_cons, List.all_nil, List.replicate_succ, List.replicate_zero, List.nil_append, List.cons_append, List.append_nil, Option.isSome_some, List.contains_nil, List.contains_cons, Nat.max_self, Nat.zero_max, Nat.max_zero, bne_self_eq_false, Nat.reduceBEq, Nat.reduceBNe, List.foldl_nil, or_true, true_or, Bool.or_false, Bool.or_true, Bool.and_self, Nat.zero_add, and_true, true_and, and_self, el22, el70, ar70, sh5, g0, e1, e2, e3, e4, e5, h0, h1, firstL_len, n2, Int.toNat_zero, Int.reduceToNat, Int.reduceLE, Nat.mul_one, AV.cells, U8, un5, un3, Int.cast_ofNat_Int, Nat.le_add_left]

theorem ldCells_sc : (∀ b j, ldCells b j [] = []) ∧ (∀ b j v r, ldCells b j (AV.sc v :: r) = .sc v :: ldCells b (j + 1) r) := ⟨fun _ _ => rfl, fun _ _ _ _ => rfl⟩
def short (lo hi : Int) : List Int → Bool
  | [] => false
  | b1 :: r => decide (b1 < lo ∨ hi < b1) || match r with
    | [] => false
    | b2 :: _ => decide (b2 < 128 ∨ 191 < b2)
theorem short1 {lo hi b1 : Int} {r : List Int} (h : b1 < lo ∨ hi < b1) : short lo hi (b1 :: r) = true := by
  simp only [short, decide_eq_true h, Bool.true_or]
theorem short2 {lo hi b1 b2 : Int} {r : List Int} (h : b2 < 128 ∨ 191 < b2) : short lo hi (b1 :: b2 :: r) = true := by
  simp only [short, decide_eq_true h, Bool.or_true]
set_option maxHeartbeats 2000000 in
theorem fullShort (b0 x lo hi a s : Int) (tl : List AV) (r : List Int) (h0 : 0 ≤ b0) (h1 : b0 < 256) (hx : firstI b0.toNat = x) (n2 : iand .u8 x 7 = s) (n3 : ishr .u8 x 4 = a) (n4 : 0 ≤ a) (n5 : a < 16)
    (n6 : accL.drop (a.toNat * 2) = U8 lo :: U8 hi :: tl) (hs : 0 ≤ s) (hs2 : s ≤ 7) (hl : (r.length : Int) + 1 < s) :
    ACall En 34 ⟨1, [(0, .sl 1 (U8 b0 :: r.map U8))], [], [], []⟩ (Ret ⟨1, [(0, .sc (.bool (short lo hi r)))], [], [], []⟩) := by
  refine ACall.go (pol := {}) (fn := Tryd.f34) (n := 56) (rs := [.tmp 2]) (nb := 0) Tryd.func34 rfl rfl rfl rfl rfl rfl ?_
  have e2 : firstL.drop b0.toNat = U8 x :: firstL.drop (b0.toNat + 1) := by rw [first_drop (by omega) (by omega), hx]
  have e3 : b0.toNat ≤ 256 := by omega
  have e4 : IntKind.i64.wrap s = s := wrap64 (by omega) (by omega)
  have n9 : a.toNat * 2 ≤ 32 := by omega
  rcases r with _ | ⟨b1, r⟩
  · have e5 : ¬ s ≤ 1 := by simp at hl; omega
    simp only [ab, ad, ax, ac, ae, al, if_true, if_false, Nat.reduceEqDiff, Nat.reduceLT, Nat.reduceSub, Nat.reduceAdd, Nat.reduceMul, Nat.reduceLeDiff, Bool.false_eq_true, List.length_map, List.length_cons, List.length_nil, List.map_cons, List.map_nil, List.drop_zero, List.drop_succ_cons, List.take_succ_cons, List.take_zero, List.getElem?_cons_zero, List.getElem?_cons_succ, List.set_cons_zero, List.set_cons_succ, List.headD_cons, List.headD_nil, List.tail_cons, List.tail_nil, List.all_cons, List.all_nil, List.replicate_succ, List.replicate_zero, List.nil_append, List.cons_append, List.append_nil, Option.isSome_some, List.contains_nil, List.contains_cons, Nat.max_self, Nat.zero_max, Nat.max_zero, bne_self_eq_false, Nat.reduceBEq, Nat.reduceBNe, List.foldl_nil, or_true, true_or, Bool.or_false, Bool.or_true, Bool.and_self, Nat.zero_add, and_true, true_and, and_self, el22, el70, ar70, el73, ar73, sh5, sh72, fd72a, fd72b, g0, g1, e2, e3, e4, e5, h0, h1, firstL_len, accL_len, n2, n3, n4, n5, n6, n9, Int.toNat_zero, Int.reduceToNat, Int.reduceLE, Int.reduceLT, Int.reduceEq, Nat.mul_one, AV.cells, U8, un5, un3, zv72, hi72, Int.cast_ofNat_Int, Nat.le_add_left, Nat.le_refl]
    refine goc_draw hm (by kernel_rfl) ?_
    simp only [ab, ad, ax, ac, ae, al, if_true, if_false, Nat.reduceEqDiff, Nat.reduceLT, Nat.reduceSub, Nat.reduceAdd, Nat.reduceMul, Nat.reduceLeDiff, Bool.false_eq_true, List.length_map, List.length_cons, List.length_nil, List.map_cons, List.map_nil, List.drop_zero, List.drop_succ_cons, List.take_succ_cons, List.take_zero, List.getElem?_cons_zero, List.getElem?_cons_succ, List.set_cons_zero, List.set_cons_succ, List.headD_cons, List.headD_nil, List.tail_cons, List.tail_nil, List.all_cons, List.all_nil, List.replicate_succ, List.replicate_zero, List.nil_append, List.cons_append, List.append_nil, Option.isSome_some, List.contains_nil, List.contains_cons, Nat.max_self, Nat.zero_max, Nat.max_zero, bne_self_eq_false, Nat.reduceBEq, Nat.reduceBNe, List.foldl_nil, or_true, true_or, Bool.or_false, Bool.or_true, Bool.and_self, Nat.zero_add, and_true, true_and, and_self, aq, undef, el22, sh5, fd72a, fd72b, Int.reduceLT, Int.reduceLE, short, Nat.le_refl]
  · have e6 : (1 : Int) < ((r.length + 1 + 1 : Nat) : Int) := by omega
    have e5 : ¬ s ≤ ((r.length + 1 + 1 : Nat) : Int) := by simp at hl ⊢; omega
    have e1 : ¬ ((r.length + 1 + 1 : Nat) : Int) = 0 := by omega
    simp only [ab, ad, ax, ac, ae, al, if_true, if_false, Nat.reduceEqDiff, Nat.reduceLT, Nat.reduceSub, Nat.reduceAdd, Nat.reduceMul, Nat.reduceLeDiff, Bool.false_eq_true, List.length_map, List.length_cons, List.length_nil, List.map_cons, List.map_nil, List.drop_zero, List.drop_succ_cons, List.take_succ_cons, List.take_zero, List.getElem?_cons_zero, List.getElem?_cons_succ, List.set_cons_zero, List.set_cons_succ, List.headD_cons, List.headD_nil, List.tail_cons, List.tail_nil, List.all_cons, List.all_nil, List.replicate_succ, List.replicate_zero, List.nil_append, List.cons_append, List.append_nil, Option.isSome_some, List.contains_nil, List.contains_cons, Nat.max_self, Nat.zero_max, Nat.max_zero, bne_self_eq_false, Nat.reduceBEq, Nat.reduceBNe, List.foldl_nil, or_true, true_or, Bool.or_false, Bool.or_true, Bool.and_self, Nat.zero_add, and_true, true_and, and_self, el22, el70, ar70, el73, ar73, sh5, sh72, fd72a, fd72b, g0, g1, e1, e2, e3, e4, e5, h0, h1, firstL_len, accL_len, n2, n3, n4, n5, n6, n9, Int.toNat_zero, Int.reduceToNat, Int.reduceLE, Int.reduceLT, Nat.mul_one, AV.cells, U8, un5, un3, zv72, hi72, Int.cast_ofNat_Int, Nat.le_add_left, Nat.le_refl]
    refine goc_draw hm (by kernel_rfl) ?_
    simp only [aq, ad, undef, if_true, if_false, Nat.reduceEqDiff, Nat.reduceLT, Nat.reduceSub, Nat.reduceAdd, Nat.reduceLeDiff, el22, sh5, fd72a, fd72b, AV.cells, Int.reduceToNat, Int.reduceLE, List.getElem?_cons_zero, List.getElem?_cons_succ, List.length_cons, List.length_nil, List.take_succ_cons, List.take_zero, List.drop_zero, List.drop_succ_cons, ldCells_sc, Nat.zero_add, e6]
    refine dqb_n (fun h2 => ?_) (fun h2 => ?_) <;> simp only [aq, ad, undef, if_true, if_false, Nat.reduceEqDiff, Nat.reduceLT, Nat.reduceSub, Nat.reduceAdd, Nat.reduceLeDiff, el22, sh5, fd72a, fd72b, AV.cells, Int.reduceToNat, Int.reduceLE, List.getElem?_cons_zero, List.getElem?_cons_succ, List.length_cons, List.length_nil, List.take_succ_cons, List.take_zero, List.drop_zero, List.drop_succ_cons, ldCells_sc, Nat.zero_add, h2]
    · simp only [ab, ad, ax, ac, ae, al, if_true, if_false, Nat.reduceEqDiff, Nat.reduceLT, Nat.reduceSub, Nat.reduceAdd, Nat.reduceMul, Nat.reduceLeDiff, Bool.false_eq_true, List.length_map, List.length_cons, List.length_nil, List.map_cons, List.map_nil, List.drop_zero, List.drop_succ_cons, List.take_succ_cons, List.take_zero, List.getElem?_cons_zero, List.getElem?_cons_succ, List.set_cons_zero, List.set_cons_succ, List.headD_cons, List.headD_nil, List.tail_cons, List.tail_nil, List.all_cons, List.all_nil, List.replicate_succ, List.replicate_zero, List.nil_append, List.cons_append, List.append_nil, Option.isSome_some, List.contains_nil, List.contains_cons, Nat.max_self, Nat.zero_max, Nat.max_zero, bne_self_eq_false, Nat.reduceBEq, Nat.reduceBNe, List.foldl_nil, or_true, true_or, Bool.or_false, Bool.or_true, Bool.and_self, Nat.zero_add, and_true, true_and, and_self]
      rw [short1 (.inl h2)]
    · simp only [ab, ad, ae, al, if_true, if_false, Nat.reduceEqDiff, Nat.reduceLT, Nat.reduceSub, Nat.reduceAdd, Nat.reduceMul, Nat.reduceLeDiff, Bool.false_eq_true, List.length_map, List.length_cons, List.length_nil]
      refine godb_d (fun h3 => ?_) (fun h3 => ?_)
      · simp only [ab, ad, ax, ac, ae, al, if_true, if_false, Nat.reduceEqDiff, Nat.reduceLT, Nat.reduceSub, Nat.reduceAdd, Nat.reduceMul, Nat.reduceLeDiff, Bool.false_eq_true, List.length_map, List.length_cons, List.length_nil, List.map_cons, List.map_nil, List.drop_zero, List.drop_succ_cons, List.take_succ_cons, List.take_zero, List.getElem?_cons_zero, List.getElem?_cons_succ, List.set_cons_zero, List.set_cons_succ, List.headD_cons, List.headD_nil, List.tail_cons, List.tail_nil, List.all_cons, List.all_nil, List.replicate_succ, List.replicate_zero, List.nil_append, List.cons_append, List.append_nil, Option.isSome_some, List.contains_nil, List.contains_cons, Nat.max_self, Nat.zero_max, Nat.max_zero, bne_self_eq_false, Nat.reduceBEq, Nat.reduceBNe, List.foldl_nil, or_true, true_or, Bool.or_false, Bool.or_true, Bool.and_self, Nat.zero_add, and_true, true_and, and_self, h3]
        rw [short1 (.inr h3)]
      · rcases r with _ | ⟨b2, r⟩
        · simp only [ab, ad, ax, ac, ae, al, if_true, if_false, Nat.reduceEqDiff, Nat.reduceLT, Nat.reduceSub, Nat.reduceAdd, Nat.reduceMul, Nat.reduceLeDiff, Bool.false_eq_true, List.length_map, List.length_cons, List.length_nil, List.map_cons, List.map_nil, List.drop_zero, List.drop_succ_cons, List.take_succ_cons, List.take_zero, List.getElem?_cons_zero, List.getElem?_cons_succ, List.set_cons_zero, List.set_cons_succ, List.headD_cons, List.headD_nil, List.tail_cons, List.tail_nil, List.all_cons, List.all_nil, List.replicate_succ, List.replicate_zero, List.nil_append, List.cons_append, List.append_nil, Option.isSome_some, List.contains_nil, List.contains_cons, Nat.max_self, Nat.zero_max, Nat.max_zero, bne_self_eq_false, Nat.reduceBEq, Nat.reduceBNe, List.foldl_nil, or_true, true_or, Bool.or_false, Bool.or_true, Bool.and_self, Nat.zero_add, and_true, true_and, and_self, h3, undef, Int.reduceLT, Int.cast_ofNat_Int]
          have : short lo hi [b1] = false := by simp only [short, decide_eq_false (show ¬ (b1 < lo ∨ hi < b1) by omega), Bool.or_false]
          rw [this]
        · have f1 : (2 : Int) < ((r.length + 1 + 1 + 1 : Nat) : Int) := by omega
          simp only [ab, ad, ax, ac, ae, al, if_true, if_false, Nat.reduceEqDiff, Nat.reduceLT, Nat.reduceSub, Nat.reduceAdd, Nat.reduceMul, Nat.reduceLeDiff, Bool.false_eq_true, List.length_map, List.length_cons, List.length_nil, List.map_cons, List.map_nil, List.drop_zero, List.drop_succ_cons, List.take_succ_cons, List.take_zero, List.getElem?_cons_zero, List.getElem?_cons_succ, List.set_cons_zero, List.set_cons_succ, List.headD_cons, List.headD_nil, List.tail_cons, List.tail_nil, List.all_cons, List.all_nil, List.replicate_succ, List.replicate_zero, List.nil_append, List.cons_append, List.append_nil, Option.isSome_some, List.contains_nil, List.contains_cons, Nat.max_self, Nat.zero_max, Nat.max_zero, bne_self_eq_false, Nat.reduceBEq, Nat.reduceBNe, List.foldl_nil, or_true, true_or, Bool.or_false, Bool.or_true, Bool.and_self, Nat.zero_add, and_true, true_and, and_self, h3, U8, undef, Int.reduceLT, f1, el22, sh5, AV.cells, Int.reduceToNat, Int.reduceLE]
          refine gob_n (fun h4 => ?_) (fun h4 => ?_) <;> simp only [ab, ad, ax, ac, ae, al, if_true, if_false, Nat.reduceEqDiff, Nat.reduceLT, Nat.reduceSub, Nat.reduceAdd, Nat.reduceMul, Nat.reduceLeDiff, Bool.false_eq_true, List.length_map, List.length_cons, List.length_nil, List.map_cons, List.map_nil, List.drop_zero, List.drop_succ_cons, List.take_succ_cons, List.take_zero, List.getElem?_cons_zero, List.getElem?_cons_succ, List.set_cons_zero, List.set_cons_succ, List.headD_cons, List.headD_nil, List.tail_cons, List.tail_nil, List.all_cons, List.all_nil, List.replicate_succ, List.replicate_zero, List.nil_append, List.cons_append, List.append_nil, Option.isSome_some, List.contains_nil, List.contains_cons, Nat.max_self, Nat.zero_max, Nat.max_zero, bne_self_eq_false, Nat.reduceBEq, Nat.reduceBNe, List.foldl_nil, or_true, true_or, Bool.or_false, Bool.or_true, Bool.and_self, Nat.zero_add, and_true, true_and, and_self, h4, U8, undef, el22, sh5, AV.cells, Int.reduceToNat, Int.reduceLE]
          · rw [short2 (.inl h4)]
          · refine godb_d (fun h5 => ?_) (fun h5 => ?_) <;> simp only [ab, ad, ax, ac, ae, al, if_true, if_false, Nat.reduceEqDiff, Nat.reduceLT, Nat.reduceSub, Nat.reduceAdd, Nat.reduceMul, Nat.reduceLeDiff, Bool.false_eq_true, List.length_map, List.length_cons, List.length_nil, List.map_cons, List.map_nil, List.drop_zero, List.drop_succ_cons, List.take_succ_cons, List.take_zero, List.getElem?_cons_zero, List.getElem?_cons_succ, List.set_cons_zero, List.set_cons_succ, List.headD_cons, List.headD_nil, List.tail_cons, List.tail_nil, List.all_cons, List.all_nil, List.replicate_succ, List.replicate_zero, List.nil_append, List.cons_append, List.append_nil, Option.isSome_some, List.contains_nil, List.contains_cons, Nat.max_self, Nat.zero_max, Nat.max_zero, bne_self_eq_false, Nat.reduceBEq, Nat.reduceBNe, List.foldl_nil, or_true, true_or, Bool.or_false, Bool.or_true, Bool.and_self, Nat.zero_add, and_true, true_and, and_self, h5]
            · rw [short2 (.inr h5)]
            · have : short lo hi (b1 :: b2 :: r) = false := by simp only [short, decide_eq_false (show ¬ (b1 < lo ∨ hi < b1) by omega), decide_eq_false (show ¬ (b2 < 128 ∨ 191 < b2) by omega), Bool.or_false]
              rw [this]
end Go.Ab.R2
end
section
namespace Go.Ab.R2
open Go.Proofs Go.Ab
set_option linter.unusedSimpArgs false
set_option maxRecDepth 4000

/-- What utf8.FullRune returns. -/
def szI (b0 : Int) : Int := if b0 < 128 then 0 else if b0 < 194 then 1 else if b0 < 224 then 2 else if b0 < 240 then 3 else if b0 < 245 then 4 else 1
def loI (b0 : Int) : Int := if b0 = 224 then 160 else if b0 = 240 then 144 else 128
def hiI (b0 : Int) : Int := if b0 = 237 then 159 else if b0 = 244 then 143 else 191
def full : List Int → Bool
  | [] => false
  | b0 :: r => if szI b0 ≤ (r.length : Int) + 1 then true else short (loI b0) (hiI b0) r

theorem fullRune (b : List Int) (hb : ∀ n ∈ b, 0 ≤ n ∧ n < 256) : ACall En 34 ⟨1, [(0, .sl 1 (b.map U8))], [], [], []⟩ (Ret ⟨1, [(0, .sc (.bool (full b)))], [], [], []⟩) := by
  rcases b with _ | ⟨b0, r⟩
  · exact full0
  · obtain ⟨h0, h1⟩ := hb b0 List.mem_cons_self
    have key : ∀ (x lo hi a s : Int) (tl : List AV), firstI b0.toNat = x → iand .u8 x 7 = s → szI b0 = s → 0 ≤ s → s ≤ 7 → (1 < s → ishr .u8 x 4 = a ∧ 0 ≤ a ∧ a < 16 ∧ accL.drop (a.toNat * 2) = U8 lo :: U8 hi :: tl ∧ loI b0 = lo ∧ hiI b0 = hi) →
        ACall En 34 ⟨1, [(0, .sl 1 ((b0 :: r).map U8))], [], [], []⟩ (Ret ⟨1, [(0, .sc (.bool (full (b0 :: r))))], [], [], []⟩) := by
      intro x lo hi a s tl hx h2 h3 h4 h5 h6
      by_cases hl : s ≤ (r.length : Int) + 1
      · have e : full (b0 :: r) = true := by simp only [full, h3, hl, if_true]
        rw [e]; exact fullLong b0 x s r h0 h1 hx h2 h4 h5 hl
      · obtain ⟨q1, q2, q3, q4, q5, q6⟩ := h6 (by omega)
        have e : full (b0 :: r) = short lo hi r := by simp only [full, h3, hl, if_false, q5, q6]
        rw [e]; exact fullShort b0 x lo hi a s tl r h0 h1 hx h2 q1 q2 q3 q4 h4 h5 (by omega)
    rcases first_class h0 h1 with ⟨c1, c2⟩ | ⟨c1, c2⟩ | ⟨c1, c1', c2⟩ | ⟨c1, c2⟩ | ⟨c1, c2⟩ | ⟨c1, c2⟩ | ⟨c1, c2⟩ | ⟨c1, c1', c2⟩ | ⟨c1, c2⟩
    · exact key 240 0 0 0 0 [] c2 (by decide) (by unfold szI; split <;> omega) (by decide) (by decide) (fun h => by omega)
    · exact key 241 0 0 0 1 [] c2 (by decide) (by unfold szI; repeat' split <;> omega) (by decide) (by decide) (fun h => by omega)
    · exact key 2 128 191 0 2 _ c2 (by decide) (by unfold szI; repeat' split <;> omega) (by decide) (by decide) (fun _ => ⟨by decide, by decide, by decide, rfl, by unfold loI; repeat' split <;> omega, by unfold hiI; repeat' split <;> omega⟩)
    · exact key 19 160 191 1 3 _ c2 (by decide) (by unfold szI; repeat' split <;> omega) (by decide) (by decide) (fun _ => ⟨by decide, by decide, by decide, rfl, by unfold loI; repeat' split <;> omega, by unfold hiI; repeat' split <;> omega⟩)
    · exact key 3 128 191 0 3 _ c2 (by decide) (by unfold szI; repeat' split <;> omega) (by decide) (by decide) (fun _ => ⟨by decide, by decide, by decide, rfl, by unfold loI; repeat' split <;> omega, by unfold hiI; repeat' split <;> omega⟩)
    · exact key 35 128 159 2 3 _ c2 (by decide) (by unfold szI; repeat' split <;> omega) (by decide) (by decide) (fun _ => ⟨by decide, by decide, by decide, rfl, by unfold loI; repeat' split <;> omega, by unfold hiI; repeat' split <;> omega⟩)
    · exact key 52 144 191 3 4 _ c2 (by decide) (by unfold szI; repeat' split <;> omega) (by decide) (by decide) (fun _ => ⟨by decide, by decide, by decide, rfl, by unfold loI; repeat' split <;> omega, by unfold hiI; repeat' split <;> omega⟩)
    · exact key 4 128 191 0 4 _ c2 (by decide) (by unfold szI; repeat' split <;> omega) (by decide) (by decide) (fun _ => ⟨by decide, by decide, by decide, rfl, by unfold loI; repeat' split <;> omega, by unfold hiI; repeat' split <;> omega⟩)
    · exact key 68 128 143 4 4 _ c2 (by decide) (by unfold szI; repeat' split <;> omega) (by decide) (by decide) (fun _ => ⟨by decide, by decide, by decide, rfl, by unfold loI; repeat' split <;> omega, by unfold hiI; repeat' split <;> omega⟩)
end Go.Ab.R2
end
