/- Walks: what each function computes. -/
import Derived.Test.YtfokbedokggilaaDoorC1
set_option linter.all false
section
namespace Go.Ab.R2
open Go.Proofs Go.Ab
set_option linter.unusedSimpArgs false
set_option maxRecDepth 4000

theorem runeLen (r : Int) : ACall En 39 ⟨1, [(0, I32 r)], [], [], []⟩ (Ret ⟨1, [(0, I64 (if r < 0 then -1 else if r ≤ 127 then 1 else if r ≤ 2047 then 2 else if 55296 ≤ r ∧ r ≤ 57343 then -1 else if r ≤ 65535 then 3 else if r ≤ 1114111 then 4 else -1))], [], [], []⟩) := by
  refine ACall.go (pol := {}) (fn := Tryd.f39) (n := 25) (rs := [.tmp 2]) (nb := 0) Tryd.func39 rfl rfl rfl rfl rfl rfl ?_
  simp only [ab, ad, ae, al, if_true, if_false, Nat.reduceEqDiff, Nat.reduceLT, Nat.reduceSub, Nat.reduceAdd, Nat.reduceMul, Nat.reduceLeDiff, Bool.false_eq_true, List.length_map, List.length_cons, List.length_nil, I32, I64]
  refine godb_d (fun h1 => ?_) (fun h1 => ?_) <;> simp only [ab, ad, ae, al, if_true, if_false, Nat.reduceEqDiff, Nat.reduceLT, Nat.reduceSub, Nat.reduceAdd, Nat.reduceMul, Nat.reduceLeDiff, Bool.false_eq_true, List.length_map, List.length_cons, List.length_nil, h1]
  refine godb_d (fun h2 => ?_) (fun h2 => ?_) <;> simp only [ab, ad, ae, al, if_true, if_false, Nat.reduceEqDiff, Nat.reduceLT, Nat.reduceSub, Nat.reduceAdd, Nat.reduceMul, Nat.reduceLeDiff, Bool.false_eq_true, List.length_map, List.length_cons, List.length_nil, h2]
  refine godb_d (fun h3 => ?_) (fun h3 => ?_) <;> simp only [ab, ad, ae, al, if_true, if_false, Nat.reduceEqDiff, Nat.reduceLT, Nat.reduceSub, Nat.reduceAdd, Nat.reduceMul, Nat.reduceLeDiff, Bool.false_eq_true, List.length_map, List.length_cons, List.length_nil, h3]
  refine gob_d (fun h4 => ?_) (fun h4 => ?_) <;> simp only [ab, ad, ae, al, if_true, if_false, Nat.reduceEqDiff, Nat.reduceLT, Nat.reduceSub, Nat.reduceAdd, Nat.reduceMul, Nat.reduceLeDiff, Bool.false_eq_true, List.length_map, List.length_cons, List.length_nil, h4, false_and, true_and]
  · refine godb_d (fun h5 => ?_) (fun h5 => ?_) <;> simp only [ab, ad, ae, al, if_true, if_false, Nat.reduceEqDiff, Nat.reduceLT, Nat.reduceSub, Nat.reduceAdd, Nat.reduceMul, Nat.reduceLeDiff, Bool.false_eq_true, List.length_map, List.length_cons, List.length_nil, h5]
    refine godb_d (fun h6 => ?_) (fun h6 => ?_) <;> simp only [ab, ad, ae, al, if_true, if_false, Nat.reduceEqDiff, Nat.reduceLT, Nat.reduceSub, Nat.reduceAdd, Nat.reduceMul, Nat.reduceLeDiff, Bool.false_eq_true, List.length_map, List.length_cons, List.length_nil, h6]
    refine godb_d (fun h7 => ?_) (fun h7 => ?_) <;> simp only [ab, ad, ae, al, if_true, if_false, Nat.reduceEqDiff, Nat.reduceLT, Nat.reduceSub, Nat.reduceAdd, Nat.reduceMul, Nat.reduceLeDiff, Bool.false_eq_true, List.length_map, List.length_cons, List.length_nil, h7]
  · refine godb_d (fun h6 => ?_) (fun h6 => ?_) <;> simp only [ab, ad, ae, al, if_true, if_false, Nat.reduceEqDiff, Nat.reduceLT, Nat.reduceSub, Nat.reduceAdd, Nat.reduceMul, Nat.reduceLeDiff, Bool.false_eq_true, List.length_map, List.length_cons, List.length_nil, h6]
    refine godb_d (fun h7 => ?_) (fun h7 => ?_) <;> simp only [ab, ad, ae, al, if_true, if_false, Nat.reduceEqDiff, Nat.reduceLT, Nat.reduceSub, Nat.reduceAdd, Nat.reduceMul, Nat.reduceLeDiff, Bool.false_eq_true, List.length_map, List.length_cons, List.length_nil, h7]

theorem runeStart (b : Int) : ACall En 45 ⟨1, [(0, U8 b)], [], [], []⟩ (Ret ⟨1, [(0, .sc (.bool (!decide (iand .u8 b 192 = 128))))], [], [], []⟩) := by
  refine ACall.go (pol := {}) (fn := Tryd.f45) (n := 6) (rs := [.tmp 2]) (nb := 0) Tryd.func45 rfl rfl rfl rfl rfl rfl ?_
  simp only [ab, ad, ae, al, if_true, if_false, Nat.reduceEqDiff, Nat.reduceLT, Nat.reduceSub, Nat.reduceAdd, Nat.reduceMul, Nat.reduceLeDiff, Bool.false_eq_true, List.length_map, List.length_cons, List.length_nil, U8]

theorem slow0 : ACall En 49 ⟨1, [(0, .sl 1 [])], [], [], []⟩ (Ret ⟨2, [(0, I32 65533), (1, I64 0)], [], [], []⟩) := by
  refine ACall.go (pol := {}) (fn := Tryd.f49) (n := 122) (rs := [.tmp 2, .tmp 3]) (nb := 0) Tryd.func49 rfl rfl rfl rfl rfl rfl ?_
  simp only [ab, ad, ae, al, if_true, if_false, Nat.reduceEqDiff, Nat.reduceLT, Nat.reduceSub, Nat.reduceAdd, Nat.reduceMul, Nat.reduceLeDiff, Bool.false_eq_true, List.length_map, List.length_cons, List.length_nil, I32, I64, el22, Int.natCast_zero, Int.reduceLT]

theorem first_drop {n : Int} (h0 : 0 ≤ n) (h1 : n < 256) : firstL.drop n.toNat = U8 (firstI n.toNat) :: firstL.drop (n.toNat + 1) := by
  have hl : n.toNat < firstL.length := by simp [firstL]; omega
  rw [List.drop_eq_getElem_cons hl]
  simp [firstL]
theorem firstL_len : firstL.length = 256 := by simp [firstL]

/-- The classes of a first byte. -/
theorem first_class {b0 : Int} (h0 : 0 ≤ b0) (h1 : b0 < 256) : (b0 < 128 ∧ firstI b0.toNat = 240) ∨ ((128 ≤ b0 ∧ b0 < 194 ∨ 245 ≤ b0) ∧ firstI b0.toNat = 241) ∨ (194 ≤ b0 ∧ b0 < 224 ∧ firstI b0.toNat = 2) ∨ (b0 = 224 ∧ firstI b0.toNat = 19) ∨
    ((225 ≤ b0 ∧ b0 < 237 ∨ 238 ≤ b0 ∧ b0 < 240) ∧ firstI b0.toNat = 3) ∨ (b0 = 237 ∧ firstI b0.toNat = 35) ∨ (b0 = 240 ∧ firstI b0.toNat = 52) ∨ (241 ≤ b0 ∧ b0 < 244 ∧ firstI b0.toNat = 4) ∨ (b0 = 244 ∧ firstI b0.toNat = 68) := by
  unfold firstI
  split
  · left; omega
  split
  · right; left; omega
  split
  · right; right; left; omega
  split
  · right; right; right; left; omega
  split
  · right; right; right; right; left; omega
  split
  · right; right; right; right; right; left; omega
  split
  · right; right; right; right; left; omega
  split
  · right; right; right; right; right; right; left; omega
  split
  · right; right; right; right; right; right; right; left; omega
  split
  · right; right; right; right; right; right; right; right; omega
  · right; left; omega

theorem bits : iand .u8 241 7 = 1 ∧ iand .u8 2 7 = 2 ∧ iand .u8 19 7 = 3 ∧ iand .u8 3 7 = 3 ∧ iand .u8 35 7 = 3 ∧ iand .u8 52 7 = 4 ∧ iand .u8 4 7 = 4 ∧ iand .u8 68 7 = 4 ∧ iand .u8 240 7 = 0 ∧
    ishr .u8 2 4 = 0 ∧ ishr .u8 19 4 = 1 ∧ ishr .u8 3 4 = 0 ∧ ishr .u8 35 4 = 2 ∧ ishr .u8 52 4 = 3 ∧ ishr .u8 4 4 = 0 ∧ ishr .u8 68 4 = 4 := by decide

theorem n16 : ((16 : Nat) : Int) = 16 := rfl
theorem sh31 : ishr .i32 (ishl .i32 (IntKind.i32.wrap 241) 31) 31 = -1 := by decide
theorem andn_all {x : Int} : iandn .i32 x (-1) = 0 := by
  unfold iandn
  have : ~~~(BitVec.ofInt IntKind.i32.bits (-1)) = 0#_ := by decide
  rw [this, BitVec.and_zero]; decide
theorem i33 : iand .i32 65533 (-1) = 65533 ∧ ior .i32 0 65533 = 65533 := by decide
theorem wr : IntKind.i64.wrap 2 = 2 ∧ IntKind.i64.wrap 3 = 3 ∧ IntKind.i64.wrap 4 = 4 ∧ IntKind.i64.wrap 1 = 1 ∧ IntKind.i64.wrap 0 = 0 := by decide

/-- The walk's first part is the same for all. -/

theorem slowBad (b0 : Int) (r : List Int) (h0 : 0 ≤ b0) (h1 : b0 < 256) (hc : firstI b0.toNat = 241) : ACall En 49 ⟨1, [(0, .sl 1 (U8 b0 :: r.map U8))], [], [], []⟩ (Ret ⟨2, [(0, I32 65533), (1, I64 1)], [], [], []⟩) := by
  refine ACall.go (pol := {}) (fn := Tryd.f49) (n := 122) (rs := [.tmp 2, .tmp 3]) (nb := 0) Tryd.func49 rfl rfl rfl rfl rfl rfl ?_
  have e1 : ¬ ((r.length + 1 : Nat) : Int) < 1 := by omega
  have e2 : firstL.drop b0.toNat = U8 241 :: firstL.drop (b0.toNat + 1) := by rw [first_drop h0 h1, hc]
  have e3 : b0.toNat ≤ 256 := by omega
  have e4 : b0 < ((256 : Nat) : Int) := by omega
  simp only [ab, ad, ae, al, if_true, if_false, Nat.reduceEqDiff, Nat.reduceLT, Nat.reduceSub, Nat.reduceAdd, Nat.reduceMul, Nat.reduceLeDiff, Bool.false_eq_true, List.length_map, List.length_cons, List.length_nil, I32, I64, el22, el70, ar70, sh5, g0, e1, e2, e3, h0, h1, firstL_len, Int.natCast_zero, Int.reduceLT, Nat.mul_one, AV.cells, List.getElem?_cons_zero, Int.toNat_zero, Int.reduceToNat, Int.reduceLE, List.take_succ_cons, List.take_zero, Nat.le_add_left, e4, U8, Nat.zero_add, un5, un21, un3, sh31, andn_all, i33]

theorem shl6 (a : Int) : ishl .i32 a 6 = IntKind.i32.wrap (a * 2 ^ 6) := rfl
theorem shl12 (a : Int) : ishl .i32 a 12 = IntKind.i32.wrap (a * 2 ^ 12) := rfl
theorem shl18 (a : Int) : ishl .i32 a 18 = IntKind.i32.wrap (a * 2 ^ 18) := rfl
theorem and63 {x : Int} (h0 : 0 ≤ x) (h1 : x < 256) : iand .u8 x 63 = x % 64 := iand_mask (k := .u8) (m := 6) h0 h1 (by decide)
theorem and31 {x : Int} (h0 : 0 ≤ x) (h1 : x < 256) : iand .u8 x 31 = x % 32 := iand_mask (k := .u8) (m := 5) h0 h1 (by decide)
theorem and15 {x : Int} (h0 : 0 ≤ x) (h1 : x < 256) : iand .u8 x 15 = x % 16 := iand_mask (k := .u8) (m := 4) h0 h1 (by decide)
theorem and7 {x : Int} (h0 : 0 ≤ x) (h1 : x < 256) : iand .u8 x 7 = x % 8 := iand_mask (k := .u8) (m := 3) h0 h1 (by decide)
theorem val2 {b0 b1 : Int} (h0 : 194 ≤ b0) (h1 : b0 < 224) (h2 : 128 ≤ b1) (h3 : b1 < 192) :
    ior .i32 (ishl .i32 (IntKind.i32.wrap (iand .u8 b0 31)) 6) (IntKind.i32.wrap (iand .u8 b1 63)) = (b0 - 192) * 64 + (b1 - 128) := by
  rw [and31 (by omega) (by omega), and63 (by omega) (by omega), shl6, wrap32 (x := b0 % 32) (by omega) (by omega), wrap32 (x := b1 % 64) (by omega) (by omega), wrap32 (by omega) (by omega),
    ior_add (by omega) (by omega) (by omega) (by simp only [IntKind.bits]; omega)]
  omega

def res2 (b0 : Int) : List Int → Int × Int
  | [] => (65533, 1)
  | b1 :: _ => if 128 ≤ b1 ∧ b1 < 192 then ((b0 - 192) * 64 + (b1 - 128), 2) else (65533, 1)
set_option maxHeartbeats 1000000 in
theorem slow2 (b0 : Int) (r : List Int) (h0 : 194 ≤ b0) (h1 : b0 < 224) (hb : ∀ n ∈ r, 0 ≤ n ∧ n < 256) :
    ACall En 49 ⟨1, [(0, .sl 1 (U8 b0 :: r.map U8))], [], [], []⟩ (Ret ⟨2, [(0, I32 (res2 b0 r).1), (1, I64 (res2 b0 r).2)], [], [], []⟩) := by
  refine ACall.go (pol := {}) (fn := Tryd.f49) (n := 122) (rs := [.tmp 2, .tmp 3]) (nb := 0) Tryd.func49 rfl rfl rfl rfl rfl rfl ?_
  have hc : firstI b0.toNat = 2 := by unfold firstI; simp only [show ¬ b0.toNat < 128 by omega, show ¬ b0.toNat < 194 by omega, show b0.toNat < 224 by omega, if_true, if_false]
  have e1 : ¬ ((r.length + 1 : Nat) : Int) < 1 := by omega
  have e2 : firstL.drop b0.toNat = U8 2 :: firstL.drop (b0.toNat + 1) := by rw [first_drop (by omega) (by omega), hc]
  have e3 : b0.toNat ≤ 256 := by omega
  have e5 : 0 ≤ b0 := by omega
  have e6 : b0 < 256 := by omega
  rcases r with _ | ⟨b1, r⟩
  · simp only [ab, ad, ax, ac, ae, al, if_true, if_false, Nat.reduceEqDiff, Nat.reduceLT, Nat.reduceSub, Nat.reduceAdd, Nat.reduceMul, Nat.reduceLeDiff, Bool.false_eq_true, List.length_map, List.length_cons, List.length_nil, List.map_cons, List.map_nil, List.drop_zero, List.drop_succ_cons, List.take_succ_cons, List.take_zero, List.getElem?_cons_zero, List.getElem?_cons_succ, List.set_cons_zero, List.set_cons_succ, List.headD_cons, List.headD_nil, List.tail_cons, List.tail_nil, List.all_cons, List.all_nil, List.replicate_succ, List.replicate_zero, List.nil_append, List.cons_append, List.append_nil, Option.isSome_some, Bool.or_false, Bool.or_true, Bool.and_self, Nat.zero_add, and_true, true_and, and_self, I32, I64, el22, el70, ar70, el73, ar73, sh5, sh72, g0, g1, e1, e2, e3, e5, h1, firstL_len, Int.natCast_zero, Int.reduceLT, Nat.mul_one, AV.cells, Int.toNat_zero, Int.reduceToNat, Int.reduceLE, Nat.le_add_left, U8, un5, un21, un3, bits, wr, accL, n16, zv72, hi72, e6, Int.cast_ofNat_Int, res2, Nat.le_refl]
  · have e7 : ¬ ((r.length + 1 + 1 : Nat) : Int) < 2 := by omega
    have e8 : ¬ ((r.length + 1 + 1 : Nat) : Int) < 1 := by omega
    obtain ⟨p0, p1⟩ := hb b1 List.mem_cons_self
    simp only [ab, ad, ax, ac, ae, al, if_true, if_false, Nat.reduceEqDiff, Nat.reduceLT, Nat.reduceSub, Nat.reduceAdd, Nat.reduceMul, Nat.reduceLeDiff, Bool.false_eq_true, List.length_map, List.length_cons, List.length_nil, List.map_cons, List.map_nil, List.drop_zero, List.drop_succ_cons, List.take_succ_cons, List.take_zero, List.getElem?_cons_zero, List.getElem?_cons_succ, List.set_cons_zero, List.set_cons_succ, List.headD_cons, List.headD_nil, List.tail_cons, List.tail_nil, List.all_cons, List.all_nil, List.replicate_succ, List.replicate_zero, List.nil_append, List.cons_append, List.append_nil, Option.isSome_some, Bool.or_false, Bool.or_true, Bool.and_self, Nat.zero_add, and_true, true_and, and_self, I32, I64, el22, el70, ar70, el73, ar73, sh5, sh72, fd72a, fd72b, g0, g1, e1, e2, e3, e5, e7, e8, h1, firstL_len, Int.natCast_zero, Int.reduceLT, Nat.mul_one, AV.cells, Int.toNat_zero, Int.reduceToNat, Int.reduceLE, Nat.le_add_left, U8, un5, un21, un3, bits, wr, accL, n16, zv72, hi72, e6, Int.cast_ofNat_Int]
    refine gob_n (fun h2 => ?_) (fun h2 => ?_) <;> simp only [ab, ad, ax, ac, ae, al, if_true, if_false, Nat.reduceEqDiff, Nat.reduceLT, Nat.reduceSub, Nat.reduceAdd, Nat.reduceMul, Nat.reduceLeDiff, Bool.false_eq_true, List.length_map, List.length_cons, List.length_nil, List.map_cons, List.map_nil, List.drop_zero, List.drop_succ_cons, List.take_succ_cons, List.take_zero, List.getElem?_cons_zero, List.getElem?_cons_succ, List.set_cons_zero, List.set_cons_succ, List.headD_cons, List.headD_nil, List.tail_cons, List.tail_nil, List.all_cons, List.all_nil, List.replicate_succ, List.replicate_zero, List.nil_append, List.cons_append, List.append_nil, Option.isSome_some, Bool.or_false, Bool.or_true, Bool.and_self, Nat.zero_add, and_true, true_and, and_self, I32, I64, h2, el22, sh5, fd72b, un5, un21, un3, wr, AV.cells, Int.reduceLE]
    · rw [res2, if_neg (by omega)]
    · refine godb_d (fun h3 => ?_) (fun h3 => ?_) <;> simp only [ab, ad, ax, ac, ae, al, if_true, if_false, Nat.reduceEqDiff, Nat.reduceLT, Nat.reduceSub, Nat.reduceAdd, Nat.reduceMul, Nat.reduceLeDiff, Bool.false_eq_true, List.length_map, List.length_cons, List.length_nil, List.map_cons, List.map_nil, List.drop_zero, List.drop_succ_cons, List.take_succ_cons, List.take_zero, List.getElem?_cons_zero, List.getElem?_cons_succ, List.set_cons_zero, List.set_cons_succ, List.headD_cons, List.headD_nil, List.tail_cons, List.tail_nil, List.all_cons, List.all_nil, List.replicate_succ, List.replicate_zero, List.nil_append, List.cons_append, List.append_nil, Option.isSome_some, Bool.or_false, Bool.or_true, Bool.and_self, Nat.zero_add, and_true, true_and, and_self, I32, I64, h3, el22, sh5, un5, un21, un3, wr, AV.cells, Int.reduceLE]
      · rw [res2, if_neg (by omega)]
      · rw [res2, if_pos (by omega), val2 h0 h1 (by omega) (by omega)]
end Go.Ab.R2
end
