/- Walks: what each function computes. -/
import Derived.Test.YtfokbedokggilaaDoorW3
set_option linter.all false
section
namespace Go.Ab.R2
open Go.Proofs Go.Ab
set_option linter.unusedSimpArgs false
set_option maxRecDepth 4000

theorem val3 {b0 b1 b2 : Int} (h0 : 224 ≤ b0) (h1 : b0 < 240) (h2 : 128 ≤ b1) (h3 : b1 < 192) (h4 : 128 ≤ b2) (h5 : b2 < 192) :
    ior .i32 (ior .i32 (ishl .i32 (IntKind.i32.wrap (iand .u8 b0 15)) 12) (ishl .i32 (IntKind.i32.wrap (iand .u8 b1 63)) 6)) (IntKind.i32.wrap (iand .u8 b2 63)) = (b0 - 224) * 4096 + (b1 - 128) * 64 + (b2 - 128) := by
  rw [and15 (by omega) (by omega), and63 (by omega) (by omega), and63 (by omega) (by omega), shl12, shl6, wrap32 (x := b0 % 16) (by omega) (by omega), wrap32 (x := b1 % 64) (by omega) (by omega), wrap32 (x := b2 % 64) (by omega) (by omega), wrap32 (x := b0 % 16 * 2 ^ 12) (by omega) (by omega), wrap32 (x := b1 % 64 * 2 ^ 6) (by omega) (by omega),
    ior_add (a := b0 % 16) (by omega) (by omega) (by omega) (by simp only [IntKind.bits]; omega)]
  have e : b0 % 16 * 2 ^ 12 + b1 % 64 * 2 ^ 6 = (b0 % 16 * 64 + b1 % 64) * 2 ^ 6 := by omega
  rw [e, ior_add (by omega) (by omega) (by omega) (by simp only [IntKind.bits]; omega)]
  omega
theorem accL_len : accL.length = 32 := rfl

def res3 (b0 lo hi : Int) : List Int → Int × Int
  | b1 :: b2 :: _ => if (lo ≤ b1 ∧ b1 ≤ hi) ∧ 128 ≤ b2 ∧ b2 < 192 then ((b0 - 224) * 4096 + (b1 - 128) * 64 + (b2 - 128), 3) else (65533, 1)
  | _ => (65533, 1)
set_option maxHeartbeats 2000000 in
theorem slow3 (b0 x lo hi a : Int) (tl : List AV) (r : List Int) (h0 : 224 ≤ b0) (h1 : b0 < 240) (hb : ∀ n ∈ r, 0 ≤ n ∧ n < 256) (hx : firstI b0.toNat = x) (n1 : ¬ 240 ≤ x) (n2 : iand .u8 x 7 = 3) (n3 : ishr .u8 x 4 = a) (n4 : 0 ≤ a) (n5 : a < 16)
    (n6 : accL.drop (a.toNat * 2) = U8 lo :: U8 hi :: tl) (n7 : 128 ≤ lo) (n8 : hi ≤ 191) :
    ACall En 49 ⟨1, [(0, .sl 1 (U8 b0 :: r.map U8))], [], [], []⟩ (Ret ⟨2, [(0, I32 (res3 b0 lo hi r).1), (1, I64 (res3 b0 lo hi r).2)], [], [], []⟩) := by
  refine ACall.go (pol := {}) (fn := Tryd.f49) (n := 122) (rs := [.tmp 2, .tmp 3]) (nb := 0) Tryd.func49 rfl rfl rfl rfl rfl rfl ?_
  have e1 : ¬ ((r.length + 1 : Nat) : Int) < 1 := by omega
  have e2 : firstL.drop b0.toNat = U8 x :: firstL.drop (b0.toNat + 1) := by rw [first_drop (by omega) (by omega), hx]
  have e3 : b0.toNat ≤ 256 := by omega
  have e5 : 0 ≤ b0 := by omega
  have e6 : b0 < 256 := by omega
  have n9 : a.toNat * 2 ≤ 32 := by omega
  rcases r with _ | ⟨b1, _ | ⟨b2, r⟩⟩
  · simp only [ab, ad, ax, ac, ae, al, if_true, if_false, Nat.reduceEqDiff, Nat.reduceLT, Nat.reduceSub, Nat.reduceAdd, Nat.reduceMul, Nat.reduceLeDiff, Bool.false_eq_true, List.length_map, List.length_cons, List.length_nil, List.map_cons, List.map_nil, List.drop_zero, List.drop_succ_cons, List.take_succ_cons, List.take_zero, List.getElem?_cons_zero, List.getElem?_cons_succ, List.set_cons_zero, List.set_cons_succ, List.headD_cons, List.headD_nil, List.tail_cons, List.tail_nil, List.all_cons, List.all_nil, List.replicate_succ, List.replicate_zero, List.nil_append, List.cons_append, List.append_nil, Option.isSome_some, Bool.or_false, Bool.or_true, Bool.and_self, Nat.zero_add, and_true, true_and, and_self, I32, I64, el22, el70, ar70, el73, ar73, sh5, sh72, g0, g1, e1, e2, e3, e5, h1, firstL_len, accL_len, n1, n2, n3, n4, n5, n6, n9, Int.natCast_zero, Int.reduceLT, Nat.mul_one, AV.cells, Int.toNat_zero, Int.reduceToNat, Int.reduceLE, Nat.le_add_left, U8, un5, un21, un3, wr, n16, zv72, hi72, e6, Int.cast_ofNat_Int, res3, Nat.le_refl]
  · obtain ⟨p0, p1⟩ := hb b1 List.mem_cons_self
    simp only [ab, ad, ax, ac, ae, al, if_true, if_false, Nat.reduceEqDiff, Nat.reduceLT, Nat.reduceSub, Nat.reduceAdd, Nat.reduceMul, Nat.reduceLeDiff, Bool.false_eq_true, List.length_map, List.length_cons, List.length_nil, List.map_cons, List.map_nil, List.drop_zero, List.drop_succ_cons, List.take_succ_cons, List.take_zero, List.getElem?_cons_zero, List.getElem?_cons_succ, List.set_cons_zero, List.set_cons_succ, List.headD_cons, List.headD_nil, List.tail_cons, List.tail_nil, List.all_cons, List.all_nil, List.replicate_succ, List.replicate_zero, List.nil_append, List.cons_append, List.append_nil, Option.isSome_some, Bool.or_false, Bool.or_true, Bool.and_self, Nat.zero_add, and_true, true_and, and_self, I32, I64, el22, el70, ar70, el73, ar73, sh5, sh72, fd72a, fd72b, g0, g1, e1, e2, e3, e5, h1, firstL_len, accL_len, n1, n2, n3, n4, n5, n6, n9, Int.natCast_zero, Int.reduceLT, Nat.mul_one, AV.cells, Int.toNat_zero, Int.reduceToNat, Int.reduceLE, Nat.le_add_left, U8, un5, un21, un3, wr, n16, zv72, hi72, e6, Int.cast_ofNat_Int, res3, Nat.le_refl]
  · have e7 : ¬ ((r.length + 1 + 1 + 1 : Nat) : Int) < 3 := by omega
    have e8 : ¬ ((r.length + 1 + 1 + 1 : Nat) : Int) < 1 := by omega
    obtain ⟨p0, p1⟩ := hb b1 List.mem_cons_self
    obtain ⟨p2, p3⟩ := hb b2 (by simp)
    simp only [ab, ad, ax, ac, ae, al, if_true, if_false, Nat.reduceEqDiff, Nat.reduceLT, Nat.reduceSub, Nat.reduceAdd, Nat.reduceMul, Nat.reduceLeDiff, Bool.false_eq_true, List.length_map, List.length_cons, List.length_nil, List.map_cons, List.map_nil, List.drop_zero, List.drop_succ_cons, List.take_succ_cons, List.take_zero, List.getElem?_cons_zero, List.getElem?_cons_succ, List.set_cons_zero, List.set_cons_succ, List.headD_cons, List.headD_nil, List.tail_cons, List.tail_nil, List.all_cons, List.all_nil, List.replicate_succ, List.replicate_zero, List.nil_append, List.cons_append, List.append_nil, Option.isSome_some, Bool.or_false, Bool.or_true, Bool.and_self, Nat.zero_add, and_true, true_and, and_self, I32, I64, el22, el70, ar70, el73, ar73, sh5, sh72, fd72a, fd72b, g0, g1, e1, e2, e3, e5, e7, e8, h1, firstL_len, accL_len, n1, n2, n3, n4, n5, n6, n9, Int.natCast_zero, Int.reduceLT, Nat.mul_one, AV.cells, Int.toNat_zero, Int.reduceToNat, Int.reduceLE, Nat.le_add_left, U8, un5, un21, un3, wr, n16, zv72, hi72, e6, Int.cast_ofNat_Int]
    refine gob_n (fun h2 => ?_) (fun h2 => ?_) <;> simp only [ab, ad, ax, ac, ae, al, if_true, if_false, Nat.reduceEqDiff, Nat.reduceLT, Nat.reduceSub, Nat.reduceAdd, Nat.reduceMul, Nat.reduceLeDiff, Bool.false_eq_true, List.length_map, List.length_cons, List.length_nil, List.map_cons, List.map_nil, List.drop_zero, List.drop_succ_cons, List.take_succ_cons, List.take_zero, List.getElem?_cons_zero, List.getElem?_cons_succ, List.set_cons_zero, List.set_cons_succ, List.headD_cons, List.headD_nil, List.tail_cons, List.tail_nil, List.all_cons, List.all_nil, List.replicate_succ, List.replicate_zero, List.nil_append, List.cons_append, List.append_nil, Option.isSome_some, Bool.or_false, Bool.or_true, Bool.and_self, Nat.zero_add, and_true, true_and, and_self, I32, I64, h2, el22, sh5, fd72b, un5, un21, un3, wr, AV.cells, Int.reduceLE]
    · rw [res3, if_neg (by omega)]
    · refine godb_d (fun h3 => ?_) (fun h3 => ?_) <;> simp only [ab, ad, ax, ac, ae, al, if_true, if_false, Nat.reduceEqDiff, Nat.reduceLT, Nat.reduceSub, Nat.reduceAdd, Nat.reduceMul, Nat.reduceLeDiff, Bool.false_eq_true, List.length_map, List.length_cons, List.length_nil, List.map_cons, List.map_nil, List.drop_zero, List.drop_succ_cons, List.take_succ_cons, List.take_zero, List.getElem?_cons_zero, List.getElem?_cons_succ, List.set_cons_zero, List.set_cons_succ, List.headD_cons, List.headD_nil, List.tail_cons, List.tail_nil, List.all_cons, List.all_nil, List.replicate_succ, List.replicate_zero, List.nil_append, List.cons_append, List.append_nil, Option.isSome_some, Bool.or_false, Bool.or_true, Bool.and_self, Nat.zero_add, and_true, true_and, and_self, I32, I64, h3, el22, sh5, un5, un21, un3, wr, AV.cells, Int.reduceLE, Int.reduceToNat]
      · rw [res3, if_neg (by omega)]
      · refine gob_n (fun h4 => ?_) (fun h4 => ?_) <;> simp only [ab, ad, ax, ac, ae, al, if_true, if_false, Nat.reduceEqDiff, Nat.reduceLT, Nat.reduceSub, Nat.reduceAdd, Nat.reduceMul, Nat.reduceLeDiff, Bool.false_eq_true, List.length_map, List.length_cons, List.length_nil, List.map_cons, List.map_nil, List.drop_zero, List.drop_succ_cons, List.take_succ_cons, List.take_zero, List.getElem?_cons_zero, List.getElem?_cons_succ, List.set_cons_zero, List.set_cons_succ, List.headD_cons, List.headD_nil, List.tail_cons, List.tail_nil, List.all_cons, List.all_nil, List.replicate_succ, List.replicate_zero, List.nil_append, List.cons_append, List.append_nil, Option.isSome_some, Bool.or_false, Bool.or_true, Bool.and_self, Nat.zero_add, and_true, true_and, and_self, I32, I64, h4, el22, sh5, un5, un21, un3, wr, AV.cells, Int.reduceLE]
        · rw [res3, if_neg (by omega)]
        · refine godb_d (fun h5 => ?_) (fun h5 => ?_) <;> simp only [ab, ad, ax, ac, ae, al, if_true, if_false, Nat.reduceEqDiff, Nat.reduceLT, Nat.reduceSub, Nat.reduceAdd, Nat.reduceMul, Nat.reduceLeDiff, Bool.false_eq_true, List.length_map, List.length_cons, List.length_nil, List.map_cons, List.map_nil, List.drop_zero, List.drop_succ_cons, List.take_succ_cons, List.take_zero, List.getElem?_cons_zero, List.getElem?_cons_succ, List.set_cons_zero, List.set_cons_succ, List.headD_cons, List.headD_nil, List.tail_cons, List.tail_nil, List.all_cons, List.all_nil, List.replicate_succ, List.replicate_zero, List.nil_append, List.cons_append, List.append_nil, Option.isSome_some, Bool.or_false, Bool.or_true, Bool.and_self, Nat.zero_add, and_true, true_and, and_self, I32, I64, h5, el22, sh5, un5, un21, un3, wr, AV.cells, Int.reduceLE]
          · rw [res3, if_neg (by omega)]
          · rw [res3, if_pos (by omega), val3 h0 h1 (by omega) (by omega) (by omega) (by omega)]
end Go.Ab.R2
end
