/- The abstract layer and its machine: what Go code does to lists, proved once over any program. -/
import Derived.Test.YtfokbedokggilaaDoorK9
import Derived.Laws.StructEq
set_option linter.all false
section
/- The abstract layer, part Eq: '==' of values whose leaves are numbers, bools and strings. -/
namespace Go.Ab
open Go.RowKit

def leafV : Value → Value → Option Bool
  | .int k a, .int k' b => if k = k' then some (decide (a = b)) else none
  | .bool a, .bool b => some (decide (a = b))
  | .string a, .string b => some (decide (a = b))
  | _, _ => none
def leavesV : List Value → List Value → Option Bool
  | [], [] => some true
  | x :: xs, y :: ys => match leafV x y, leavesV xs ys with
    | some a, some b => some (a && b)
    | _, _ => none
  | _, _ => none
def leavesEq : List AV → List AV → Option Bool
  | [], [] => some true
  | .sc x :: xs, .sc y :: ys => match leafV x y, leavesEq xs ys with
    | some a, some b => some (a && b)
    | _, _ => none
  | _, _ => none
/-- What the leaves' equality says. -/
def eqP : List AV → List AV → Prop
  | .sc (.int _ a) :: xs, .sc (.int _ b) :: ys => a = b ∧ eqP xs ys
  | .sc (.bool a) :: xs, .sc (.bool b) :: ys => a = b ∧ eqP xs ys
  | .sc (.string a) :: xs, .sc (.string b) :: ys => a = b ∧ eqP xs ys
  | _, _ => True
/-- Leaves of the same kinds. -/
def eqK : List AV → List AV → Bool
  | [], [] => true
  | .sc (.int k _) :: xs, .sc (.int k' _) :: ys => decide (k = k') && eqK xs ys
  | .sc (.bool _) :: xs, .sc (.bool _) :: ys => eqK xs ys
  | .sc (.string _) :: xs, .sc (.string _) :: ys => eqK xs ys
  | _, _ => false
theorem leavesEq_of {xs ys : List AV} (h : eqK xs ys = true) : ∃ t, leavesEq xs ys = some t ∧ (t = true ↔ eqP xs ys) := by
  fun_induction eqK xs ys with
  | case1 => exact ⟨true, rfl, by simp [eqP]⟩
  | case2 k a xs k' b ys ih =>
    simp only [Bool.and_eq_true, decide_eq_true_eq] at h
    obtain ⟨t, h1, h2⟩ := ih h.2
    obtain ⟨rfl, _⟩ := h
    exact ⟨decide (a = b) && t, by simp [leavesEq, leafV, h1], by simp only [eqP, Bool.and_eq_true, decide_eq_true_eq, h2]⟩
  | case3 a xs b ys ih =>
    obtain ⟨t, h1, h2⟩ := ih h
    exact ⟨decide (a = b) && t, by simp [leavesEq, leafV, h1], by simp only [eqP, Bool.and_eq_true, decide_eq_true_eq, h2]⟩
  | case4 a xs b ys ih =>
    obtain ⟨t, h1, h2⟩ := ih h
    exact ⟨decide (a = b) && t, by simp [leavesEq, leafV, h1], by simp only [eqP, Bool.and_eq_true, decide_eq_true_eq, h2]⟩
  | case5 => cases h

theorem leavesV_app : ∀ {a b c d : List Value} {r : Bool}, a.length = c.length → leavesV (a ++ b) (c ++ d) = some r → ∃ p q, leavesV a c = some p ∧ leavesV b d = some q ∧ r = (p && q)
  | [], b, [], d, r, _, h => ⟨true, r, rfl, h, by simp⟩
  | x :: a, b, y :: c, d, r, hl, h => by
    simp only [List.cons_append, leavesV] at h
    split at h
    · rename_i u v h1 h2
      simp only [Option.some.injEq] at h; subst h
      obtain ⟨p, q, q1, q2, q3⟩ := leavesV_app (by simpa using hl) h2
      exact ⟨u && p, q, by simp only [leavesV, h1, q1], q2, by rw [q3, Bool.and_assoc]⟩
    · cases h
  | [], _, _ :: _, _, _, hl, _ => by simp at hl
  | _ :: _, _, [], _, _, hl, _ => by simp at hl

/-- Types that are compared leaf by leaf. -/
def eqOk (P : Program) : Nat → TypeId → Bool
  | 0, _ => false
  | n + 1, t => match P.underlying t with
    | some .bool => P.cellsOf t == 1
    | some (.int _) => P.cellsOf t == 1
    | some .string => P.cellsOf t == 1
    | some (.struct fs) => !P.stoodInHeld t && !P.eqGuardType P.depth t && (fs.toList.all fun f => f.name != "_" && eqOk P n f.type && (P.info? f.type).isSome) && P.cellsOf t == (fs.toList.map fun f => P.cellsOf f.type).sum &&
      (List.range fs.toList.length).all fun j => match fs.toList[j]? with | some f => f.offset == ((fs.toList.take j).map fun f => P.cellsOf f.type).sum | none => true
    | _ => false

theorem cells_agg {xs : Array Value} : (Value.agg xs).cells = xs := rfl

section
variable {P : Program}
def isAggT (P : Program) (t : TypeId) : Bool := match P.underlying t with
  | some (.struct _) => true
  | _ => false
/-- A value of a type that is compared leaf by leaf. -/
def Shp (P : Program) (t : TypeId) (x : Value) : Prop := x.cells.size = P.cellsOf t ∧ (isAggT P t = true ↔ ∃ cs, x = .agg cs)

theorem part_run {n : Nat} {t : TypeId} (hd : eqOk P n t = true) (hi : (P.info? t).isSome = true) {cs : Array Value} {off : Nat} (hsz : off + P.cellsOf t ≤ cs.size) (w : World) (hno : ∀ (i : Nat) v, cs[i]? = some v → ∀ us, v ≠ .agg us) :
    ∃ x, (part t cs off).run P w = .ok x w ∧ Shp P t x ∧ x.cells.toList = (cs.toList.drop off).take (P.cellsOf t) := by
  cases n with
  | zero => simp [eqOk] at hd
  | succ n =>
    unfold eqOk at hd
    have hsc : ∀ d, P.underlying t = some d → aggB d = false → P.cellsOf t = 1 → isAggT P t = false → ∃ x, (part t cs off).run P w = .ok x w ∧ Shp P t x ∧ x.cells.toList = (cs.toList.drop off).take (P.cellsOf t) := fun d hu ha h1 hna => by
      have hlt : off < cs.size := by omega
      have hx : cs[off]? = some cs[off] := Array.getElem?_eq_getElem hlt
      have hnotagg := hno off _ hx
      have hcell : cs[off].cells = #[cs[off]] := by
        generalize cs[off] = v at hnotagg
        cases v <;> first | rfl | exact absurd rfl (hnotagg _)
      refine ⟨cs[off], ?_, ⟨by rw [hcell, h1]; rfl, ?_⟩, ?_⟩
      · unfold part
        simp only [Sem.run_bind, isAgg_run hu, ha, Result.andThen_ok, Bool.false_eq_true, if_false, hx, Sem.run_pure]
      · rw [hna]
        exact ⟨fun h => (by cases h), fun ⟨us, h⟩ => absurd h (hnotagg us)⟩
      · rw [hcell, h1]
        rw [List.drop_eq_getElem_cons (by simpa using hlt)]
        simp
    split at hd
    · rename_i hu; exact hsc _ hu rfl (by simpa using hd) (by simp [isAggT, hu])
    · rename_i k hu; exact hsc _ hu rfl (by simpa using hd) (by simp [isAggT, hu])
    · rename_i hu; exact hsc _ hu rfl (by simpa using hd) (by simp [isAggT, hu])
    · rename_i fs hu
      have he : (sizeOf t).run P w = .ok (P.cellsOf t) w := by
        obtain ⟨inf, hinf⟩ := Option.isSome_iff_exists.1 hi
        rw [sizeOf_run hinf]
        simp [Program.cellsOf, hinf]
      refine ⟨.agg (cs.extract off (off + P.cellsOf t)), ?_, ⟨?_, ?_⟩, ?_⟩
      · unfold part
        simp only [Sem.run_bind, isAgg_run hu, aggB, Result.andThen_ok, if_true, he, Sem.run_pure]
      · simp [cells_agg]; omega
      · simp [isAggT, hu]
      · simp [cells_agg, List.extract_eq_take_drop]
    · cases hd

def noAgg (l : List Value) : Prop := ∀ v ∈ l, ∀ us, v ≠ .agg us
theorem leavesV_noAgg : ∀ {xs ys : List Value} {r : Bool}, leavesV xs ys = some r → noAgg xs ∧ noAgg ys ∧ xs.length = ys.length
  | [], [], _, _ => ⟨fun v h => (by cases h), fun v h => (by cases h), rfl⟩
  | x :: xs, y :: ys, r, h => by
    simp only [leavesV] at h
    split at h
    · rename_i a b h1 h2
      obtain ⟨q1, q2, q3⟩ := leavesV_noAgg h2
      have hx : ∀ us, x ≠ .agg us := fun us e => by subst e; cases y <;> simp [leafV] at h1
      have hy : ∀ us, y ≠ .agg us := fun us e => by subst e; cases x <;> simp [leafV] at h1
      refine ⟨fun v hv => ?_, fun v hv => ?_, by simp [q3]⟩
      · rcases List.mem_cons.1 hv with rfl | hv
        · exact hx
        · exact q1 v hv
      · rcases List.mem_cons.1 hv with rfl | hv
        · exact hy
        · exact q2 v hv
    · cases h
  | [], _ :: _, _, h => by simp [leavesV] at h
  | _ :: _, [], _, h => by simp [leavesV] at h
/-- Does a leaf's kind fit a leaf's type? -/
def kindOkV (P : Program) (t : TypeId) (x : Value) : Bool := match P.underlying t, x with
  | some .bool, .bool _ => true
  | some (.int _), .int _ _ => true
  | some .string, .string _ => true
  | _, _ => false
theorem leaf_run {d : Nat} {t : TypeId} {x y : Value} {r : Bool} (hl : leafV x y = some r) (w : World) (hty : kindOkV P t x = true) : (Op.equalIn (d + 1) t x y).run P w = .ok r w := by
  cases x with
  | int k a =>
    cases y with
    | int k' b =>
      simp only [leafV] at hl
      split at hl
      · rename_i e; subst e
        simp only [Option.some.injEq] at hl; subst hl
        unfold kindOkV at hty
        split at hty
        · rename_i e; cases e
        · rename_i kk hu _; exact run_equalIn_int w d t _ _ _ _ hu
        · rename_i e; cases e
        · cases hty
      · cases hl
    | _ => simp [leafV] at hl
  | bool a =>
    cases y with
    | bool b =>
      simp only [leafV, Option.some.injEq] at hl; subst hl
      unfold kindOkV at hty
      split at hty
      · rename_i hu _; exact run_equalIn_bool' w d t _ _ hu
      · rename_i e; cases e
      · rename_i e; cases e
      · cases hty
    | _ => simp [leafV] at hl
  | string a =>
    cases y with
    | string b =>
      simp only [leafV, Option.some.injEq] at hl; subst hl
      unfold kindOkV at hty
      split at hty
      · rename_i e; cases e
      · rename_i e; cases e
      · rename_i hu _
        rw [run_equalIn_string w d t _ _ hu, ByteArray.toList_eq, ByteArray.toList_eq, bytes_ext]
      · cases hty
    | _ => simp [leafV] at hl
  | _ => cases y <;> simp [leafV] at hl
/-- The types of a value's leaves. -/
def leafTs (P : Program) : Nat → TypeId → List TypeId
  | 0, _ => []
  | n + 1, t => match P.underlying t with
    | some (.struct fs) => fs.toList.flatMap fun f => leafTs P n f.type
    | _ => [t]
def kindsOkV (P : Program) : List TypeId → List Value → Bool
  | [], [] => true
  | t :: ts, x :: xs => kindOkV P t x && kindsOkV P ts xs
  | _, _ => false
theorem kindsOkV_app : ∀ {ts us : List TypeId} {xs ys : List Value}, ts.length = xs.length → kindsOkV P (ts ++ us) (xs ++ ys) = true → kindsOkV P ts xs = true ∧ kindsOkV P us ys = true
  | [], us, [], ys, _, h => ⟨rfl, h⟩
  | t :: ts, us, x :: xs, ys, hl, h => by
    simp only [List.cons_append, kindsOkV, Bool.and_eq_true] at h
    obtain ⟨q1, q2⟩ := kindsOkV_app (by simpa using hl) h.2
    exact ⟨by simp only [kindsOkV, h.1, q1, Bool.and_self], q2⟩
  | [], _, _ :: _, _, hl, _ => by simp at hl
  | _ :: _, _, [], _, hl, _ => by simp at hl

theorem leafTs_len : ∀ {n : Nat} {t : TypeId}, eqOk P n t = true → (leafTs P n t).length = P.cellsOf t
  | 0, t, h => by simp [eqOk] at h
  | n + 1, t, h => by
    unfold eqOk at h
    unfold leafTs
    split at h
    · rename_i hu; simp only [hu, List.length_singleton]; have := eq_of_beq h; omega
    · rename_i hu; simp only [hu, List.length_singleton]; have := eq_of_beq h; omega
    · rename_i hu; simp only [hu, List.length_singleton]; have := eq_of_beq h; omega
    · rename_i fs hu
      simp only [hu]
      simp only [Bool.and_eq_true, List.all_eq_true, beq_iff_eq] at h
      obtain ⟨⟨⟨_, hall⟩, hsum⟩, _⟩ := h
      rw [hsum, List.length_flatMap]
      congr 1
      refine List.map_congr_left fun f hf => leafTs_len (hall f hf).1.2
    · cases h

theorem equalIn_run : ∀ (n d : Nat) (t : TypeId) (x y : Value) (r : Bool) (w : World), n ≤ d → eqOk P n t = true → Shp P t x → Shp P t y → kindsOkV P (leafTs P n t) x.cells.toList = true → leavesV x.cells.toList y.cells.toList = some r →
    (Op.equalIn d t x y).run P w = .ok r w := by
  intro n
  induction n with
  | zero => intro d t x y r w _ h; simp [eqOk] at h
  | succ n ih =>
    intro d t x y r w hd hok hx hy hk hl
    obtain ⟨d, rfl⟩ : ∃ e, d = e + 1 := ⟨d - 1, by omega⟩
    have hok' := hok
    unfold eqOk at hok
    unfold leafTs at hk
    have hscal : isAggT P t = false → (∀ fs, P.underlying t ≠ some (.struct fs)) → P.cellsOf t = 1 → leafTs P (n + 1) t = [t] → (Op.equalIn (d + 1) t x y).run P w = .ok r w := fun hna hns h1 hlt => by
      have one : ∀ z, Shp P t z → z.cells.toList = [z] := fun z hz => by
        have : ∀ cs, z ≠ .agg cs := fun cs e => by
          have := hz.2.2 ⟨cs, e⟩
          rw [hna] at this; cases this
        cases z <;> first | rfl | exact absurd rfl (this _)
      rw [one x hx, one y hy] at hl
      simp only [leavesV] at hl
      split at hl
      · rename_i a b h2 h3
        simp only [Option.some.injEq] at h3 hl
        subst h3; subst hl
        have hk2 : kindsOkV P [t] [x] = true := by
          have := hk
          rw [one x hx] at this
          unfold leafTs at hlt
          rw [hlt] at this
          exact this
        simp only [kindsOkV, Bool.and_true] at hk2
        exact leaf_run (by rw [h2]; simp) w hk2
      · cases hl
    split at hok
    · rename_i hu; exact hscal (by simp [isAggT, hu]) (fun fs e => by rw [hu] at e; cases e) (eq_of_beq hok) (by simp [leafTs, hu])
    · rename_i hu; exact hscal (by simp [isAggT, hu]) (fun fs e => by rw [hu] at e; cases e) (eq_of_beq hok) (by simp [leafTs, hu])
    · rename_i hu; exact hscal (by simp [isAggT, hu]) (fun fs e => by rw [hu] at e; cases e) (eq_of_beq hok) (by simp [leafTs, hu])
    · rename_i fs hu
      obtain ⟨xs, rfl⟩ := hx.2.1 (by simp [isAggT, hu])
      obtain ⟨ys, rfl⟩ := hy.2.1 (by simp [isAggT, hu])
      simp only [hu] at hk
      simp only [Bool.and_eq_true, List.all_eq_true, beq_iff_eq, List.mem_range, Bool.not_eq_true', bne_iff_ne] at hok
      obtain ⟨⟨⟨⟨hst, hgu⟩, hall⟩, hsum⟩, hoff⟩ := hok
      have hfo : P.fieldsOf t = fs := by simp [Program.fieldsOf, hu]
      rw [run_equalIn_struct w d t xs ys (by rw [hfo]; exact hu) hst, hfo]
      obtain ⟨hn1, hn2, hlen⟩ := leavesV_noAgg hl
      have hxs : xs.size = P.cellsOf t := hx.1
      have hys : ys.size = P.cellsOf t := hy.1
      simp only [cells_agg] at hk hl hn1 hn2
      -- over what is left of the fields
      have key : ∀ (k : Nat) (r : Bool), k ≤ fs.toList.length → leavesV (xs.toList.drop (((fs.toList.take k).map fun f => P.cellsOf f.type).sum)) (ys.toList.drop (((fs.toList.take k).map fun f => P.cellsOf f.type).sum)) = some r →
          kindsOkV P ((fs.toList.drop k).flatMap fun f => leafTs P n f.type) (xs.toList.drop (((fs.toList.take k).map fun f => P.cellsOf f.type).sum)) = true → (Op.eqFields d xs ys (fs.toList.drop k)).run P w = .ok r w := by
        intro k
        induction hm : fs.toList.length - k generalizing k with
        | zero =>
          intro r hkl h1 h2
          have : k = fs.toList.length := by omega
          subst this
          rw [List.take_length, ← hsum] at h1
          rw [List.drop_length]
          rw [List.drop_eq_nil_of_le (by simp [hxs]), List.drop_eq_nil_of_le (by simp [hys])] at h1
          simp only [leavesV, Option.some.injEq] at h1
          subst h1
          simp [Op.eqFields]
        | succ m ihm =>
          intro r hkl h1 h2
          have hlt : k < fs.toList.length := by omega
          have hf := List.getElem?_eq_getElem hlt
          generalize hfe : fs.toList[k] = f at hf
          have hmem : f ∈ fs.toList := hfe ▸ List.getElem_mem hlt
          obtain ⟨⟨hname, hfok⟩, hinf⟩ := hall f hmem
          have ho := hoff k hlt
          rw [hf] at ho
          simp only [beq_iff_eq] at ho
          have hdk : fs.toList.drop k = f :: fs.toList.drop (k + 1) := by rw [List.drop_eq_getElem_cons hlt, hfe]
          have htk : ((fs.toList.take (k + 1)).map fun f => P.cellsOf f.type).sum = ((fs.toList.take k).map fun f => P.cellsOf f.type).sum + P.cellsOf f.type := by
            rw [List.take_add_one, hf, List.map_append, List.sum_append]; simp
          have hle : ((fs.toList.take (k + 1)).map fun f => P.cellsOf f.type).sum ≤ P.cellsOf t := by
            rw [hsum]
            conv => rhs; rw [← List.take_append_drop (k + 1) fs.toList, List.map_append, List.sum_append]
            omega
          rw [← ho] at h1 h2
          rw [htk, ← ho] at hle
          have hcut : ∀ l : List Value, l.drop f.offset = (l.drop f.offset).take (P.cellsOf f.type) ++ l.drop (f.offset + P.cellsOf f.type) := fun l => by
            rw [← List.drop_drop, List.take_append_drop]
          rw [hcut xs.toList, hcut ys.toList] at h1
          obtain ⟨p, q, e1, e2, e3⟩ := leavesV_app (by simp only [List.length_take, List.length_drop, Array.length_toList]; omega) h1
          rw [hdk, List.flatMap_cons, hcut xs.toList] at h2
          obtain ⟨k1, k2⟩ := kindsOkV_app (by rw [leafTs_len hfok]; simp only [List.length_take, List.length_drop, Array.length_toList]; omega) h2
          have hna : ∀ (zs : Array Value), noAgg zs.toList → ∀ (i : Nat) v, zs[i]? = some v → ∀ us, v ≠ .agg us := fun zs hz i v hv => hz v (List.mem_of_getElem? (i := i) (by simpa using hv))
          obtain ⟨px, hp1, hp2, hp3⟩ := part_run (w := w) hfok hinf (cs := xs) (off := f.offset) (by omega) (hna xs hn1)
          obtain ⟨py, hq1, hq2, hq3⟩ := part_run (w := w) hfok hinf (cs := ys) (off := f.offset) (by omega) (hna ys hn2)
          have hrun := ih d f.type px py p w (by omega) hfok hp2 hq2 (by rw [hp3]; exact k1) (by rw [hp3, hq3]; exact e1)
          rw [hdk]
          unfold Op.eqFields
          rw [if_pos hname]
          simp only [Sem.run_bind, hp1, Result.andThen_ok, hq1, hrun]
          subst e3
          cases p with
          | false => simp
          | true =>
            simp only [Bool.not_true, Bool.false_eq_true, if_false, Bool.true_and]
            exact ihm (k + 1) (by omega) q (by omega) (by rw [htk, ← ho]; exact e2) (by rw [htk, ← ho]; exact k2)
      have := key 0 r (Nat.zero_le _) (by simpa using hl) (by simpa using hk)
      simpa using this
    · cases hok

/-- A leaf's kind, by number. -/
def lkT (P : Program) (t : TypeId) : Nat := match P.underlying t with
  | some .bool => 0
  | some (.int _) => 1
  | some .string => 2
  | _ => 3
end
def ksOk : List Nat → List AV → Bool
  | [], [] => true
  | 0 :: ks, .sc (.bool _) :: l => ksOk ks l
  | 1 :: ks, .sc (.int _ _) :: l => ksOk ks l
  | 2 :: ks, .sc (.string _) :: l => ksOk ks l
  | _, _ => false
def shpOk (ag : Bool) (ks : List Nat) : AV → Bool
  | .agg cs => match ag with
    | true => ksOk ks cs
    | false => false
  | .sc v => match ag with
    | true => false
    | false => ksOk ks [.sc v]
  | _ => false
theorem ksOk_kinds {P : Program} : ∀ {ts : List TypeId} {cs : List AV}, ksOk (ts.map (lkT P)) cs = true → ∃ vs : List Value, cs = vs.map AV.sc ∧ kindsOkV P ts vs = true
  | [], [], _ => ⟨[], rfl, rfl⟩
  | t :: ts, c :: cs, h => by
    have key : ∃ v, c = .sc v ∧ kindOkV P t v = true ∧ ksOk (ts.map (lkT P)) cs = true := by
      simp only [List.map_cons] at h
      unfold ksOk at h
      split at h
      · rename_i e _; simp at e
      · rename_i ks b l e1 e2
        simp only [List.cons.injEq] at e1 e2
        obtain ⟨e1, rfl⟩ := e1; obtain ⟨rfl, rfl⟩ := e2
        refine ⟨_, rfl, ?_, h⟩
        unfold lkT at e1
        split at e1 <;> first | (cases e1; done) | (rename_i hu; simp [kindOkV, hu])
      · rename_i ks k b l e1 e2
        simp only [List.cons.injEq] at e1 e2
        obtain ⟨e1, rfl⟩ := e1; obtain ⟨rfl, rfl⟩ := e2
        refine ⟨_, rfl, ?_, h⟩
        unfold lkT at e1
        split at e1 <;> first | (cases e1; done) | (rename_i hu; simp [kindOkV, hu])
      · rename_i ks b l e1 e2
        simp only [List.cons.injEq] at e1 e2
        obtain ⟨e1, rfl⟩ := e1; obtain ⟨rfl, rfl⟩ := e2
        refine ⟨_, rfl, ?_, h⟩
        unfold lkT at e1
        split at e1 <;> first | (cases e1; done) | (rename_i hu; simp [kindOkV, hu])
      · cases h
    obtain ⟨v, rfl, h1, h2⟩ := key
    obtain ⟨vs, rfl, h3⟩ := ksOk_kinds h2
    exact ⟨v :: vs, rfl, by simp only [kindsOkV, h1, h3, Bool.and_self]⟩
  | [], _ :: _, h => by simp [ksOk] at h
  | t :: ts, [], h => by
    simp only [List.map_cons] at h
    unfold ksOk at h
    split at h <;> simp_all
theorem leavesEq_sc : ∀ (xs ys : List Value), leavesEq (xs.map AV.sc) (ys.map AV.sc) = leavesV xs ys
  | [], [] => rfl
  | x :: xs, y :: ys => by simp only [List.map_cons, leavesEq, leavesV, leavesEq_sc xs ys]
  | [], _ :: _ => rfl
  | _ :: _, [] => rfl
/-- What '==' of two values of such a type gives. -/
theorem eq_run {P : Program} {n : Nat} {T : TypeId} {x y : Value} {r : Bool} (hok : eqOk P n T = true) (hn : n ≤ 10000) (hx : Shp P T x) (hy : Shp P T y) (hk : kindsOkV P (leafTs P n T) x.cells.toList = true) (hl : leavesV x.cells.toList y.cells.toList = some r)
    (hna : P.eqGuardType P.depth T = false ∨ isAggT P T = false) (neg : Bool) (X Y : Operand) (w : World) (hnsc : isAggT P T = true ∨ ∃ a b, x = .bool a ∧ y = .bool b) :
    (do eqGuard (if neg then .neq else .eql) T X Y x y; binOp (if neg then .neq else .eql) T x y : Sem Value).run P w = .ok (.bool (if neg then !r else r)) w := by
  have h1 := equalIn_run n 10000 T x y r w hn hok hx hy hk hl
  rcases hnsc with ha | ⟨a, b, rfl, rfl⟩
  · obtain ⟨xs, rfl⟩ := hx.2.1 ha
    obtain ⟨ys, rfl⟩ := hy.2.1 ha
    have hg : P.eqGuardType P.depth T = false := by
      rcases hna with h | h
      · exact h
      · rw [ha] at h; cases h
    cases neg with
    | true =>
      simp only [if_true, Sem.run_bind, run_eqGuard_agg w _ T X Y xs ys hg, Result.andThen_ok, run_neq_struct, h1]
    | false =>
      simp only [Bool.false_eq_true, if_false, Sem.run_bind, run_eqGuard_agg w _ T X Y xs ys hg, Result.andThen_ok, run_eql_struct, h1]
  · have hg : ∀ op, (eqGuard op T X Y (.bool a) (.bool b)).run P w = .ok () w := fun op => by unfold eqGuard; cases op <;> rfl
    have h2 : (Op.equal T (.bool a) (.bool b)).run P w = .ok r w := h1
    cases neg with
    | true => simp only [if_true, Sem.run_bind, hg, Result.andThen_ok, binOp, h2, Sem.run_pure]
    | false => simp only [Bool.false_eq_true, if_false, Sem.run_bind, hg, Result.andThen_ok, binOp, h2, Sem.run_pure]
end Go.Ab
end
section
/- The abstract layer, part Va: codes whose tables are resolved, and how they run over abstract states: what is symbolic is asked of an oracle. -/
namespace Go.Ab
open Go.RowKit

inductive Opd where
  | t (n : Nat)
  | c (a : AV)
  | g (i : Nat)
  | f (i : Nat)

/-- One operation, its tables resolved. -/
inductive RI where
  | mv (x : Opd)
  | asg (x : Opd) (sz : Option Nat)
  | pick (c x y : Opd)
  | bin (op : BinOp) (x y : Opd)
  | not (x : Opd)
  | cv (k : IntKind) (x : Opd)
  | ixS (x i : Opd)
  | lnS (x : Opd)
  | lnL (x : Opd)
  | ld (ag : Bool) (n : Nat) (p : Opd)
  | nilC (x : Opd)
  | fa (off : Nat) (x : Opd)
  | fld (ag : Bool) (off n : Nat) (x : Opd)
  | ia (sz : Nat) (x i : Opd)
  | iaA (n sz : Nat) (x i : Opd)
  | slc (n : Nat) (x : Opd) (lo hi mx : Option Opd)
  | ext (x : Opd) (i : Nat)
  | mkf (f : Nat) (first cap : List Opd)
  | bs (x : Opd)
  | al (hs : List (Option Nat)) (vs : List AV)
  | box (hs : List (Option Nat)) (x : Opd)
  | bld (ps : List ((Nat × Nat) × Opd)) (z : List AV)
  | bsl (sz : Nat) (hs : List (Option Nat)) (ps : List Opd)
  | mks (sz by' : Nat) (u : AV) (l c : Opd)
  | st (n : Nat) (hs : List (Option Nat)) (p x : Opd)
  | sb (x : Opd)
  | app (sz by' : Nat) (s x : Opd)
  | ixA (n : Nat) (x i : Opd)
  | slcA (n : Nat) (x : Opd) (lo hi : Option Opd)
  | eqT (neg ag : Bool) (ks : List Nat) (x y : Opd)
  | rngS (x : Opd)
  | nxtS (x : Opd)
  | call (f : Opd) (args : List Opd) (hss : List (List (Option Nat)))

structure RO where
  d : Option Nat
  g : Option (Nat × Bool)
  i : RI

inductive RC where
  | skip
  | reg (keep : Option (List Nat)) (ops : List RO)
  | drw (keep : Option (List Nat)) (ops : List RO)
  | seq (x y : RC)
  | cond (c : Opd) (x y : RC)
  | block (id : Nat) (x : RC)
  | loop (x : RC)
  | rfun (f : Opd) (ps : List Nat) (a b : RC)
  | exit (id : Nat)
  | goto (id : Nat)
  | ret
  | raw (c : Code)

/-- What is asked. -/
inductive Ask where
  | ar (op : BinOp) (k : IntKind) (a b : Int)
  | sh (op : BinOp) (k : IntKind) (a : Int) (k' : IntKind) (b : Int)
  | cmp (op : BinOp) (k : IntKind) (a b : Int)
  | cv (k : IntKind) (n : Int)
  | scat (a b : ByteArray)
  | scmp (op : BinOp) (a b : ByteArray)
  | eqs (xs ys : List AV)
  | slen (s : ByteArray)
  | six (s : ByteArray) (i : Int)
  | len (l : List AV)
  | idx (l : List AV) (i : Int)
  | pos (l : List AV) (i : Int)
  | nth (l : List AV) (i : Nat)
  | arr (n : Nat) (i : Int)
  | drop (l : List AV) (n : Nat)
  | sub (l : List AV) (lo hi mx : Option Int)
  | pop (l : List AV) (hi : Int)
  | upd (l : List AV) (i off : Nat) (us : List AV)
  | app (by' : Nat) (l m : List AV)
  | ne (l : List AV)
  | make (by' : Nat) (u : AV) (l c : Int)
  | tobytes (s : ByteArray)
  | tostr (l : List AV)
  | call (f : Nat) (st : ASt)
  | yld (l : Nat) (vs : List AV) (d : Option Nat) (K : ASt → Prop) (st : ASt)
  | loop (B : (Exit → ASt → Prop) → ASt → Prop) (Q : Exit → ASt → Prop) (st : ASt)
  | rfun (f : AV) (ps : List Nat) (a b : RC) (Q : Exit → ASt → Prop) (st : ASt)
  | raw (c : Code) (Q : Exit → ASt → Prop) (st : ASt)
  | free
  | newo
  | obj (ls : List (Nat × Obj)) (lp : Nat)
  | nxt (s : ByteArray) (pos : Nat)
  | bad (n : Nat) (x : RI)

inductive Ans where
  | i (n : Int)
  | b (b : Bool)
  | s (s : ByteArray)
  | a (v : AV)
  | l (l : List AV)
  | n (n : Nat)
  | e (e : AEnd) (st : ASt)
  | p (c : Int) (w : Nat)

def ASt.evO (gl : List (Nat × List AV)) (st : ASt) : Opd → Option AV
  | .t n => get st.s n
  | .c a => some a
  | .g i => (get gl i).map .rp
  | .f i => some (.fn (.func i) [] [])
def evOL (gl : List (Nat × List AV)) (st : ASt) : List Opd → Option (List AV)
  | [] => some []
  | x :: l => match st.evO gl x, evOL gl st l with
    | some v, some vs => some (v :: vs)
    | _, _ => none

/-- The first n of a list, of which more is not known. -/
def takeN : Nat → List AV → Option (List AV)
  | 0, _ => some []
  | n + 1, a :: l => match takeN n l with
    | some r => some (a :: r)
    | none => none
  | _ + 1, [] => none
def dropN : Nat → List AV → Option (List AV)
  | 0, l => some l
  | n + 1, _ :: l => dropN n l
  | _ + 1, [] => none

inductive OpC where
  | cmp | ar | sh
def opC : BinOp → OpC
  | .eql | .neq | .lss | .leq | .gtr | .geq => .cmp
  | .shl | .shr => .sh
  | _ => .ar

def convH : List (List (Option Nat)) → List AV → List AV
  | _, [] => []
  | hs :: hss, v :: vs => argA hs v :: convH hss vs
  | [], vs => vs

/-- Value of an integer operand. -/
def intO : Option AV → Option Int
  | some (.sc (.int _ i)) => some i
  | _ => none
def intOO (gl : List (Nat × List AV)) (st : ASt) : Option Opd → Option (Option Int)
  | none => some none
  | some x => match intO (st.evO gl x) with
    | some i => some (some i)
    | none => none

section
variable (o : Ask → (Ans → Prop) → Prop) (gl : List (Nat × List AV))

/-- The question, its words reckoned first. -/
def ask (q : Ask) (K : Ans → Prop) : Prop := o q K
def fin (R : AEnd → ASt → Prop) (e : AEnd) (st : ASt) : Prop := R e st
def stk (n : Nat) (x : RI) : Prop := ask o (.bad n x) fun _ => False

def vBin (x0 : RI) (op : BinOp) : Option AV → Option AV → (AV → Prop) → Prop
  | some (.sc (.int k a)), some (.sc (.int k' b)), K => match opC op with
    | .cmp => if k = k' then ask o (.cmp op k a b) (fun | .b t => K (.sc (.bool t)) | _ => False) else stk o 1 x0
    | .ar => if k = k' then ask o (.ar op k a b) (fun | .i t => K (.sc (.int k t)) | _ => False) else stk o 2 x0
    | .sh => ask o (.sh op k a k' b) (fun | .i t => K (.sc (.int k t)) | _ => False)
  | some (.sc (.string a)), some (.sc (.string b)), K => match op with
    | .add => ask o (.scat a b) (fun | .s t => K (.sc (.string t)) | _ => False)
    | op => ask o (.scmp op a b) (fun | .b t => K (.sc (.bool t)) | _ => False)
  | _, _, _ => stk o 3 x0

/-- n cells from a pointer on. -/
def vRange (x0 : RI) (st : ASt) (n : Nat) : Option AV → (List AV → Prop) → Prop
  | some (.bp b off), K => match st.b[b]? with
    | some cs => match dropN off cs with
      | some cs => match takeN n cs with
        | some cs => K (ldCells b off cs)
        | none => stk o 10 x0
      | none => stk o 11 x0
    | none => stk o 12 x0
  | some (.rp cs), K => match takeN n cs with
    | some cs => K cs
    | none => stk o 13 x0
  | some (.ep k i sz off), K => match get st.r k with
    | some (sz', l) => ask o (.nth l i) fun
      | .a e => if sz' = sz ∧ off + n ≤ sz then K ((e.cells.drop off).take n) else stk o 14 x0
      | _ => False
    | none => stk o 15 x0
  | some (.ec b j i sz off), K => match st.cellAt b j with
    | some (.ow sz' l) => ask o (.nth l i) fun
      | .a e => if sz' = sz ∧ off + n ≤ sz then K ((e.cells.drop off).take n) else stk o 16 x0
      | _ => False
    | _ => stk o 17 x0
  | _, _ => stk o 18 x0

def vSlice (x0 : RI) (n : Nat) (lo hi mx : Option (Option Int)) : Option AV → (AV → Prop) → Prop
  | some (.sl sz l), K => if sz = n then match lo, hi, mx with
      | some lo, some hi, some none => ask o (.sub l lo hi none) (fun | .l l => K (.sl sz l) | _ => False)
      | some lo, some hi, some (some m) => ask o (.sub l lo hi (some m)) (fun | .l l => K (.slx sz l) | _ => False)
      | _, _, _ => stk o 20 x0
    else stk o 21 x0
  | some (.slx sz l), K => if sz = n then match lo, hi, mx with
      | some lo, some hi, some none => ask o (.sub l lo hi none) (fun | .l l => K (.sl sz l) | _ => False)
      | some lo, some hi, some (some m) => ask o (.sub l lo hi (some m)) (fun | .l l => K (.slx sz l) | _ => False)
      | _, _, _ => stk o 22 x0
    else stk o 23 x0
  | _, _ => stk o 24 x0

/-- What leaves the state alone. -/
def vP (st : ASt) (x0 : RI) (K : AV → Prop) : Prop := match x0 with
  | .mv x => match st.evO gl x with
    | some v => K v
    | none => stk o 30 x0
  | .asg x _ => match st.evO gl x with
    | some .nil => stk o 29 x0
    | some (.own _) => stk o 28 x0
    | some v => K v
    | none => stk o 27 x0
  | .pick c x y => match st.evO gl c with
    | some (.sc (.bool t)) => match t with
      | true => match st.evO gl x with
        | some v => K v
        | none => stk o 31 x0
      | false => match st.evO gl y with
        | some v => K v
        | none => stk o 32 x0
    | _ => stk o 33 x0
  | .bin op x y => vBin o x0 op (st.evO gl x) (st.evO gl y) K
  | .eqT neg ag ks x y => match st.evO gl x, st.evO gl y with
    | some u, some v => match shpOk ag ks u with
      | true => match shpOk ag ks v with
        | true => ask o (.eqs u.cells v.cells) fun
          | .b t => K (.sc (.bool (match neg with
            | true => match t with
              | true => false
              | false => true
            | false => t)))
          | _ => False
        | false => stk o 66 x0
      | false => stk o 67 x0
    | _, _ => stk o 68 x0
  | .not x => match st.evO gl x with
    | some (.sc (.bool b)) => match b with
      | true => K (.sc (.bool false))
      | false => K (.sc (.bool true))
    | _ => stk o 34 x0
  | .cv k x => match st.evO gl x with
    | some (.sc (.int _ n)) => ask o (.cv k n) (fun | .i t => K (.sc (.int k t)) | _ => False)
    | _ => stk o 35 x0
  | .ixS x i => match st.evO gl x, st.evO gl i with
    | some (.sc (.string s)), some (.sc (.int _ i)) => ask o (.six s i) (fun | .i t => K (.sc (.int .u8 t)) | _ => False)
    | _, _ => stk o 36 x0
  | .lnS x => match st.evO gl x with
    | some (.sc (.string s)) => ask o (.slen s) (fun | .i t => K (.sc (.int .i64 t)) | _ => False)
    | _ => stk o 37 x0
  | .lnL x => match st.evO gl x with
    | some v => match st.list v with
      | some l => ask o (.len l) (fun | .i t => K (.sc (.int .i64 t)) | _ => False)
      | none => stk o 38 x0
    | none => stk o 39 x0
  | .ld true n p => vRange o x0 st n (st.evO gl p) fun cs => K (.agg cs)
  | .ld false _ p => vRange o x0 st 1 (st.evO gl p) fun
    | [v] => K v
    | _ => stk o 40 x0
  | .nilC x => match st.evO gl x with
    | some (.bp b off) => K (.bp b off)
    | some (.rp cs) => K (.rp cs)
    | some (.ep k i sz off) => K (.ep k i sz off)
    | some (.ec b j i sz off) => K (.ec b j i sz off)
    | some (.fn (.func f) first cap) => K (.fn (.func f) first cap)
    | _ => stk o 41 x0
  | .fa off x => match st.evO gl x with
    | some (.bp b o) => K (.bp b (o + off))
    | some (.rp cs) => match dropN off cs with
      | some cs => K (.rp cs)
      | none => stk o 42 x0
    | some (.ep k i sz o) => K (.ep k i sz (o + off))
    | some (.ec b j i sz o) => K (.ec b j i sz (o + off))
    | _ => stk o 43 x0
  | .fld true off n x => match st.evO gl x with
    | some (.agg cs) => match dropN off cs with
      | some cs => match takeN n cs with
        | some cs => K (.agg cs)
        | none => stk o 44 x0
      | none => stk o 45 x0
    | _ => stk o 46 x0
  | .fld false off _ x => match st.evO gl x with
    | some (.agg cs) => match cs[off]? with
      | some v => K v
      | none => stk o 47 x0
    | _ => stk o 48 x0
  | .ia sz x i => match intO (st.evO gl i), st.evO gl x with
    | some i, some (.sl sz' l) => if sz' = sz then ask o (.idx l i) (fun | .a e => K (.rp e.cells) | _ => False) else stk o 50 x0
    | some i, some (.slx sz' l) => if sz' = sz then ask o (.idx l i) (fun | .a e => K (.rp e.cells) | _ => False) else stk o 51 x0
    | some i, some (.own k) => match get st.r k with
      | some (sz', l) => if sz' = sz then ask o (.pos l i) (fun | .n j => K (.ep k j sz 0) | _ => False) else stk o 52 x0
      | none => stk o 53 x0
    | some i, some (.ocl b j) => match st.cellAt b j with
      | some (.ow sz' l) => if sz' = sz then ask o (.pos l i) (fun | .n i => K (.ec b j i sz 0) | _ => False) else stk o 54 x0
      | _ => stk o 55 x0
    | _, _ => stk o 56 x0
  | .iaA n sz x i => match intO (st.evO gl i), st.evO gl x with
    | some i, some (.bp b off) => ask o (.arr n i) (fun | .n j => K (.bp b (off + j * sz)) | _ => False)
    | some i, some (.ep k m s off) => ask o (.arr n i) (fun | .n j => K (.ep k m s (off + j * sz)) | _ => False)
    | some i, some (.ec b c m s off) => ask o (.arr n i) (fun | .n j => K (.ec b c m s (off + j * sz)) | _ => False)
    | some i, some (.rp cs) => ask o (.arr n i) fun
      | .n j => ask o (.drop cs (j * sz)) (fun | .l l => K (.rp l) | _ => False)
      | _ => False
    | _, _ => stk o 57 x0
  | .ixA n x i => match intO (st.evO gl i), st.evO gl x with
    | some i, some (.agg cs) => ask o (.arr n i) fun
      | .n j => match cs[j]? with
        | some v => K v
        | none => stk o 64 x0
      | _ => False
    | _, _ => stk o 65 x0
  | .slc n x lo hi mx => vSlice o x0 n (intOO gl st lo) (intOO gl st hi) (intOO gl st mx) (st.evO gl x) K
  | .ext x i => match st.evO gl x with
    | some (.tup vs) => match vs[i]? with
      | some v => K v
      | none => stk o 58 x0
    | _ => stk o 59 x0
  | .mkf f first cap => match evOL gl st first, evOL gl st cap with
    | some fs, some cs => K (.fn (.func f) fs cs)
    | _, _ => stk o 60 x0
  | .bs x => match st.evO gl x with
    | some v => match st.list v with
      | some l => ask o (.tostr l) (fun | .s s => K (.sc (.string s)) | _ => False)
      | none => stk o 61 x0
    | none => stk o 62 x0
  | _ => stk o 63 x0

variable (pol : Pol) (nb : Nat)

def bldL (st : ASt) : List ((Nat × Nat) × Opd) → List AV → Option (List AV)
  | [], cs => some cs
  | ((off, n), x) :: ps, cs => match st.evO gl x with
    | some v => match st.leaves v with
      | some vs => if vs.length = n ∧ off + n ≤ cs.length then bldL st ps (splice cs off vs) else none
      | none => none
    | none => none
def elsL (st : ASt) (hs : List (Option Nat)) (sz : Nat) : List Opd → Option (List AV)
  | [] => some []
  | x :: ps => match st.evO gl x with
    | some v => match shEl hs v, elsL st hs sz ps with
      | some u, some us => if u.cells.length = sz then some (u :: us) else none
      | _, _ => none
    | none => none
def cellsO (st : ASt) (x : Opd) : List AV := match st.evO gl x with
  | some v => v.cells
  | none => []

def vCall2 (x0 : RI) (st st' : ASt) (fid fid' : Nat) (as : List AV) (rs : List (Nat × (Nat × List AV))) (ks : List Nat) (pass lend : Bool) (d : Option Nat) (K : ASt → Prop) (Q : Exit → ASt → Prop) : Prop :=
  if fid' = fid ∧ mbL as ≤ (if pass = true then st'.b else []).length ∧ (lend = true → ks.isEmpty = true) then
    ask o (.call fid (calleeSt st' as rs pass)) fun
      | .e ae st1 => callNext st st' ks pass lend d K Q ae st1
      | _ => False
  else stk o 101 x0
def vCall1 (x0 : RI) (st st' : ASt) (fid : Nat) (f : Opd) (args : List Opd) (hss : List (List (Option Nat))) (d : Option Nat) (K : ASt → Prop) (Q : Exit → ASt → Prop) : Prop :=
  match st'.evO gl f, evOL gl st' args with
  | some (.fn (.func fid') first' cap'), some vs1 =>
    match moveArgs st' (pol.mv fid) 0 (first' ++ convH hss vs1 ++ cap') with
    | some (as, rs, ks) => vCall2 o x0 st st' fid fid' as rs ks (!(pol.fl.contains fid) && (mbL as != 0 || pol.pa.contains fid)) (pol.fl.contains fid) d K Q
    | none => stk o 102 x0
  | _, _ => stk o 103 x0

/-- What turns the state. -/
def vE (st : ASt) (x0 : RI) (d : Option Nat) (K : ASt → Prop) (Q : Exit → ASt → Prop) : Prop := match x0 with
  | .asg x sz => match d with
    | some d => match st.evO gl x with
      | some .nil => match sz with
        | some sz => K ((st.newR d sz []).put d (.own d))
        | none => K (st.put d .nil)
      | some (.own k) => if k = d then K (st.put d (.own d)) else match get st.r k with
        | some (sz, l) => K ((st.ren k d sz l).put d (.own d))
        | none => stk o 70 x0
      | some v => K (st.put d v)
      | none => stk o 71 x0
    | none => stk o 72 x0
  | .al hs vs => match d with
    | some d => match (st.newB vs.length).adoptL st.b.length 0 hs vs with
      | some st' => K (st'.put d (.bp st.b.length 0))
      | none => stk o 73 x0
    | none => stk o 74 x0
  | .box hs x => match d, st.evO gl x with
    | some d, some v => match st.leaves v with
      | some vs => match (st.newB vs.length).adoptL st.b.length 0 hs vs with
        | some st' => K (st'.put d (.bp st.b.length 0))
        | none => stk o 75 x0
      | none => stk o 76 x0
    | _, _ => stk o 77 x0
  | .bld ps z => match d with
    | some d => match bldL gl st ps z with
      | some cs => K (st.put d (.agg cs))
      | none => stk o 78 x0
    | none => stk o 79 x0
  | .bsl sz hs ps => match d with
    | some d => match elsL gl (st.shareL (ps.flatMap (cellsO gl st))) hs sz ps with
      | some us => K (((st.shareL (ps.flatMap (cellsO gl st))).newR d sz us).put d (.own d))
      | none => stk o 80 x0
    | none => stk o 81 x0
  | .mks sz by' u l c => match d, intO (st.evO gl l), intO (st.evO gl c) with
    | some d, some l, some c => ask o (.make by' u l c) (fun | .l l => K ((st.newR d sz l).put d (.own d)) | _ => False)
    | _, _, _ => stk o 82 x0
  | .st n hs p x => match st.evO gl p with
    | some (.bp b off) => match st.evO gl x with
      | some v => match st.leaves v with
        | some vs => if vs.length = n then match st.storeL b off hs vs with
            | some st' => K (st'.putO d (.sc undef))
            | none => stk o 83 x0
          else stk o 84 x0
        | none => stk o 85 x0
      | none => stk o 86 x0
    | some (.ep k i sz off) => match (st.shareL (cellsO gl st x)).evO gl p, (st.shareL (cellsO gl st x)).evO gl x, get (st.shareL (cellsO gl st x)).r k with
      | some (.ep k' i' sz' off'), some v, some (sz2, l) => match shEl hs v with
        | some u => if k' = k ∧ i' = i ∧ sz' = sz ∧ off' = off ∧ sz2 = sz ∧ u.cells.length = n ∧ off + n ≤ sz then
            ask o (.upd l i off u.cells) (fun | .l l' => K (({ st.shareL (cellsO gl st x) with r := Ab.put (st.shareL (cellsO gl st x)).r k (sz, l') } : ASt).putO d (.sc undef)) | _ => False)
          else stk o 87 x0
        | none => stk o 88 x0
      | _, _, _ => stk o 89 x0
    | some (.ec b j i sz off) => match (st.shareL (cellsO gl st x)).evO gl p, (st.shareL (cellsO gl st x)).evO gl x, (st.shareL (cellsO gl st x)).cellAt b j with
      | some (.ec b' j' i' sz' off'), some v, some (.ow sz2 l) => match shEl hs v with
        | some u => if b' = b ∧ j' = j ∧ i' = i ∧ sz' = sz ∧ off' = off ∧ sz2 = sz ∧ u.cells.length = n ∧ off + n ≤ sz then
            ask o (.upd l i off u.cells) (fun | .l l' => K (((st.shareL (cellsO gl st x)).setC b j (.ow sz l')).putO d (.sc undef)) | _ => False)
          else stk o 90 x0
        | none => stk o 91 x0
      | _, _, _ => stk o 92 x0
    | _ => stk o 93 x0
  | .slc _ x lo hi mx => match d, st.evO gl x with
    | some d, some (.own k) => match get st.r k, pol.pop, lo, hi, mx with
      | some (sz, l), true, none, some h, none => match intO (st.evO gl h) with
        | some h => ask o (.pop l h) (fun | .l l' => K (((st.kill k).newR d sz l').put d (.own d)) | _ => False)
        | none => stk o 94 x0
      | _, _, _, _, _ => vP o gl (st.share k) x0 fun v => K ((st.share k).put d v)
    | some d, some (.ocl b j) => match st.cellAt b j, pol.pop, lo, hi, mx with
      | some (.ow sz l), true, none, some h, none => match intO (st.evO gl h) with
        | some h => ask o (.pop l h) (fun | .l l' => K (((st.deadC b j).newR d sz l').put d (.own d)) | _ => False)
        | none => stk o 95 x0
      | _, _, _, _, _ => vP o gl (st.shareC b j) x0 fun v => K ((st.shareC b j).put d v)
    | d, _ => vP o gl st x0 fun v => K (st.putO d v)
  | .slcA n x lo hi => match d, st.evO gl x, intOO gl st lo, intOO gl st hi with
    | some d, some (.bp b 0), some lo, some hi => match st.b[b]? with
      | some cs => if nb ≤ b ∧ cs.length = n ∧ (st.b.take b).all (fun cs => decide (mbL cs ≤ b)) = true then match shLeaves [] cs with
          | some us => ask o (.sub us lo hi none) fun
            | .l r => K (({ st with s := only (fun _ v => decide (v.mb ≤ b)) st.s, b := st.b.take b } : ASt).put d (.sl 1 r))
            | _ => False
          | none => stk o 66 x0
        else stk o 67 x0
      | none => stk o 68 x0
    | _, _, _, _ => stk o 69 x0
  | .rngS x => match d, st.evO gl x with
    | some d, some (.sc (.string s)) => ask o .newo fun
      | .n lp => K (({ st with l := st.l ++ [(lp, .stringIter s 0)] } : ASt).put d (.sc (.pointer (some ⟨lp, 0, none⟩))))
      | _ => False
    | _, _ => stk o 140 x0
  | .nxtS x => match d, st.evO gl x with
    | some d, some (.sc (.pointer (some ⟨lp, 0, none⟩))) => ask o (.obj st.l lp) fun
      | .n i => match st.l[i]? with
        | some (_, .stringIter s pos) => ask o (.nxt s pos) fun
          | .p c w => K (({ st with l := st.l.set i (lp, .stringIter s w) } : ASt).put d (.tup [.sc (.bool true), .sc (.int .i64 (Int.ofNat pos)), .sc (.int .i32 c)]))
          | .n _ => K (st.put d (.tup [.sc (.bool false)]))
          | _ => False
        | _ => stk o 141 x0
      | _ => False
    | _, _ => stk o 142 x0
  | .sb x => match d, st.evO gl x with
    | some d, some (.sc (.string s)) => ask o (.tobytes s) (fun | .l l => K (st.put d (.sl 1 l)) | _ => False)
    | _, _ => stk o 96 x0
  | .app sz by' s x => match d, st.evO gl s, st.evO gl x with
    | some d, some sv, some xv => match st.list sv, st.list xv with
      | some l, some l2 => if (st.szOf xv).getD sz = sz ∧ (st.szOf sv).getD sz = sz then
          match sv with
          | .nil => ask o (.app by' l l2) (fun | .l _ => K ((st.newR d sz l2).put d (.own d)) | _ => False)
          | .own k => ask o (.app by' l l2) (fun | .l l => K (((st.kill k).newR d sz l).put d (.own d)) | _ => False)
          | .ocl b j => ask o (.app by' l l2) (fun | .l l => K (((st.deadC b j).newR d sz l).put d (.own d)) | _ => False)
          | .slx _ _ => ask o (.ne l2) fun _ => ask o (.app by' l l2) (fun | .l l => K ((st.newR d sz l).put d (.own d)) | _ => False)
          | _ => stk o 97 x0
        else stk o 98 x0
      | _, _ => stk o 99 x0
    | _, _, _ => stk o 100 x0
  | .call f args hss => match st.evO gl f, evOL gl st args with
    | some (.fn (.func fid) first _), some vs0 => vCall1 o gl pol x0 st (st.shareL (keepL (pol.mv fid) first.length vs0)) fid f args hss d K Q
    | some (.fn (.yield l) [] []), some vs => ask o (.yld l vs d K st) fun _ => False
    | _, _ => stk o 104 x0
  | x0 => vP o gl st x0 fun v => K (st.putO d v)

def guardR (st : ASt) : Option (Nat × Bool) → Option Bool
  | none => some true
  | some (d, want) => guardV want (get st.s d)

def vOps (st : ASt) (Q : Exit → ASt → Prop) : List RO → Prop
  | [] => Q .normal st
  | r :: os => match guardR st r.g with
    | some true => vE o gl pol nb st r.i r.d (fun st => vOps st Q os) Q
    | some false => vOps (st.putO r.d (.sc undef)) Q os
    | none => stk o 110 r.i
/-- A region whose order is drawn: only what leaves the state alone. -/
def vDrw (st : ASt) (K : ASt → Prop) : List RO → Prop
  | [] => K st
  | r :: os => match guardR st r.g with
    | some true => vP o gl st r.i fun v => vDrw (st.putO r.d v) K os
    | some false => vDrw (st.putO r.d (.sc undef)) K os
    | none => stk o 111 r.i

def inL : List Nat → Nat → Bool
  | [], _ => false
  | a :: l, t => if t = a then true else inL l t
/-- Only these slots. -/
def ASt.keepS (st : ASt) : Option (List Nat) → ASt
  | none => st
  | some ts => { st with s := st.s.filter fun p => inL ts p.1 }

/-- What follows, once. -/
def seqQ (B : (Exit → ASt → Prop) → ASt → Prop) (Q : Exit → ASt → Prop) : Exit → ASt → Prop
  | .normal, st => B Q st
  | e, st => Q e st
def blockQ (id : Nat) (Q : Exit → ASt → Prop) : Exit → ASt → Prop
  | .exit id', st => if id' = id then Q .normal st else Q (.exit id') st
  | e, st => Q e st

def vC : RC → (Exit → ASt → Prop) → ASt → Prop
  | .skip, Q, st => Q .normal st
  | .reg k ops, Q, st => vOps o gl pol nb (st.keepS k) Q ops
  | .drw k ops, Q, st => ask o .free fun _ => vDrw o gl (st.keepS k) (Q .normal) ops
  | .seq x y, Q, st => vC x (seqQ (fun Q st => vC y Q st) Q) st
  | .cond c x y, Q, st => match st.evO gl c with
    | some (.sc (.bool b)) => match b with
      | true => vC x Q st
      | false => vC y Q st
    | _ => stk o 120 (.mv c)
  | .block id x, Q, st => vC x (blockQ id Q) st
  | .loop x, Q, st => ask o (.loop (fun Q st => vC x Q st) Q st) fun _ => False
  | .rfun f ps a b, Q, st => match st.evO gl f with
    | some v => ask o (.rfun v ps a b Q st) fun _ => False
    | none => stk o 121 (.mv f)
  | .exit id, Q, st => Q (.exit id) st
  | .goto id, Q, st => Q (.goto id) st
  | .ret, Q, st => Q .ret st
  | .raw c, Q, st => ask o (.raw c Q st) fun _ => False

/-- Results. -/
inductive RV where
  | t (n : Nat)
  | c (t : Nat) (ag : Bool) (n : Nat)
def vRes (st : ASt) : List RV → (List AV → Prop) → Prop
  | [], K => K []
  | .t n :: rs, K => match get st.s n with
    | some v => vRes st rs fun vs => K (v :: vs)
    | none => stk o 130 (.mv (.t n))
  | .c t true n :: rs, K => vRange o (.mv (.t t)) st n (get st.s t) fun cs => vRes st rs fun vs => K (.agg cs :: vs)
  | .c t false _ :: rs, K => vRange o (.mv (.t t)) st 1 (get st.s t) fun
    | [v] => vRes st rs fun vs => K (v :: vs)
    | _ => stk o 131 (.mv (.t t))
def ASt.dropL (st : ASt) (nl : Nat) : ASt := { st with l := st.l.take nl }
def vEnd (nl : Nat) (rs : List RV) (R : AEnd → ASt → Prop) : Exit → ASt → Prop
  | .normal, st => vRes o st rs fun vs => fin R .ret ((retSt nb st vs).dropL nl)
  | .ret, st => vRes o st rs fun vs => fin R .ret ((retSt nb st vs).dropL nl)
  | .panic [⟨p, false, false⟩], st => fin R (.panic p) (({ st with n := 0, s := [], r := [] } : ASt).dropL nl)
  | _, _ => stk o 132 (.mv (.t 0))
end

end Go.Ab
end
section
/- The abstract layer, part Vb: resolving codes; what the oracle's questions come to. -/
namespace Go.Ab
open Go.RowKit

def resO : Operand → Opd
  | .tmp t => .t t
  | .const v => .c (ofV v)
  | .global i => .g i
  | .func f => .f f

def resPs (place : Nat → Option (Nat × Nat)) : List (Nat × Operand) → Option (List ((Nat × Nat) × Opd))
  | [] => some []
  | (i, x) :: ps => match place i, resPs place ps with
    | some p, some r => some ((p, resO x) :: r)
    | _, _ => none
def inOrder : Nat → List (Nat × Operand) → Bool
  | _, [] => true
  | k, (i, _) :: ps => i == k && inOrder (k + 1) ps

/-- Is it '==' or '!=' of bools or structs? *Said* whether it is the latter. -/
def eqNeg : BinOp → Option TypeDesc → Option Bool
  | .eql, some .bool => some false
  | .eql, some (.struct _) => some false
  | .neq, some .bool => some true
  | .neq, some (.struct _) => some true
  | _, _ => none
def resI (P : Program) (o : Oper) : Option RI := match o.op with
  | .move x => some (.mv (resO x))
  | .assign x => some (.asg (resO x) ((rowOf P o.type).map fun r => r.2.1))
  | .pick c x y => some (.pick (resO c) (resO x) (resO y))
  | .binOp op T x y _ => match eqNeg op (P.underlying T) with
    | some neg => if eqOk P 20 T = true then some (.eqT neg (isAggT P T) ((leafTs P 20 T).map (lkT P)) (resO x) (resO y)) else none
    | none => some (.bin op (resO x) (resO y))
  | .unOp .not _ x => some (.not (resO x))
  | .convert S D x => match P.underlying S, P.underlying D with
    | some (.slice e), some .string => match P.underlying e with
      | some (.int .u8) => some (.bs (resO x))
      | _ => none
    | some .string, some (.slice e) => match P.underlying e with
      | some (.int .u8) => some (.sb (resO x))
      | _ => none
    | some _, some (.int k) => some (.cv k (resO x))
    | _, _ => none
  | .index T x i => match P.underlying T with
    | some .string => some (.ixS (resO x) (resO i))
    | some (.array n e) => match shapeOf P e with
      | some (false, 1) => some (.ixA n (resO x) (resO i))
      | _ => none
    | _ => none
  | .load T p => match shapeOf P T with
    | some (b, n) => some (.ld b n (resO p))
    | none => none
  | .nilCheck x => some (.nilC (resO x))
  | .fieldAddr T x f => match fieldOf P T f with
    | some (off, _, n) => if n = 0 then none else some (.fa off (resO x))
    | none => none
  | .field T x f => match fieldOf P T f with
    | some (off, b, n) => some (.fld b off n (resO x))
    | none => none
  | .indexAddr T x i => match elemOf P T with
    | some sz => some (.ia sz (resO x) (resO i))
    | none => match arrOf P T with
      | some (n, sz) => some (.iaA n sz (resO x) (resO i))
      | none => none
  | .slice T x lo hi mx => match elemOf P T with
    | some n => some (.slc n (resO x) (lo.map resO) (hi.map resO) (mx.map resO))
    | none => match arrOf P T, mx with
      | some (n, 1), none => some (.slcA n (resO x) (lo.map resO) (hi.map resO))
      | _, _ => none
  | .range T x => match P.underlying T with
    | some .string => some (.rngS (resO x))
    | _ => none
  | .next x true => some (.nxtS (resO x))
  | .extract x i => some (.ext (resO x) i)
  | .makeFunc (.func f) first cap => some (.mkf f (first.toList.map resO) (cap.toList.map resO))
  | .alloc T => match shapeOf P T, (P.info? T).bind (·.zero) with
    | some (_, n), some z => match (⟨0, [], [], [], []⟩ : ASt).leaves (ofV z) with
      | some vs => if vs.length = n then some (.al (hints P 9 T) vs) else none
      | none => none
    | _, _ => none
  | .box T x => some (.box (hints P 9 T) (resO x))
  | .build T ps => match buildTab P T with
    | some (pl, k, z) => (resPs (placeF pl k) ps.toList).map fun r => .bld r (z.cells.toList.map ofLeaf)
    | none => none
  | .buildSlice T n ps => match rowOf P T with
    | some (e, sz, _, _) => if ps.size = n ∧ n * sz ≤ 16777216 ∧ inOrder 0 ps.toList = true then some (.bsl sz (hints P 9 e) (ps.toList.map fun p => resO p.2)) else none
    | none => none
  | .makeSlice T l c => match rowOf P T with
    | some (e, sz, by', z) => match zeroEl (hints P 9 e) z with
      | some u => some (.mks sz by' u (resO l) (resO c))
      | none => none
    | none => none
  | .store T p x => match shapeOf P T with
    | some (_, n) => some (.st n (hints P 9 T) (resO p) (resO x))
    | none => none
  | .call { callee := .builtin .len, args, argTypes } => match args.toList, argTypes.toList with
    | [x], [T] => match P.underlying T with
      | some .string => some (.lnS (resO x))
      | _ => match elemOf P T with
        | some _ => some (.lnL (resO x))
        | none => none
    | _, _ => none
  | .call { callee := .builtin .append, args, argTypes } => match args.toList, argTypes.toList with
    | [s, x], [t, t'] => match rowOf P t with
      | some (_, sz, by', _) => if t' = t then some (.app sz by' (resO s) (resO x)) else none
      | none => none
    | _, _ => none
  | .call { callee := .value f, args, argTypes } => some (.call (resO f) (args.toList.map resO) (argTypes.toList.map (hints P 9)))
  | _ => none

def resG (ops : List Oper) : Option (Nat × Bool) → Option (Option (Nat × Bool))
  | none => some none
  | some (j, want) => match dstAt ops j with
    | some d => some (some (d, want))
    | none => none
def resOps (P : Program) (ops : List Oper) : List Oper → Option (List RO)
  | [] => some []
  | o :: os => match resI P o, resG ops o.guard, resOps P ops os with
    | some i, some g, some r => some (⟨o.dst, g, i⟩ :: r)
    | _, _, _ => none
def resC (P : Program) (ann : List (Nat × List Nat)) : Code → Option RC
  | .skip => some .skip
  | .label _ => some .skip
  | .region id ops false => (resOps P ops.toList ops.toList).map (.reg (get ann id))
  | .region id ops true => if Region.lexB .any ops then (resOps P ops.toList ops.toList).map (.drw (get ann id)) else none
  | .seq x y => match resC P ann x, resC P ann y with
    | some x, some y => some (.seq x y)
    | _, _ => none
  | .cond c x y => match resC P ann x, resC P ann y with
    | some x, some y => some (.cond (resO c) x y)
    | _, _ => none
  | .block id x => (resC P ann x).map (.block id)
  | .loop x => (resC P ann x).map .loop
  | .rangeFunc f ps x y => match resC P ann x, resC P ann y with
    | some x, some y => some (.rfun (resO f) ps.toList x y)
    | _, _ => none
  | .exit id => some (.exit id)
  | .goto id => some (.goto id)
  | .ret => some .ret
  | c => some (.raw c)

def resR (P : Program) : List ResultVar → Option (List RV)
  | [] => some []
  | .tmp t :: rs => (resR P rs).map (.t t :: ·)
  | .cell t T :: rs => match shapeOf P T, resR P rs with
    | some (b, n), some r => some (.c t b n :: r)
    | _, _ => none
structure FnI where
  n : Nat
  rs : List RV
  rc : RC
/-- A function, resolved. -/
def fnOf (P : Program) (f : FuncId) (ann : List (Nat × List Nat)) : Option FnI := match P.funcs[f]? with
  | some fn => match fn.body with
    | some c => if fn.name != "runtime.NumGoroutine" then match resR P fn.results.toList, resC P ann c with
        | some rs, some rc => some ⟨fn.ntmps, rs, rc⟩
        | _, _ => none
      else none
    | none => none
  | none => none

/-- Fewer slots and rows, and boxes cut off that nothing names. -/
def Fit (nb : Nat) (st' st : ASt) : Prop := st'.n = st.n ∧ leL st'.s st.s ∧ leL st'.r st.r ∧ st'.l = st.l ∧
  (st'.b = st.b ∨ (nb ≤ st'.b.length ∧ st'.b.length ≤ st.b.length ∧ st'.b = st.b.take st'.b.length ∧ (st'.s.all (fun p => decide (p.2.mb ≤ st'.b.length)) && st'.b.all (fun cs => decide (mbL cs ≤ st'.b.length))) = true))

def LoopE {α : Type} (nb : Nat) (S : α → ASt) (p : α → Prop) (μ : α → Nat) (x : α) (Q : Exit → ASt → Prop) : Exit → ASt → Prop
  | .normal, st => ∃ x', p x' ∧ μ x' < μ x ∧ Fit nb (S x') st
  | e, st => Q e st

/-- A loop of at most n rounds, carried out. -/
def unr (B : (Exit → ASt → Prop) → ASt → Prop) (Q : Exit → ASt → Prop) : Nat → ASt → Prop
  | 0, _ => False
  | n + 1, st => B (seqQ (fun _ st => unr B Q n st) Q) st

/-- What the questions come to. -/
def real (C : Env) (l : Lv) (nb : Nat) : Ask → (Ans → Prop) → Prop
  | .ar op k a b, K => ∃ n, bin2 op (.int k a) (.int k b) = some (.int k n) ∧ K (.i n)
  | .sh op k a k' b, K => ∃ n, bin2 op (.int k a) (.int k' b) = some (.int k n) ∧ K (.i n)
  | .cmp op k a b, K => ∃ t, bin2 op (.int k a) (.int k b) = some (.bool t) ∧ K (.b t)
  | .cv k n, K => K (.i (k.wrap n))
  | .scat a b, K => ∃ s, bin2 .add (.string a) (.string b) = some (.string s) ∧ K (.s s)
  | .scmp op a b, K => ∃ t, bin2 op (.string a) (.string b) = some (.bool t) ∧ K (.b t)
  | .eqs xs ys, K => ∃ t, leavesEq xs ys = some t ∧ K (.b t)
  | .slen s, K => K (.i s.data.toList.length)
  | .six s i, K => 0 ≤ i ∧ ∃ b, s.data.toList[i.toNat]? = some b ∧ K (.i b.toNat)
  | .len l, K => K (.i l.length)
  | .idx l i, K => 0 ≤ i ∧ ∃ e, l[i.toNat]? = some e ∧ K (.a e)
  | .pos l i, K => 0 ≤ i ∧ i.toNat < l.length ∧ K (.n i.toNat)
  | .nth l i, K => ∃ e, l[i]? = some e ∧ K (.a e)
  | .arr n i, K => 0 ≤ i ∧ i < n ∧ K (.n i.toNat)
  | .drop l n, K => n ≤ l.length ∧ K (.l (l.drop n))
  | .sub l lo hi mx, K => 0 ≤ lo.getD 0 ∧ lo.getD 0 ≤ hi.getD l.length ∧ hi.getD l.length ≤ l.length ∧ (∀ m, mx = some m → hi = some m) ∧ K (.l ((l.take (hi.getD l.length).toNat).drop (lo.getD 0).toNat))
  | .pop l h, K => 0 ≤ h ∧ h ≤ l.length ∧ K (.l (l.take h.toNat))
  | .upd l i off us, K => ∃ l', updL l i off us = some l' ∧ K (.l l')
  | .app by' l m, K => (l.length + m.length) * by' ≤ 140737488355328 ∧ K (.l (l ++ m))
  | .ne l, K => l.isEmpty = false ∧ K (.n 0)
  | .make by' u l c, K => 0 ≤ l ∧ l ≤ c ∧ c * by' ≤ 140737488355328 ∧ K (.l (List.replicate l.toNat u))
  | .tobytes s, K => K (.l (s.data.toList.map fun b => .sc (.int .u8 b.toNat)))
  | .tostr l, K => ∃ bs, bytesOf l = some bs ∧ K (.s ⟨bs.toArray⟩)
  | .call f st, K => ∃ R, ACall C f st R ∧ ∀ ae st1, R ae st1 → K (.e ae st1)
  | .yld lp vs d K st, _ => ∀ (o : Oper) (f : Operand) (args : Array Operand) (Ts : Array TypeId) (Q : Exit → ASt → Prop), o.op = .call { callee := .value f, args := args, argTypes := Ts } → o.dst = d →
      st.ev C f = some (.fn (.yield lp) [] []) → evL C st args.toList = some vs → AOp C l o K Q st
  | .rfun v ps a b Q st, _ => ∀ (f : Operand) (ca cb : Code) (ann : List (Nat × List Nat)), st.ev C f = some v → resC C.P ann ca = some a → resC C.P ann cb = some b → AWp C l (.rangeFunc f ps.toArray ca cb) Q st
  | .loop B Q st, _ => (∃ n, unr B Q n st) ∨ ∃ (α : Type) (S : α → ASt) (p : α → Prop) (μ : α → Nat) (x0 : α), p x0 ∧ Fit nb (S x0) st ∧ ∀ x, p x → B (LoopE nb S p μ x Q) (S x)
  | .raw c Q st, _ => AWp C l c Q st
  | .free, K => l.r = none ∧ K (.n 0)
  | .newo, K => ∀ lp, K (.n lp)
  | .obj ls lp, K => ∃ i ob, ls[i]? = some (lp, ob) ∧ K (.n i)
  | .nxt s pos, K => if pos < s.size then K (.p (Utf8.decode s pos).1 (pos + (Utf8.decode s pos).2)) else K (.n 0)
  | .bad _ _, _ => False

section
variable {C : Env} {gl : List (Nat × List AV)} {st : ASt}
def GlOk (C : Env) (gl : List (Nat × List AV)) : Prop := ∀ i cs, get gl i = some cs → C.G i = some cs

theorem evO_eq (hg : GlOk C gl) {x : Operand} {v : AV} (h : st.evO gl (resO x) = some v) : st.ev C x = some v := by
  cases x with
  | tmp t => exact h
  | const u => exact h
  | global i =>
    simp only [resO, ASt.evO, Option.map_eq_some_iff] at h
    obtain ⟨cs, h1, rfl⟩ := h
    simp only [ASt.ev, hg i cs h1, Option.map_some]
  | func f => exact h
theorem evOL_eq (hg : GlOk C gl) : ∀ {xs : List Operand} {vs : List AV}, evOL gl st (xs.map resO) = some vs → evL C st xs = some vs
  | [], vs, h => h
  | x :: xs, vs, h => by
    simp only [List.map_cons, evOL] at h
    split at h
    · rename_i v us h1 h2
      simp only [Option.some.injEq] at h; subst h
      simp only [evL, evO_eq hg h1, evOL_eq hg h2]
    · cases h
theorem intO_eq (hg : GlOk C gl) {x : Operand} {i : Int} (h : intO (st.evO gl (resO x)) = some i) : intOf? (st.ev C x) = some i := by
  unfold intO at h
  split at h
  · rename_i k j he; rw [evO_eq hg he]; exact h
  · cases h

theorem takeN_eq : ∀ {n : Nat} {l r : List AV}, takeN n l = some r → n ≤ l.length ∧ l.take n = r
  | 0, l, r, h => by simp only [takeN, Option.some.injEq] at h; subst h; exact ⟨Nat.zero_le _, by simp⟩
  | n + 1, a :: l, r, h => by
    simp only [takeN] at h
    split at h
    · rename_i q hq
      simp only [Option.some.injEq] at h; subst h
      obtain ⟨h1, h2⟩ := takeN_eq hq
      exact ⟨by simp only [List.length_cons]; omega, by rw [List.take_succ_cons, h2]⟩
    · cases h
  | n + 1, [], r, h => by simp [takeN] at h
theorem dropN_eq : ∀ {n : Nat} {l r : List AV}, dropN n l = some r → n ≤ l.length ∧ l.drop n = r
  | 0, l, r, h => by simp only [dropN, Option.some.injEq] at h; subst h; exact ⟨Nat.zero_le _, by simp⟩
  | n + 1, a :: l, r, h => by
    simp only [dropN] at h
    obtain ⟨h1, h2⟩ := dropN_eq h
    exact ⟨by simp only [List.length_cons]; omega, by rw [List.drop_succ_cons, h2]⟩
  | n + 1, [], r, h => by simp [dropN] at h
end
end Go.Ab
end
