/- The abstract layer and its machine: what Go code does to lists, proved once over any program. -/
import Derived.Test.YtfokbedokggilaaDoorK2
import Derived.Laws.BytesString
import Derived.Deep.Quiet
set_option linter.all false
section
/- The abstract layer, part E: an operation that leaves the state alone is what the machine does, in every world with this heap. -/
namespace Go.Ab
open Go.RowKit

section
variable {C : Env} {E : Entry} {X : Option Key} {st : ASt} {a : Act} {w : World} {g : Gh}

theorem plus_sound {v u : AV} {n : Nat} {x : Value} (hp : v.plus n = some u) (hv : Rv w g v x) :
    ∃ m o, x = .pointer (some ⟨m, o, none⟩) ∧ Rv w g u (.pointer (some ⟨m, o + n, none⟩)) ∧ u.mb = v.mb := by
  unfold AV.plus at hp
  split at hp
  · cases hv; simp only [Option.some.injEq] at hp; subst hp; exact ⟨_, _, rfl, .bp _ _, rfl⟩
  · split at hp
    · rename_i cs hle
      simp only [Option.some.injEq] at hp; subst hp
      cases hv with
      | @rp _ b off c T fr h1 h2 h3 h4 =>
        exact ⟨_, _, rfl, .rp h1 h2 (by rw [List.length_drop]; omega) (fun k a v ha hv => h4 (n + k) a v (by rw [List.getElem?_drop] at ha; exact ha) (by rw [← Nat.add_assoc]; exact hv)), rfl⟩
    · cases hp
  · cases hv with
    | ep hk => simp only [Option.some.injEq] at hp; subst hp; exact ⟨_, _, rfl, by rw [Nat.add_assoc]; exact .ep hk, rfl⟩
  · cases hv with
    | ec hk => simp only [Option.some.injEq] at hp; subst hp; exact ⟨_, _, rfl, by rw [Nat.add_assoc]; exact .ec hk, rfl⟩
  · cases hp

theorem at_sound (h : Rel C E st a w g) {v u : AV} {i sz : Nat} {x : Value} (hp : st.at v i sz = some u) (hv : Rv w g v x) :
    ∃ m o len cap, x = .slice (some ⟨m, o, none⟩) len cap ∧ i < len ∧ Rv w g u (.pointer (some ⟨m, o + i * sz, none⟩)) ∧ u.mb ≤ v.mb := by
  have shared : ∀ {l : List AV} {e : AV}, Sh w g.N (.sl sz l) x → l[i]? = some e → ∃ m o len cap, x = .slice (some ⟨m, o, none⟩) len cap ∧ i < len ∧ Rv w g (.rp e.cells) (.pointer (some ⟨m, o + i * sz, none⟩)) ∧ (AV.rp e.cells).mb ≤ v.mb := by
    intro l e hs he
    cases hs with
    | nil => simp at he
    | sl _ _ b off cap c T fr h1 h2 h3 h4 h5 h6 =>
      have hi : i < l.length := by
        rcases Nat.lt_or_ge i l.length with h | h
        · exact h
        · rw [List.getElem?_eq_none h] at he; cases he
      have hel : e.cells.length = sz := h3 e (List.mem_of_getElem? he)
      have hle : i * sz + sz ≤ l.length * sz := by rw [← Nat.succ_mul]; exact Nat.mul_le_mul_right _ hi
      refine ⟨b, off, _, cap, rfl, hi, .rp h1 h2 (by omega) (fun k a v ha hv => ?_), by simp [AV.mb]⟩
      have hk : k < sz := by
        rcases Nat.lt_or_ge k sz with h | h
        · exact h
        · rw [List.getElem?_eq_none (by omega)] at ha; cases ha
      refine h6 (i * sz + k) a v ?_ (by rw [← Nat.add_assoc]; exact hv)
      rw [flat_get h3 i k hk, he]; exact ha
  have owned : ∀ {l : List AV} {v' : Value}, RowR w g.N sz l v' → i < l.length → ∃ m cap, v' = .slice (some ⟨m, 0, none⟩) l.length cap := by
    rintro l v' ⟨_, e, xs, ho, _⟩ hi
    rcases ho.2 with ⟨_, h2⟩ | ⟨m, cap, cur, h1, _⟩
    · omega
    · exact ⟨m, cap, h1⟩
  unfold ASt.at at hp
  split at hp
  · rename_i sz' l
    split at hp
    · rename_i e he
      split at hp
      · rename_i hs; subst hs
        simp only [Option.some.injEq] at hp; subst hp
        cases hv with
        | sl hs => exact shared hs he
      · cases hp
    · cases hp
  · rename_i sz' l
    split at hp
    · rename_i e he
      split at hp
      · rename_i hs; subst hs
        simp only [Option.some.injEq] at hp; subst hp
        cases hv with
        | slx hs => exact shared hs he
      · cases hp
    · cases hp
  · rename_i k
    cases hv
    split at hp
    · rename_i sz' l hl
      split at hp
      · rename_i hc
        obtain ⟨rfl, hi⟩ := hc
        simp only [Option.some.injEq] at hp; subst hp
        obtain ⟨m, cap, hm⟩ := owned (h.rows k _ hl (by simp)) hi
        exact ⟨m, 0, _, cap, hm, hi, by have := Rv.ep (w := w) (i := i) (sz := sz') (off := 0) hm; simpa using this, by simp [AV.mb]⟩
      · cases hp
    · cases hp
  · rename_i b j
    cases hv
    split at hp
    · rename_i sz' l hl
      split at hp
      · rename_i hc
        obtain ⟨rfl, hi⟩ := hc
        simp only [Option.some.injEq] at hp; subst hp
        obtain ⟨m, cap, hm⟩ := owned (h.crows b j _ _ hl (by simp)) hi
        exact ⟨m, 0, _, cap, hm, hi, by have := Rv.ec (w := w) (i := i) (sz := sz') (off := 0) hm; simpa using this, by simp [AV.mb]⟩
      · cases hp
    · cases hp
  · cases hp

/-- A slice's length and what its elements read as. -/
theorem list_sound (h : Rel C E st a w g) {v : AV} {l : List AV} {x : Value} (hl : st.list v = some l) (hv : Rv w g v x) :
    ∃ ad cap, x = .slice ad l.length cap ∧ (ad = none → l = []) ∧ ∃ sz, (∀ e ∈ l, e.cells.length = sz) ∧ (l ≠ [] → ∃ m o, ad = some ⟨m, o, none⟩ ∧ ∃ xs : List Value, xs.length = l.length * sz ∧ w.rangeAt m o xs ∧ ∀ (k : Nat) (a : AV) (y : Value), (l.flatMap AV.cells)[k]? = some a → xs[k]? = some y → Sh w g.N a y) := by
  have shared : ∀ {sz : Nat} {l : List AV}, Sh w g.N (.sl sz l) x → ∃ ad cap, x = .slice ad l.length cap ∧ (ad = none → l = []) ∧ ∃ sz, (∀ e ∈ l, e.cells.length = sz) ∧ (l ≠ [] → ∃ m o, ad = some ⟨m, o, none⟩ ∧ ∃ xs : List Value, xs.length = l.length * sz ∧ w.rangeAt m o xs ∧ ∀ (k : Nat) (a : AV) (y : Value), (l.flatMap AV.cells)[k]? = some a → xs[k]? = some y → Sh w g.N a y) := by
    intro sz l hs
    cases hs with
    | nil _ ad => exact ⟨ad, 0, rfl, fun _ => rfl, sz, by simp, by simp⟩
    | sl _ _ b off cap c T fr h1 h2 h3 h4 h5 h6 =>
      refine ⟨_, cap, rfl, by simp, sz, h3, fun _ => ⟨b, off, rfl, (c.toList.drop off).take (l.length * sz), by rw [List.length_take, List.length_drop, Array.length_toList]; exact Nat.min_eq_left (Nat.le_sub_of_add_le (by rw [Nat.add_comm]; exact h4)), ?_, ?_⟩⟩
      · intro k u hu
        rw [cell_at h2]
        rw [List.getElem?_take] at hu
        split at hu
        · rw [List.getElem?_drop, Array.getElem?_toList] at hu; exact hu
        · cases hu
      · intro k a y ha hy
        rw [List.getElem?_take] at hy
        split at hy
        · rw [List.getElem?_drop, Array.getElem?_toList] at hy; exact h6 k a y ha hy
        · cases hy
  have owned : ∀ {sz : Nat} {l : List AV}, RowR w g.N sz l x → ∃ ad cap, x = .slice ad l.length cap ∧ (ad = none → l = []) ∧ ∃ sz, (∀ e ∈ l, e.cells.length = sz) ∧ (l ≠ [] → ∃ m o, ad = some ⟨m, o, none⟩ ∧ ∃ xs : List Value, xs.length = l.length * sz ∧ w.rangeAt m o xs ∧ ∀ (k : Nat) (a : AV) (y : Value), (l.flatMap AV.cells)[k]? = some a → xs[k]? = some y → Sh w g.N a y) := by
    rintro sz l ⟨_, e, xs, ho, hu, hx⟩
    rcases ho.2 with ⟨h1, h2⟩ | ⟨m, cap, cur, h1, _, h3, _, _, _, h6⟩
    · have : l = [] := List.eq_nil_of_length_eq_zero h2
      subst this; exact ⟨none, 0, h1, fun _ => rfl, sz, by simp, by simp⟩
    · refine ⟨_, cap, h1, by simp, sz, hu, fun _ => ⟨m, 0, rfl, xs, ho.1, ?_, hx⟩⟩
      intro k u hu'
      rw [cell_at h3, Nat.zero_add]
      rw [← h6, List.getElem?_take] at hu'
      split at hu'
      · simpa using hu'
      · cases hu'
  unfold ASt.list at hl
  split at hl
  · simp only [Option.some.injEq] at hl; subst hl; cases hv; exact ⟨none, 0, rfl, fun _ => rfl, 1, by simp, by simp⟩
  · simp only [Option.some.injEq] at hl; subst hl; cases hv with
    | sl hs => exact shared hs
  · simp only [Option.some.injEq] at hl; subst hl; cases hv with
    | slx hs => exact shared hs
  · simp only [Option.map_eq_some_iff] at hl
    obtain ⟨p, hp, rfl⟩ := hl
    cases hv; exact owned (h.rows _ p hp (by simp))
  · split at hl
    · rename_i hc
      simp only [Option.some.injEq] at hl; subst hl; cases hv
      exact owned (h.crows _ _ _ _ hc (by simp))
    · cases hl
  · cases hl

theorem intOf?_eq {x : Operand} {i : Int} (h : Rel C E st a w g) (hi : intOf? (st.ev C x) = some i) : ∃ k, a.eval x = .int k i := by
  unfold intOf? at hi
  split at hi
  · rename_i k j he
    simp only [Option.some.injEq] at hi; subst hi
    have := (ev_sound h he).1
    generalize a.eval x = y at this
    cases this; exact ⟨k, rfl⟩
  · cases hi

theorem evL_sound (h : Rel C E st a w g) : ∀ {xs : List Operand} {vs : List AV}, evL C st xs = some vs → vs.length = xs.length ∧ (∀ (i : Nat) (b : AV) (v : Value), vs[i]? = some b → (xs.map a.eval)[i]? = some v → Rv w g b v) ∧ mbL vs ≤ st.b.length
  | [], vs, he => by simp [evL] at he; subst he; simp [mbL]
  | x :: xs, vs, he => by
    unfold evL at he
    split at he
    · rename_i v us h1 h2
      simp only [Option.some.injEq] at he; subst he
      obtain ⟨e1, e2, e3⟩ := evL_sound h h2
      obtain ⟨e4, e5⟩ := ev_sound h h1
      refine ⟨by simp [e1], fun i b u hb hu => ?_, by simp only [mbL]; omega⟩
      cases i with
      | zero => simp at hb hu; subst hb hu; exact e4
      | succ i => exact e2 i b u (by simpa using hb) (by simpa using hu)
    · cases he

theorem bytesOf_map : ∀ {l : List AV} {bs : List UInt8}, bytesOf l = some bs → ∃ ns : List Int, l = ns.map (fun n => .sc (.int .u8 n)) ∧ bs = ns.map fun n => UInt8.ofNat n.toNat
  | [], bs, h => by simp [bytesOf] at h; subst h; exact ⟨[], rfl, rfl⟩
  | .sc (.int .u8 n) :: l, bs, h => by
    simp only [bytesOf, Option.map_eq_some_iff] at h
    obtain ⟨cs, h1, rfl⟩ := h
    obtain ⟨ns, h2, h3⟩ := bytesOf_map h1
    exact ⟨n :: ns, by simp [h2], by simp [h3]⟩
  | .sc (.int .i8 n) :: l, bs, h | .sc (.int .i16 n) :: l, bs, h | .sc (.int .i32 n) :: l, bs, h | .sc (.int .i64 n) :: l, bs, h | .sc (.int .u16 n) :: l, bs, h | .sc (.int .u32 n) :: l, bs, h | .sc (.int .u64 n) :: l, bs, h => by simp [bytesOf] at h
  | .sc (.bool _) :: l, bs, h | .sc (.float _ _) :: l, bs, h | .sc (.complex _ _ _) :: l, bs, h | .sc (.string _) :: l, bs, h | .sc (.pointer _) :: l, bs, h | .sc (.slice _ _ _) :: l, bs, h | .sc (.map _) :: l, bs, h | .sc (.chan _) :: l, bs, h | .sc (.func _ _ _) :: l, bs, h | .sc .nilFunc :: l, bs, h | .sc (.iface _ _) :: l, bs, h | .sc .nilIface :: l, bs, h | .sc (.agg _) :: l, bs, h | .sc (.tuple _) :: l, bs, h => by simp [bytesOf] at h
  | .nil :: l, bs, h | .agg _ :: l, bs, h | .tup _ :: l, bs, h | .sl _ _ :: l, bs, h | .slx _ _ :: l, bs, h | .ow _ _ :: l, bs, h | .own _ :: l, bs, h | .ocl _ _ :: l, bs, h | .bp _ _ :: l, bs, h | .rp _ :: l, bs, h | .ep _ _ _ _ :: l, bs, h | .ec _ _ _ _ _ :: l, bs, h | .fn _ _ _ :: l, bs, h | .dead :: l, bs, h => by simp [bytesOf] at h

theorem bytes_run {P : Program} {w : World} {m o len cap : Nat} {ns : List Int} (hl : len = ns.length) (h : w.rangeAt m o (ns.map fun n => Value.int .u8 n)) :
    (Conv.bytesToString (.slice (some ⟨m, o, none⟩) len cap)).run P w = .ok (.string ⟨(ns.map fun n => UInt8.ofNat n.toNat).toArray⟩) w := by
  subst hl
  rw [run_bytesToString w ⟨m, o, none⟩ ns.length cap ns (by
    have := run_loadCells_list (P := P) w ⟨m, o, none⟩ (ns.map fun n => Value.int .u8 n) (fun j v hv => by rw [Addr.add_lit]; exact h j v hv)
    simpa using this)]
  have h2 : ∀ (ns : List Int) (acc : List UInt8), ns.foldl (fun r n => r.push (UInt8.ofNat n.toNat)) (⟨acc.toArray⟩ : ByteArray) = ⟨(acc ++ ns.map fun n => UInt8.ofNat n.toNat).toArray⟩ := by
    intro ns
    induction ns with
    | nil => intro acc; simp
    | cons n ns ih =>
      intro acc
      have e : (⟨acc.toArray⟩ : ByteArray).push (UInt8.ofNat n.toNat) = ⟨(acc ++ [UInt8.ofNat n.toNat]).toArray⟩ := by
        simp [ByteArray.push]
      rw [List.foldl_cons, e, ih]; simp
  have h3 := h2 ns []
  rw [List.nil_append] at h3
  rw [← h3]; rfl
end
end Go.Ab
end
section
/- The abstract layer, part F: 'pop' is what the machine does. -/
namespace Go.Ab
open Go.RowKit

section
variable {C : Env} {E : Entry} {st : ASt} {a : Act} {w : World} {g : Gh}

theorem evV_eq (h : Rel C E st a w g) {x : Operand} {v : Value} (hx : st.evV C x = some v) : a.eval x = v := by
  simp only [ASt.evV, Option.bind_eq_some_iff] at hx
  obtain ⟨u, h1, h2⟩ := hx
  exact toV_eq h2 (ev_sound h h1).1

theorem plain_sound (h : Rel C E st a w g) {o : Oper} {v : AV} (hp : plain C st o = some v) :
    ∃ x, Rv w g v x ∧ v.mb ≤ st.b.length ∧ ∀ w', w'.heap = w.heap → (execOp a.eval o).run C.P w' = .ok (.value x) w' := by
  unfold plain at hp
  split at hp
  · rename_i hc
    simp only [Bool.and_eq_true, Array.all_eq_true] at hc
    obtain ⟨h1, h2⟩ := hc
    split at hp
    · rename_i y hy
      simp only [Option.some.injEq] at hp; subst hp
      refine ⟨y, ofV_rv w g y, by rw [ofV_mb]; omega, fun w' _ => ?_⟩
      have e : execOp a.eval o = execOp (fun x => (st.evV C x).getD undef) o := execOp_congr o (plainOp_select h1) fun x hx => by
        obtain ⟨i, hi, rfl⟩ := Array.mem_iff_getElem.1 hx
        have h3 := h2 i hi
        obtain ⟨u, hu⟩ := Option.isSome_iff_exists.1 h3
        rw [evV_eq h hu, hu]; rfl
      rw [e]; exact pureRun_run hy w'
    · cases hp
  · cases hp

theorem bounds_sound (h : Rel C E st a w g) {n cap : Nat} (hcap : n ≤ cap) {lo hi mx : Option Operand} {l r : Nat} {b : Bool} (hb : bounds C st n lo hi mx = some (l, r, b)) (w' : World) :
    (Instr.sliceBounds true n cap (lo.map a.eval) (hi.map a.eval) (mx.map a.eval)).run C.P w' = .ok (l, r, if b then r else cap) w' ∧ l ≤ r ∧ r ≤ n := by
  unfold bounds at hb
  have bd : ∀ (k : IntKind) (i : Int) (y : Nat) (code : BoundsCode), 0 ≤ i → i ≤ y → (Instr.sliceBound (.int k i) y code).run C.P w' = .ok i.toNat w' := fun k i y code h0 h1 => by
    simp [Instr.sliceBound, asIntOf, h0, h1]
  cases hi with
  | none =>
    cases lo with
    | none =>
      cases mx with
      | none =>
        simp only at hb
        split at hb
        · simp only [Option.some.injEq, Prod.mk.injEq] at hb; obtain ⟨rfl, rfl, rfl⟩ := hb
          simp [Instr.sliceBounds]
        · cases hb
      | some x => simp only at hb; split at hb <;> simp_all
    | some lo =>
      cases mx with
      | none =>
        simp only at hb
        split at hb
        · rename_i h' l' e1 e2
          simp only [Option.some.injEq] at e1; subst e1
          obtain ⟨k, ek⟩ := intOf?_eq h e2
          split at hb
          · rename_i hc
            simp only [Option.some.injEq, Prod.mk.injEq] at hb; obtain ⟨rfl, rfl, rfl⟩ := hb
            refine ⟨?_, by omega, by omega⟩
            simp [Instr.sliceBounds, ek, bd k l' n _ hc.1 (by omega)]
          · cases hb
        · cases hb
      | some x => simp only at hb; split at hb <;> (try split at hb) <;> simp_all
  | some hi =>
    cases lo with
    | none =>
      cases mx with
      | none =>
        simp only at hb
        split at hb
        · rename_i h' l' e1 e2
          simp only [Option.some.injEq] at e2; subst e2
          obtain ⟨k, ek⟩ := intOf?_eq h e1
          split at hb
          · rename_i hc
            simp only [Option.some.injEq, Prod.mk.injEq] at hb; obtain ⟨rfl, rfl, rfl⟩ := hb
            refine ⟨?_, by omega, by omega⟩
            simp [Instr.sliceBounds, ek, bd k h' cap _ (by omega) (by omega)]
          · cases hb
        · cases hb
      | some x =>
        simp only at hb
        split at hb
        · rename_i h' l' e1 e2
          simp only [Option.some.injEq] at e2; subst e2
          obtain ⟨k, ek⟩ := intOf?_eq h e1
          split at hb
          · rename_i m _ e3 _
            obtain ⟨k', ek'⟩ := intOf?_eq h e3
            split at hb
            · rename_i hc
              simp only [Option.some.injEq, Prod.mk.injEq] at hb; obtain ⟨rfl, rfl, rfl⟩ := hb
              obtain ⟨_, _, _, rfl⟩ := hc
              refine ⟨?_, by omega, by omega⟩
              simp [Instr.sliceBounds, ek, ek', bd k' m cap _ (by omega) (by omega), bd k m m.toNat _ (by omega) (by omega)]
            · cases hb
          · cases hb
        · cases hb
    | some lo =>
      cases mx with
      | none =>
        simp only at hb
        split at hb
        · rename_i h' l' e1 e2
          obtain ⟨k, ek⟩ := intOf?_eq h e1
          obtain ⟨kl, ekl⟩ := intOf?_eq h e2
          split at hb
          · rename_i hc
            simp only [Option.some.injEq, Prod.mk.injEq] at hb; obtain ⟨rfl, rfl, rfl⟩ := hb
            refine ⟨?_, by omega, by omega⟩
            simp [Instr.sliceBounds, ek, ekl, bd k h' cap _ (by omega) (by omega), bd kl l' h'.toNat _ (by omega) (by omega)]
          · cases hb
        · cases hb
      | some x =>
        simp only at hb
        split at hb
        · rename_i h' l' e1 e2
          obtain ⟨k, ek⟩ := intOf?_eq h e1
          obtain ⟨kl, ekl⟩ := intOf?_eq h e2
          split at hb
          · rename_i m _ e3 _
            obtain ⟨k', ek'⟩ := intOf?_eq h e3
            split at hb
            · rename_i hc
              simp only [Option.some.injEq, Prod.mk.injEq] at hb; obtain ⟨rfl, rfl, rfl⟩ := hb
              obtain ⟨_, _, _, rfl⟩ := hc
              refine ⟨?_, by omega, by omega⟩
              simp [Instr.sliceBounds, ek, ek', ekl, bd k' m cap _ (by omega) (by omega), bd k m m.toNat _ (by omega) (by omega), bd kl l' m.toNat _ (by omega) (by omega)]
            · cases hb
          · cases hb
        · cases hb

theorem flat_drop {sz : Nat} : ∀ {l : List AV}, (∀ a ∈ l, a.cells.length = sz) → ∀ n, n ≤ l.length → (l.drop n).flatMap AV.cells = (l.flatMap AV.cells).drop (n * sz)
  | [], _, n, hn => by simp at hn; subst hn; simp
  | a :: l, h, 0, _ => by simp
  | a :: l, h, n + 1, hn => by
    rw [List.drop_succ_cons, flat_drop (fun x hx => h x (List.mem_cons_of_mem _ hx)) n (by simpa using hn), List.flatMap_cons, List.drop_append]
    have ha : a.cells.length = sz := h a List.mem_cons_self
    have e1 : List.drop ((n + 1) * sz) a.cells = [] := List.drop_eq_nil_of_le (by rw [ha, Nat.succ_mul]; omega)
    rw [e1, List.nil_append, ha]
    congr 1
    rw [Nat.succ_mul]; omega

theorem Sh.sub {w : World} {N : Nat → Prop} {sz : Nat} {l : List AV} {ad : Option Addr} {len cap lo hi : Nat} (h : Sh w N (.sl sz l) (.slice ad len cap)) (h1 : lo ≤ hi) (h2 : hi ≤ l.length) (m : Nat) (hm : hi ≤ m) (hc : m ≤ cap) :
    Sh w N (.sl sz ((l.take hi).drop lo)) (.slice (if m = lo then ad else ad.map (·.add (lo * sz))) (hi - lo) (m - lo)) := by
  have hlen : ((l.take hi).drop lo).length = hi - lo := by rw [List.length_drop, List.length_take]; omega
  rw [← hlen]
  cases h with
  | nil =>
    simp only [List.length_nil, Nat.le_zero] at h2; subst h2
    have : lo = 0 := by omega
    subst this
    have : m = 0 := by omega
    subst this
    simp; exact .nil sz _
  | sl _ _ b off _ c T fr hb hh hu hs _ hall =>
    have hu' : ∀ a ∈ (l.take hi).drop lo, a.cells.length = sz := fun a ha => hu a (List.mem_of_mem_take (List.mem_of_mem_drop ha))
    by_cases e : m = lo
    · simp only [e, if_true]
      have : lo = hi := by omega
      have hnil : (l.take hi).drop lo = [] := by rw [← this]; exact List.drop_eq_nil_of_le (by rw [List.length_take]; omega)
      rw [hnil]
      exact .sl sz [] b off _ c T fr hb hh (by simp) (by simp; omega) (by simp) (by simp)
    · simp only [e, if_false, Option.map_some, Addr.add_lit]
      have hle : lo * sz + (hi - lo) * sz ≤ l.length * sz := by rw [← Nat.add_mul]; exact Nat.mul_le_mul_right _ (by omega)
      refine .sl sz _ b (off + lo * sz) _ c T fr hb hh hu' (by rw [hlen]; omega) (by rw [hlen]; omega) (fun k a v ha hv => hall (lo * sz + k) a v ?_ (by rw [← Nat.add_assoc]; exact hv))
      have hsplit : l.flatMap AV.cells = (l.take hi).flatMap AV.cells ++ (l.drop hi).flatMap AV.cells := by rw [← List.flatMap_append, List.take_append_drop]
      have hu2 : ∀ a ∈ l.take hi, a.cells.length = sz := fun a ha => hu a (List.mem_of_mem_take ha)
      rw [flat_drop hu2 lo (by rw [List.length_take]; omega), List.getElem?_drop] at ha
      rw [hsplit, List.getElem?_append_left]
      · exact ha
      · rcases Nat.lt_or_ge (lo * sz + k) ((l.take hi).flatMap AV.cells).length with h | h
        · exact h
        · rw [List.getElem?_eq_none h] at ha; cases ha

theorem underlying_slice {P : Program} {T : TypeId} {n : Nat} (h : elemOf P T = some n) : ∃ e i, P.underlying T = some (.slice e) ∧ P.info? e = some i ∧ i.size = n := by
  unfold elemOf at h
  split at h
  · rename_i e he
    simp only [Option.map_eq_some_iff] at h
    obtain ⟨i, h1, h2⟩ := h
    exact ⟨e, i, he, h1, h2⟩
  · cases h

theorem slice_sound (h : Rel C E st a w g) {T : TypeId} {sz : Nat} {l : List AV} {y : Value} {lo hi mx : Option Operand} {r1 r2 : Nat} {b : Bool}
    (hT : elemOf C.P T = some sz) (hs : Sh w g.N (.sl sz l) y) (hb : bounds C st l.length lo hi mx = some (r1, r2, b)) :
    ∃ x, Rv w g (if b then .slx sz ((l.take r2).drop r1) else .sl sz ((l.take r2).drop r1)) x ∧
      ∀ w', (Instr.sliceAt T y (lo.map a.eval) (hi.map a.eval) (mx.map a.eval)).run C.P w' = .ok x w' := by
  obtain ⟨e, i, hu, hi', hsz⟩ := underlying_slice hT
  obtain ⟨ad, cap, rfl, hcap⟩ : ∃ ad cap, y = .slice ad l.length cap ∧ l.length ≤ cap := by
    cases hs with
    | nil _ ad => exact ⟨ad, 0, rfl, by simp⟩
    | sl _ _ b off cap c T fr _ _ _ _ h5 _ => exact ⟨_, cap, rfl, h5⟩
  have hbd := fun w' => bounds_sound h hcap hb w'
  have hle := (hbd w).2
  refine ⟨.slice (if (if b then r2 else cap) = r1 then ad else ad.map (·.add (r1 * sz))) (r2 - r1) ((if b then r2 else cap) - r1), ?_, fun w' => ?_⟩
  · have := hs.sub (lo := r1) (hi := r2) hle.1 hle.2 (if b then r2 else cap) (by split <;> omega) (by split <;> omega)
    cases b
    · exact .sl this
    · exact .slx this
  · unfold Instr.sliceAt
    simp only [Sem.run_bind, run_underlying hu, Result.andThen_ok]
    unfold Instr.slice
    simp only [Sem.run_bind, run_underlying hu, Result.andThen_ok, (hbd w').1, sizeOf_run hi', Sem.run_pure, hsz]

theorem fieldAt_run {P : Program} {T f : Nat} {off n : Nat} {b : Bool} (hf : fieldOf P T f = some (off, b, n)) (hn : n ≠ 0) (m o : Nat) (w : World) :
    (Instr.fieldAt T (.pointer (some ⟨m, o, none⟩)) f).run P w = .ok (.pointer (some ⟨m, o + off, none⟩)) w := by
  unfold fieldOf at hf
  split at hf
  · rename_i fs hfs
    split at hf
    · rename_i fd hfd
      simp only [Option.map_eq_some_iff, Prod.mk.injEq] at hf
      obtain ⟨⟨b', n'⟩, h1, h2, h3, h4⟩ := hf
      subst h2; subst h3; subst h4
      unfold shapeOf at h1
      split at h1
      · rename_i d i hd hi
        simp only [Option.some.injEq, Prod.mk.injEq] at h1
        obtain ⟨_, h5⟩ := h1
        unfold Instr.fieldAt
        simp only [Sem.run_bind, run_underlying hfs, Result.andThen_ok, hfd, Instr.sureAddr, Sem.run_pure, fieldPlace, sizeOf_run hi, h5, hn, if_false, Addr.add_lit]
      · cases h1
    · cases hf
  · cases hf

theorem field_run {P : Program} {T f : Nat} {off n : Nat} {b : Bool} (hf : fieldOf P T f = some (off, b, n)) (vs : Array Value) (w : World) (y : Value)
    (hy : (b = true ∧ y = .agg (vs.extract off (off + n))) ∨ (b = false ∧ vs[off]? = some y)) : (Instr.field T (.agg vs) f).run P w = .ok y w := by
  unfold fieldOf at hf
  split at hf
  · rename_i fs hfs
    split at hf
    · rename_i fd hfd
      simp only [Option.map_eq_some_iff, Prod.mk.injEq] at hf
      obtain ⟨⟨b', n'⟩, h1, h2, h3, h4⟩ := hf
      subst h2; subst h3; subst h4
      unfold shapeOf at h1
      split at h1
      · rename_i d i hd hi
        simp only [Option.some.injEq, Prod.mk.injEq] at h1
        obtain ⟨h6, h5⟩ := h1
        unfold Instr.field
        simp only [Sem.run_bind, run_underlying hfs, Result.andThen_ok, hfd, asAgg, Sem.run_pure, part, isAgg_run hd, h6]
        rcases hy with ⟨rfl, rfl⟩ | ⟨rfl, hy⟩
        · simp [sizeOf_run hi, h5]
        · simp [hy]
      · cases h1
    · cases hf
  · cases hf

theorem indexAt_run {P : Program} {T : TypeId} {sz : Nat} (hT : elemOf P T = some sz) {k : IntKind} {i : Int} (h0 : 0 ≤ i) {m o len cap : Nat} (hi : i.toNat < len) (w : World) :
    (Instr.indexAt T (.slice (some ⟨m, o, none⟩) len cap) (.int k i)).run P w = .ok (.pointer (some ⟨m, o + i.toNat * sz, none⟩)) w := by
  obtain ⟨e, inf, hu, hinf, hsz⟩ := underlying_slice hT
  unfold Instr.indexAt
  have hi' : i < (len : Int) := by omega
  simp [Sem.run_bind, asIntOf, run_underlying hu, h0, hi', sizeOf_run hinf, hsz, Addr.add_lit]

theorem indexAt_arr_run {P : Program} {T : TypeId} {n sz : Nat} (hT : arrOf P T = some (n, sz)) {k : IntKind} {i : Int} (h0 : 0 ≤ i) (hi : i < n) (m o : Nat) (w : World) :
    (Instr.indexAt T (.pointer (some ⟨m, o, none⟩)) (.int k i)).run P w = .ok (.pointer (some ⟨m, o + i.toNat * sz, none⟩)) w := by
  unfold arrOf at hT
  split at hT
  · rename_i n' e hu
    simp only [Option.map_eq_some_iff, Prod.mk.injEq] at hT
    obtain ⟨inf, hinf, h1, h2⟩ := hT
    subst h1
    unfold Instr.indexAt
    simp [Sem.run_bind, asIntOf, run_underlying hu, h0, hi, Instr.sureAddr, sizeOf_run hinf, h2, Addr.add_lit]
  · cases hT
end
end Go.Ab
end
section
/- The abstract layer, part G: the theorem on 'pop'. -/
namespace Go.Ab
open Go.RowKit

section
variable {C : Env} {E : Entry} {st : ASt} {a : Act} {w : World} {g : Gh}

abbrev PopOk (C : Env) (st : ASt) (a : Act) (w : World) (g : Gh) (o : Oper) (v : AV) : Prop :=
  ∃ x, Rv w g v x ∧ v.mb ≤ st.b.length ∧ ∀ w', w'.heap = w.heap → (execOp a.eval o).run C.P w' = .ok (.value x) w'

theorem pop1_sound (h : Rel C E st a w g) {o : Oper} {v : AV} (hp : pop1 C st o = some v) : PopOk C st a w g o v := by
  obtain ⟨dst, op, ty, pos, after, guard⟩ := o
  unfold pop1 at hp
  simp only at hp
  split at hp
  · -- move
    obtain ⟨h1, h2⟩ := ev_sound h hp
    exact ⟨_, h1, h2, fun w' _ => rfl⟩
  · -- pick
    rename_i c x y
    split at hp
    · rename_i t hc
      have hcv := (ev_sound h hc).1
      have : a.eval c = .bool t := by generalize a.eval c = z at hcv; cases hcv; rfl
      cases t
      · simp only [Bool.false_eq_true, if_false] at hp
        obtain ⟨h1, h2⟩ := ev_sound h hp
        exact ⟨_, h1, h2, fun w' _ => by simp [execOp, this, asBool]⟩
      · simp only [if_true] at hp
        obtain ⟨h1, h2⟩ := ev_sound h hp
        exact ⟨_, h1, h2, fun w' _ => by simp [execOp, this, asBool]⟩
    · cases hp
  · -- load
    simp only [Option.bind_eq_some_iff] at hp
    obtain ⟨p, h1, h2⟩ := hp
    obtain ⟨y, h3, h4, h5⟩ := ld_sound h (ev_sound h h1).1 h2
    exact ⟨y, h3, h4, fun w' hw => by simp only [execOp, Sem.run_bind, h5 w' hw, Result.andThen_ok, Sem.run_pure]⟩
  · -- nilCheck
    rename_i x
    split at hp
    · rename_i hx
      obtain ⟨h1, h2⟩ := ev_sound h hx
      simp only [Option.some.injEq] at hp; subst hp
      refine ⟨_, h1, h2, fun w' _ => ?_⟩
      generalize hz : a.eval x = z at h1 ⊢; cases h1; simp [execOp, hz]
    · rename_i hx
      obtain ⟨h1, h2⟩ := ev_sound h hx
      simp only [Option.some.injEq] at hp; subst hp
      refine ⟨_, h1, h2, fun w' _ => ?_⟩
      generalize hz : a.eval x = z at h1 ⊢; cases h1; simp [execOp, hz]
    · rename_i hx
      obtain ⟨h1, h2⟩ := ev_sound h hx
      simp only [Option.some.injEq] at hp; subst hp
      refine ⟨_, h1, h2, fun w' _ => ?_⟩
      generalize hz : a.eval x = z at h1 ⊢; cases h1; simp [execOp, hz]
    · rename_i hx
      obtain ⟨h1, h2⟩ := ev_sound h hx
      simp only [Option.some.injEq] at hp; subst hp
      refine ⟨_, h1, h2, fun w' _ => ?_⟩
      generalize hz : a.eval x = z at h1 ⊢; cases h1; simp [execOp, hz]
    · rename_i hx
      obtain ⟨h1, h2⟩ := ev_sound h hx
      simp only [Option.some.injEq] at hp; subst hp
      refine ⟨_, h1, h2, fun w' _ => ?_⟩
      generalize hz : a.eval x = z at h1 ⊢; cases h1; simp [execOp, hz]
    · cases hp
  · -- fieldAddr
    rename_i T x f
    split at hp
    · rename_i off b n u hf hu
      split at hp
      · cases hp
      · rename_i hn
        obtain ⟨h1, h2⟩ := ev_sound h hu
        obtain ⟨m, o, h3, h4, h5⟩ := plus_sound hp h1
        exact ⟨_, h4, by omega, fun w' _ => by simp only [execOp, h3, Sem.run_bind, fieldAt_run hf hn, Result.andThen_ok, Sem.run_pure]⟩
    · cases hp
  · -- field
    rename_i T x f
    split at hp
    · rename_i off n cs hf hu
      split at hp
      · rename_i hle
        simp only [Option.some.injEq] at hp; subst hp
        obtain ⟨h1, h2⟩ := ev_sound h hu
        generalize hz : a.eval x = z at h1
        cases h1 with
        | @agg _ vs hl hr =>
          refine ⟨.agg (vs.extract off (off + n)), .agg (by simp; omega) (fun i b y hb hy => ?_), ?_, fun w' _ => ?_⟩
          · rw [List.getElem?_take] at hb
            split at hb
            · rename_i hi
              rw [List.getElem?_drop] at hb
              refine hr (off + i) b y hb ?_
              rw [Array.getElem?_extract] at hy
              split at hy
              · exact hy
              · cases hy
            · cases hb
          · simp only [AV.mb]
            refine mbL_le fun b hb => ?_
            have hm : b ∈ cs := List.mem_of_mem_drop (List.mem_of_mem_take hb)
            obtain ⟨i, hlt, rfl⟩ := List.mem_iff_getElem.1 hm
            have := mbL_get (l := cs) (i := i) (a := cs[i]) (by simp)
            simp only [AV.mb] at h2; omega
          · simp only [execOp, hz, Sem.run_bind, field_run hf vs w' _ (.inl ⟨rfl, rfl⟩), Result.andThen_ok, Sem.run_pure]
      · cases hp
    · rename_i off n cs hf hu
      obtain ⟨h1, h2⟩ := ev_sound h hu
      generalize hz : a.eval x = z at h1
      cases h1 with
      | @agg _ vs hl hr =>
        have hlt : off < cs.length := by
          rcases Nat.lt_or_ge off cs.length with h | h
          · exact h
          · rw [List.getElem?_eq_none h] at hp; cases hp
        have hv : vs[off]? = some (vs[off]'(by omega)) := by simp
        refine ⟨_, hr off v _ hp hv, ?_, fun w' _ => ?_⟩
        · have := mbL_get hp; simp only [AV.mb] at h2; omega
        · simp only [execOp, hz, Sem.run_bind, field_run hf vs w' _ (.inr ⟨rfl, hv⟩), Result.andThen_ok, Sem.run_pure]
    · cases hp
  · -- indexAddr
    rename_i T x i
    split at hp
    · rename_i n u hi hu
      obtain ⟨k, hk⟩ := intOf?_eq h hi
      obtain ⟨h1, h2⟩ := ev_sound h hu
      split at hp
      · rename_i h0
        split at hp
        · rename_i sz hT
          obtain ⟨m, o, len, cap, h3, h4, h5, h6⟩ := at_sound h hp h1
          exact ⟨_, h5, by omega, fun w' _ => by simp only [execOp, h3, hk, Sem.run_bind, indexAt_run hT h0 h4, Result.andThen_ok, Sem.run_pure]⟩
        · split at hp
          · rename_i n' sz hT
            split at hp
            · rename_i hlt
              obtain ⟨m, o, h3, h4, h5⟩ := plus_sound hp h1
              exact ⟨_, h4, by omega, fun w' _ => by simp only [execOp, h3, hk, Sem.run_bind, indexAt_arr_run hT h0 hlt, Result.andThen_ok, Sem.run_pure]⟩
            · cases hp
          · cases hp
      · cases hp
    · cases hp
  · -- slice
    rename_i T x lo hi mx
    split at hp
    · rename_i n sz l hT hu
      split at hp
      · rename_i hs; subst hs
        simp only [Option.map_eq_some_iff] at hp
        obtain ⟨⟨r1, r2, b⟩, hb, rfl⟩ := hp
        obtain ⟨h1, h2⟩ := ev_sound h hu
        generalize hz : a.eval x = z at h1
        cases h1 with
        | sl hs =>
          obtain ⟨y, h3, h4⟩ := slice_sound h hT hs hb
          exact ⟨y, h3, by split <;> simp [AV.mb], fun w' _ => by simp only [execOp, hz, Sem.run_bind, h4, Result.andThen_ok, Sem.run_pure]⟩
      · cases hp
    · rename_i n sz l hT hu
      split at hp
      · rename_i hs; subst hs
        simp only [Option.map_eq_some_iff] at hp
        obtain ⟨⟨r1, r2, b⟩, hb, rfl⟩ := hp
        obtain ⟨h1, h2⟩ := ev_sound h hu
        generalize hz : a.eval x = z at h1
        cases h1 with
        | slx hs =>
          obtain ⟨y, h3, h4⟩ := slice_sound h hT hs hb
          exact ⟨y, h3, by split <;> simp [AV.mb], fun w' _ => by simp only [execOp, hz, Sem.run_bind, h4, Result.andThen_ok, Sem.run_pure]⟩
      · cases hp
    · cases hp
  · -- extract
    rename_i x i
    split at hp
    · rename_i vs hu
      obtain ⟨h1, h2⟩ := ev_sound h hu
      generalize hz : a.eval x = z at h1
      cases h1 with
      | @tup _ us hl hr =>
        have hlt : i < vs.length := by
          rcases Nat.lt_or_ge i vs.length with h | h
          · exact h
          · rw [List.getElem?_eq_none h] at hp; cases hp
        have hv : us[i]? = some (us[i]'(by omega)) := by simp
        refine ⟨_, hr i v _ hp hv, ?_, fun w' _ => ?_⟩
        · have := mbL_get hp; simp only [AV.mb] at h2; omega
        · simp only [execOp, hz, Instr.extract, Sem.run_bind, hv, Sem.run_pure, Result.andThen_ok]
    · cases hp
  · -- makeFunc
    rename_i f first cap
    split at hp
    · rename_i fs cs hf hc
      simp only [Option.some.injEq] at hp; subst hp
      obtain ⟨h1, h2, h3⟩ := evL_sound h hf
      obtain ⟨h4, h5, h6⟩ := evL_sound h hc
      refine ⟨.func (.func f) (first.map a.eval) (cap.map a.eval), .fn (by simp [h1]) (by simp [h4]) (fun i b y hb hy => h2 i b y hb (by simpa using hy)) (fun i b y hb hy => h5 i b y hb (by simpa using hy)), by simp only [AV.mb]; omega, fun w' _ => by simp [execOp, Instr.makeFunc]⟩
    · cases hp
  · -- len
    rename_i args argTypes
    split at hp
    · rename_i x T hx hT'
      have e1 : args = #[x] := by rw [← Array.toArray_toList (xs := args), hx]
      have e2 : argTypes = #[T] := by rw [← Array.toArray_toList (xs := argTypes), hT']
      subst e1; subst e2
      split at hp
      · rename_i n hT
        simp only [Option.map_eq_some_iff, Option.bind_eq_some_iff] at hp
        obtain ⟨l, ⟨u, hu, hl⟩, rfl⟩ := hp
        obtain ⟨e, inf, hu', _, _⟩ := underlying_slice hT
        obtain ⟨ad, cap, h1, _⟩ := list_sound h hl (ev_sound h hu).1
        refine ⟨_, .sc _, by simp [AV.mb], fun w' _ => ?_⟩
        simp only [execOp, resolve, invoke, builtin, Sem.run_bind, Sem.run_pure, Result.andThen_ok, List.map_toArray, List.map_cons, List.map_nil, h1]
        simp [Builtin.len_, run_underlying hu', goInt]
      · cases hp
    · cases hp
  · -- convert
    rename_i S D x
    split at hp
    · rename_i e hS hD
      split at hp
      · rename_i he
        simp only [Option.map_eq_some_iff, Option.bind_eq_some_iff] at hp
        obtain ⟨bs, ⟨l, ⟨u, hu, hl⟩, hb⟩, rfl⟩ := hp
        obtain ⟨ad, cap, h1, h2, sz, h3, h4⟩ := list_sound h hl (ev_sound h hu).1
        obtain ⟨ns, rfl, rfl⟩ := bytesOf_map hb
        refine ⟨_, .sc _, by simp [AV.mb], fun w' hw => ?_⟩
        simp only [execOp, h1, Sem.run_bind]
        rw [run_convert_bytes_string w' S D e ad _ cap hS he hD]
        by_cases hn : ns = []
        · subst hn
          cases ad with
          | none => simp [Conv.bytesToString]; rfl
          | some ad =>
            simp only [List.map_nil, List.length_nil]
            rw [run_bytesToString w' ad 0 cap [] (by simp [loadCells, loadCellsFrom])]
            rfl
        · obtain ⟨m, o, rfl, xs, h5, h6, h7⟩ := h4 (by simpa using hn)
          have hsz : sz = 1 := by
            cases ns with
            | nil => exact absurd rfl hn
            | cons n ns => have := h3 (.sc (.int .u8 n)) (by simp); simpa [AV.cells] using this.symm
          subst hsz
          have hxs : xs = ns.map fun n => Value.int .u8 n := by
            apply List.ext_getElem?
            intro i
            by_cases hi : i < ns.length
            · have hx : xs[i]? = some (xs[i]'(by simp [h5]; omega)) := by simp
              have hl' : ((ns.map fun n => AV.sc (.int .u8 n)).flatMap AV.cells)[i]? = some (.sc (.int .u8 ns[i])) := by
                have := flat_get (sz := 1) (l := ns.map fun n => AV.sc (.int .u8 n)) h3 i 0 (by omega)
                simp only [Nat.mul_one, Nat.add_zero] at this
                rw [this]; simp [hi, AV.cells]
              have := h7 i _ _ hl' hx
              generalize xs[i]'(by simp [h5]; omega) = y at this hx
              cases this
              rw [hx]; simp [hi]
            · rw [List.getElem?_eq_none (by simp [h5]; omega), List.getElem?_eq_none (by simp; omega)]
          rw [hxs] at h6
          rw [bytes_run (by simp) (rangeAt_heap hw h6)]
          rfl
      · cases hp
    · cases hp
  · cases hp

theorem pop_sound (h : Rel C E st a w g) {o : Oper} {v : AV} (hp : pop C st o = some v) : PopOk C st a w g o v := by
  unfold pop at hp
  split at hp
  · rename_i u hu
    simp only [Option.some.injEq] at hp; subst hp
    exact pop1_sound h hu
  · exact plain_sound h hp
end
end Go.Ab
end
section
/- The abstract layer, part H: steps of the state: sharing a row, adopting a value into a box, new boxes, dropping what is dead. -/
namespace Go.Ab
open Go.RowKit

mutual
/-- Every mention of the row k becomes u; pointers into it are lost. -/
def subA (k : Nat) (u : AV) : AV → AV
  | .own k' => if k' = k then u else .own k'
  | .ep k' i sz o => if k' = k then .dead else .ep k' i sz o
  | .agg cs => .agg (subL k u cs)
  | .tup vs => .tup (subL k u vs)
  | .fn f x c => .fn f (subL k u x) (subL k u c)
  | v => v
def subL (k : Nat) (u : AV) : List AV → List AV
  | [] => []
  | a :: l => subA k u a :: subL k u l
end
mutual
/-- Every mention of the row in cell j of box b becomes u. -/
def subAC (b j : Nat) (u : AV) : AV → AV
  | .ocl b' j' => if b' = b ∧ j' = j then u else .ocl b' j'
  | .ec b' j' i sz o => if b' = b ∧ j' = j then .dead else .ec b' j' i sz o
  | .agg cs => .agg (subCL b j u cs)
  | .tup vs => .tup (subCL b j u vs)
  | .fn f x c => .fn f (subCL b j u x) (subCL b j u c)
  | v => v
def subCL (b j : Nat) (u : AV) : List AV → List AV
  | [] => []
  | a :: l => subAC b j u a :: subCL b j u l
end
theorem subL_map (k : Nat) (u : AV) : ∀ l, subL k u l = l.map (subA k u)
  | [] => rfl
  | a :: l => by simp [subL, subL_map k u l]
theorem subCL_map (b j : Nat) (u : AV) : ∀ l, subCL b j u l = l.map (subAC b j u)
  | [] => rfl
  | a :: l => by simp [subCL, subCL_map b j u l]

theorem Rv.sub {w : World} {g g' : Gh} {k : Nat} {u : AV} {a : AV} {v : Value} (h : Rv w g a v) (hN : ∀ m, g.N m → g'.N m)
    (hk : ∀ k', k' ≠ k → a.hasOwn k' = true → g'.κ k' = g.κ k') (hc : ∀ b j, a.hasCel b j = true → g'.χ b j = g.χ b j) (hb : ∀ b, b < a.mb → g'.β b = g.β b) (hu : Rv w g' u (g.κ k)) : Rv w g' (subA k u a) v := by
  induction h with
  | sc v => exact .sc v
  | nil => exact .nil
  | sl h => exact .sl (h.mono fun m hm => ⟨hN m hm, rfl⟩)
  | slx h => exact .slx (h.mono fun m hm => ⟨hN m hm, rfl⟩)
  | agg hl _ ih =>
    simp only [subA, subL_map]
    refine .agg (by simpa using hl) fun i a v hi hv => ?_
    rw [List.getElem?_map, Option.map_eq_some_iff] at hi
    obtain ⟨a', hi, rfl⟩ := hi
    exact ih i a' v hi hv (fun k' hne hh => hk k' hne (by simp only [AV.hasOwn]; exact hasOwnL_of hi hh)) (fun b j hh => hc b j (by simp only [AV.hasCel]; exact hasCelL_of hi hh)) (fun b h => hb b (by have := mbL_get hi; simp only [AV.mb]; omega))
  | tup hl _ ih =>
    simp only [subA, subL_map]
    refine .tup (by simpa using hl) fun i a v hi hv => ?_
    rw [List.getElem?_map, Option.map_eq_some_iff] at hi
    obtain ⟨a', hi, rfl⟩ := hi
    exact ih i a' v hi hv (fun k' hne hh => hk k' hne (by simp only [AV.hasOwn]; exact hasOwnL_of hi hh)) (fun b j hh => hc b j (by simp only [AV.hasCel]; exact hasCelL_of hi hh)) (fun b h => hb b (by have := mbL_get hi; simp only [AV.mb]; omega))
  | own k' =>
    simp only [subA]; split
    · rename_i e; rw [e]; exact hu
    · rename_i e; rw [← hk k' e (by simp [AV.hasOwn])]; exact .own k'
  | ocl b j => simp only [subA]; rw [← hc b j (by simp [AV.hasCel])]; exact .ocl b j
  | bp b off => simp only [subA]; rw [← hb b (by simp [AV.mb])]; exact .bp b off
  | rp hn hh hs hall => exact .rp (hN _ hn) hh hs fun k a v hk' hv => (hall k a v hk' hv).mono fun m hm => ⟨hN m hm, rfl⟩
  | @ep k' i sz off b len cap h =>
    simp only [subA]; split
    · exact .dead
    · rename_i e; exact .ep (len := len) (cap := cap) ((hk k' e (by simp [AV.hasOwn])).trans h)
  | @ec b j i sz off m len cap h => exact .ec (len := len) (cap := cap) ((hc b j (by simp [AV.hasCel])).trans h)
  | @fn f first cap fs cs h1 h2 _ _ ih1 ih2 =>
    simp only [subA, subL_map]
    refine .fn (by simpa using h1) (by simpa using h2) (fun i a v hi hv => ?_) (fun i a v hi hv => ?_)
    · rw [List.getElem?_map, Option.map_eq_some_iff] at hi
      obtain ⟨a', hi, rfl⟩ := hi
      exact ih1 i a' v hi hv (fun k' hne hh => hk k' hne (by simp only [AV.hasOwn, Bool.or_eq_true]; exact .inl (hasOwnL_of hi hh))) (fun b j hh => hc b j (by simp only [AV.hasCel, Bool.or_eq_true]; exact .inl (hasCelL_of hi hh))) (fun b h => hb b (by have := mbL_get hi; simp only [AV.mb]; omega))
    · rw [List.getElem?_map, Option.map_eq_some_iff] at hi
      obtain ⟨a', hi, rfl⟩ := hi
      exact ih2 i a' v hi hv (fun k' hne hh => hk k' hne (by simp only [AV.hasOwn, Bool.or_eq_true]; exact .inr (hasOwnL_of hi hh))) (fun b j hh => hc b j (by simp only [AV.hasCel, Bool.or_eq_true]; exact .inr (hasCelL_of hi hh))) (fun b h => hb b (by have := mbL_get hi; simp only [AV.mb]; omega))
  | dead => exact .dead

theorem Rv.subC {w : World} {g g' : Gh} {b j : Nat} {u : AV} {a : AV} {v : Value} (h : Rv w g a v) (hN : ∀ m, g.N m → g'.N m)
    (hk : ∀ k, g'.κ k = g.κ k) (hc : ∀ b' j', ¬ (b' = b ∧ j' = j) → g'.χ b' j' = g.χ b' j') (hb : ∀ b, b < a.mb → g'.β b = g.β b) (hu : Rv w g' u (g.χ b j)) : Rv w g' (subAC b j u a) v := by
  induction h with
  | sc v => exact .sc v
  | nil => exact .nil
  | sl h => exact .sl (h.mono fun m hm => ⟨hN m hm, rfl⟩)
  | slx h => exact .slx (h.mono fun m hm => ⟨hN m hm, rfl⟩)
  | agg hl _ ih =>
    simp only [subAC, subCL_map]
    refine .agg (by simpa using hl) fun i a v hi hv => ?_
    rw [List.getElem?_map, Option.map_eq_some_iff] at hi
    obtain ⟨a', hi, rfl⟩ := hi
    exact ih i a' v hi hv (fun b h => hb b (by have := mbL_get hi; simp only [AV.mb]; omega))
  | tup hl _ ih =>
    simp only [subAC, subCL_map]
    refine .tup (by simpa using hl) fun i a v hi hv => ?_
    rw [List.getElem?_map, Option.map_eq_some_iff] at hi
    obtain ⟨a', hi, rfl⟩ := hi
    exact ih i a' v hi hv (fun b h => hb b (by have := mbL_get hi; simp only [AV.mb]; omega))
  | own k' => simp only [subAC]; rw [← hk k']; exact .own k'
  | ocl b' j' =>
    simp only [subAC]; split
    · rename_i e; rw [e.1, e.2]; exact hu
    · rename_i e; rw [← hc b' j' e]; exact .ocl b' j'
  | bp b off => simp only [subAC]; rw [← hb b (by simp [AV.mb])]; exact .bp b off
  | rp hn hh hs hall => exact .rp (hN _ hn) hh hs fun k a v hk' hv => (hall k a v hk' hv).mono fun m hm => ⟨hN m hm, rfl⟩
  | @ep k' i sz off b len cap h => exact .ep (len := len) (cap := cap) ((hk k').trans h)
  | @ec b' j' i sz off m len cap h =>
    simp only [subAC]; split
    · exact .dead
    · rename_i e; exact .ec (len := len) (cap := cap) ((hc b' j' e).trans h)
  | @fn f first cap fs cs h1 h2 _ _ ih1 ih2 =>
    simp only [subAC, subCL_map]
    refine .fn (by simpa using h1) (by simpa using h2) (fun i a v hi hv => ?_) (fun i a v hi hv => ?_)
    · rw [List.getElem?_map, Option.map_eq_some_iff] at hi
      obtain ⟨a', hi, rfl⟩ := hi
      exact ih1 i a' v hi hv (fun b h => hb b (by have := mbL_get hi; simp only [AV.mb]; omega))
    · rw [List.getElem?_map, Option.map_eq_some_iff] at hi
      obtain ⟨a', hi, rfl⟩ := hi
      exact ih2 i a' v hi hv (fun b h => hb b (by have := mbL_get hi; simp only [AV.mb]; omega))
  | dead => exact .dead

mutual
theorem sub_mb (k n : Nat) (u : AV) (hu : u.mb ≤ n) : ∀ (a : AV), a.mb ≤ n → (subA k u a).mb ≤ n
  | .own k', _ => by simp only [subA]; split <;> simp_all [AV.mb]
  | .ep k' i sz o, _ => by simp only [subA]; split <;> simp [AV.mb]
  | .agg cs, h => by simp only [subA, AV.mb] at *; exact subL_mb k n u hu cs h
  | .tup cs, h => by simp only [subA, AV.mb] at *; exact subL_mb k n u hu cs h
  | .fn f x c, h => by simp only [subA, AV.mb] at *; have h1 := subL_mb k n u hu x (by omega); have h2 := subL_mb k n u hu c (by omega); omega
  | .sc _, h | .nil, h | .sl _ _, h | .slx _ _, h | .ow _ _, h | .ocl _ _, h | .bp _ _, h | .rp _, h | .ec _ _ _ _ _, h | .dead, h => by simpa only [subA] using h
theorem subL_mb (k n : Nat) (u : AV) (hu : u.mb ≤ n) : ∀ (l : List AV), mbL l ≤ n → mbL (subL k u l) ≤ n
  | [], _ => by simp [subL, mbL]
  | a :: l, h => by simp only [subL, mbL] at *; have h1 := sub_mb k n u hu a (by omega); have h2 := subL_mb k n u hu l (by omega); omega
end
mutual
theorem subC_mb (b j n : Nat) (u : AV) (hu : u.mb ≤ n) : ∀ (a : AV), a.mb ≤ n → (subAC b j u a).mb ≤ n
  | .ocl b' j', h => by simp only [subAC]; split <;> simp_all [AV.mb]
  | .ec b' j' i sz o, h => by simp only [subAC]; split <;> simp_all [AV.mb]
  | .agg cs, h => by simp only [subAC, AV.mb] at *; exact subCL_mb b j n u hu cs h
  | .tup cs, h => by simp only [subAC, AV.mb] at *; exact subCL_mb b j n u hu cs h
  | .fn f x c, h => by simp only [subAC, AV.mb] at *; have h1 := subCL_mb b j n u hu x (by omega); have h2 := subCL_mb b j n u hu c (by omega); omega
  | .sc _, h | .nil, h | .sl _ _, h | .slx _ _, h | .ow _ _, h | .own _, h | .bp _ _, h | .rp _, h | .ep _ _ _ _, h | .dead, h => by simpa only [subAC] using h
theorem subCL_mb (b j n : Nat) (u : AV) (hu : u.mb ≤ n) : ∀ (l : List AV), mbL l ≤ n → mbL (subCL b j u l) ≤ n
  | [], _ => by simp [subCL, mbL]
  | a :: l, h => by simp only [subCL, mbL] at *; have h1 := subC_mb b j n u hu a (by omega); have h2 := subCL_mb b j n u hu l (by omega); omega
end

theorem get_map {α : Type} (f : α → α) : ∀ (l : List (Nat × α)) (t : Nat), get (l.map fun p => (p.1, f p.2)) t = (get l t).map f
  | [], t => rfl
  | (k, v) :: l, t => by simp only [List.map_cons, get]; split <;> simp [get_map f l t]

/-- A row, read as a slice that stays. -/
theorem RowR.sh {w : World} {N N' : Nat → Prop} {sz : Nat} {l : List AV} {v : Value} (h : RowR w N sz l v) (hN : ∀ m, N m → N' m) (hm : ∀ m, v.ownBlock = some m → N' m) : Sh w N' (.sl sz l) v := by
  obtain ⟨h0, e, xs, ho, hu, hx⟩ := h
  rcases ho.2 with ⟨h1, h2⟩ | ⟨m, cap, cur, h1, _, h3, h4, _, h5, h6⟩
  · have : l = [] := List.eq_nil_of_length_eq_zero h2
    subst this; rw [h1]; exact .nil sz none
  · subst h1
    refine .sl sz l m 0 cap cur e (0, 0) (hm m rfl) h3 hu (by rw [h5]; have := Nat.mul_le_mul_right sz h4; omega) h4 (fun k a v ha hv => ?_)
    rw [Nat.zero_add] at hv
    refine (hx k a v ha ?_).mono fun m hm => ⟨hN m hm, rfl⟩
    have hk : k < l.length * sz := by
      rcases Nat.lt_or_ge k (l.length * sz) with h | h
      · exact h
      · rw [List.getElem?_eq_none (by rw [flat_len hu]; exact h)] at ha; cases ha
    rw [← h6, List.getElem?_take_of_lt hk, Array.getElem?_toList]; exact hv

/-- The row k is shared from now on: whoever names it holds its list. -/
def ASt.share (st : ASt) (k : Nat) : ASt := match get st.r k with
  | some (sz, l) => { st with s := st.s.map fun p => (p.1, subA k (.sl sz l) p.2), r := del st.r k }
  | none => st
/-- Nobody names the row k any more. -/
def ASt.kill (st : ASt) (k : Nat) : ASt := { st with s := only (fun _ v => !v.hasOwn k) st.s, r := del st.r k }

section
variable {C : Env} {E : Entry} {X : Option Key} {st : ASt} {a : Act} {w w' : World} {g : Gh}

theorem RelX.kill (h : RelX C E X st a w g) (k : Nat) : RelX C E X (st.kill k) a w g :=
  h.less _ _ (fun _ _ ht => (get_only ht).1) (fun k' p hk => by rw [get_del] at hk; split at hk; cases hk; exact hk)
theorem kill_no {k t : Nat} {u : AV} (h : get (st.kill k).s t = some u) : u.hasOwn k = false := by
  have := (get_only h).2; simpa using this

theorem Rel.share (h : Rel C E st a w g) (k : Nat) : ∃ g', Rel C E (st.share k) a w g' := by
  unfold ASt.share
  split
  · rename_i sz l hk
    have hr := h.rows k _ hk (by simp)
    have hlv : ∀ m, (g.κ k).ownBlock = some m → live st g (.row k) = some m := fun m hm => by rw [live_row hk]; exact hm
    have hN : ∀ m, g.N m → g.N m ∨ (g.κ k).ownBlock = some m := fun m hm => .inl hm
    have hsh : Sh w (fun m => g.N m ∨ (g.κ k).ownBlock = some m) (.sl sz l) (g.κ k) := hr.sh hN (fun m hm => .inr hm)
    have hl : ∀ x m, live { st with s := st.s.map fun p => (p.1, subA k (.sl sz l) p.2), r := del st.r k } { g with N := fun m => g.N m ∨ (g.κ k).ownBlock = some m } x = some m → live st g x = some m ∧ x ≠ .row k := by
      intro x m hx
      cases x with
      | row k' =>
        simp only [live, get_del] at hx ⊢
        by_cases e : k' = k
        · simp [e] at hx
        · simp only [e, if_false] at hx; exact ⟨hx, by simpa using e⟩
      | box b => exact ⟨hx, by simp⟩
      | cel b j => exact ⟨hx, by simp⟩
      | lp i => exact ⟨hx, by simp⟩
    refine ⟨{ g with N := fun m => g.N m ∨ (g.κ k).ownBlock = some m }, {
      size := h.size
      slots := fun t v ht => by
        rw [get_map, Option.map_eq_some_iff] at ht
        obtain ⟨v', ht, rfl⟩ := ht
        obtain ⟨x, h1, h2⟩ := h.slots t v' ht
        exact ⟨x, h1, h2.sub hN (fun _ _ _ => rfl) (fun _ _ _ => rfl) (fun _ _ => rfl) (.sl hsh)⟩
      bx := fun t v ht => by
        rw [get_map, Option.map_eq_some_iff] at ht
        obtain ⟨v', ht, rfl⟩ := ht
        exact sub_mb k _ _ (by simp [AV.mb]) v' (h.bx t v' ht)
      rows := fun k' p hp _ => by
        rw [get_del] at hp
        split at hp
        · cases hp
        · exact (h.rows k' p hp (by simp)).kept (fun m hm => ⟨.inl hm, rfl⟩) (fun _ _ => rfl)
      boxes := fun b cs hb _ => (h.boxes b cs hb (by simp)).kept (by have := live_box (g := g) hb; simp [live] at this; exact this) (fun m hm => ⟨.inl hm, rfl⟩) (fun _ => rfl) (fun _ _ => rfl) (Nat.le_refl _) rfl
      crows := fun b j sz l hc _ => (h.crows b j sz l hc (by simp)).kept (fun m hm => ⟨.inl hm, rfl⟩) (fun _ _ => rfl)
      disj := fun x y m hx hy => h.disj x y m (hl x m hx).1 (hl y m hy).1
      mine := fun x m hx => by
        obtain ⟨h1, h2⟩ := hl x m hx
        obtain ⟨h3, h4, h5⟩ := h.mine x m h1
        refine ⟨fun hn => ?_, h4, h5⟩
        rcases hn with hn | hn
        · exact h3 hn
        · exact h2 (h.disj x (.row k) m h1 (hlv m hn))
      kept := h.kept
      stab := fun m hm => by
        rcases hm with hm | hm
        · exact h.stab m hm
        · obtain ⟨_, h4, h5⟩ := h.mine (.row k) m (hlv m hm)
          exact ⟨h5, .inr h4⟩
      stab0 := fun m hm => .inl (h.stab0 m hm)
      beta := h.beta, os := h.os, tape := h.tape, output := h.output, grown := h.grown
      glob := h.glob.kept (fun m hm => ⟨.inl hm, rfl⟩)
      lpc := h.lpc }⟩
  · exact ⟨g, h⟩
end
end Go.Ab
end
section
/- The abstract layer, part I: append, make and slice literals on rows that the frame owns, as the machine runs them. -/
namespace Go.Ab
open Go.RowKit

section
variable {P : Program} (w : World)

/-- Where there is room, whatever type the block was made at. -/
theorem run_append_room' (t ty e e0 : TypeId) (i : TypeInfo) (ht : P.underlying t = some (.slice e)) (hi : P.info? e = some i)
    (g sLen sCap : Nat) (cur : Array Value) (hg : w.heap[g]? = some (.cells cur e0 (0, 0)))
    (a : Addr) (m c : Nat) (news : List Value) (hl : news.length = m * i.size) (hnews : ∀ j u, news[j]? = some u → w.cell? (a.add j) = some u) (h1 : ∀ u ∈ news, u.oneCell' = true)
    (hroom : sLen + m ≤ sCap) (hfit : sLen * i.size + news.length ≤ cur.size) :
    (Builtin.append_ #[t, t] ty #[.slice (some ⟨g, 0, none⟩) sLen sCap, .slice (some a) m c]).run P w =
      .ok (.slice (some ⟨g, 0, none⟩) (sLen + m) sCap) (w.setRow g (cur.toList.take (sLen * i.size) ++ news ++ cur.toList.drop (sLen * i.size + news.length)).toArray) := by
  have hf := run_firstCells_some (P := P) w i.size m a m c news hl hnews
  have hst := run_storeCells_at P g (sLen * i.size) e0 news 0 cur w hg (by simpa using hfit) h1
  simp only [Nat.add_zero] at hst
  simp [Builtin.append_, run_underlying ht, sizeOf, typeInfo, hi, Builtin.lenOf, hroom, hf, Addr.add_lit, hst]

theorem run_append_row (t ty e e0 : TypeId) (i : TypeInfo) (z : Value) (ht : P.underlying t = some (.slice e)) (hi : P.info? e = some i) (hz : i.zero = some z)
    (hzs : z.cells.size = i.size)
    (v : Value) (n : Nat) (xs : List Value) (hown : w.ownsRow 0 e0 i.size v n xs)
    (a : Addr) (m c : Nat) (news : List Value) (hl : news.length = m * i.size) (hnews : ∀ j u, news[j]? = some u → w.cell? (a.add j) = some u) (h1 : ∀ u ∈ news, u.oneCell' = true)
    (hbytes : (n + m) * i.bytes ≤ 140737488355328) (h63 : n + m ≤ maxLen) :
    ∃ v' w' e1, (Builtin.append_ #[t, t] ty #[v, .slice (some a) m c]).run P w = .ok v' w' ∧ w'.ownsRow 0 e1 i.size v' (n + m) (xs ++ news) ∧ w.grownBy w' v.ownBlock ∧
      (v'.ownBlock = v.ownBlock ∨ v'.ownBlock = some w.heap.size) := by
  have hsmall : n + m ≤ 9223372036854775807 := by simp only [maxLen] at h63; omega
  have hlen : (xs ++ news).length = (n + m) * i.size := by rw [List.length_append, hown.1, hl, Nat.add_mul]
  have grown : ∀ (old : Nat), old < n + m → ∀ (row : Option Nat),
      (w.drew.alloc (.cells (xs.toArray ++ news.toArray ++ Builtin.zeroCells z.cells (grownCap w (n + m) old e - (n + m))) e)).ownsRow 0 e i.size
        (.slice (some ⟨w.heap.size, 0, none⟩) (n + m) (grownCap w (n + m) old e)) (n + m) (xs ++ news) ∧
      w.grownBy (w.drew.alloc (.cells (xs.toArray ++ news.toArray ++ Builtin.zeroCells z.cells (grownCap w (n + m) old e - (n + m))) e)) row := by
    intro old ho row
    have hge := grownCap_ge w (n + m) old e
    have hcm : grownCap w (n + m) old e ≤ maxLen := grownCap_le_maxLen w (n + m) old e h63
    refine ⟨⟨hlen, .inr ⟨w.heap.size, _, _, rfl, Nat.zero_le _, heap_alloc_new w.drew _, hge, hcm, ?_, ?_⟩⟩, ⟨rfl, rfl, rfl, by simp, fun k hk _ => heap_alloc_old w.drew _ k hk⟩⟩
    · simp only [Array.size_append, List.size_toArray, size_zeroCells, hzs, hown.1, hl, ← Nat.add_mul]
      congr 1
      omega
    · simp only [Array.toList_append, List.append_assoc]
      rw [← List.append_assoc, ← hlen]
      exact List.take_left
  rcases hown.2 with ⟨rfl, rfl⟩ | ⟨g, cap, cur, rfl, hbg, hg, hnc, hcm, hcs, htake⟩
  · have hx : xs = [] := List.eq_nil_of_length_eq_zero (by simpa using hown.1)
    subst hx
    by_cases hm : m = 0
    · subst hm
      have hn : news = [] := List.eq_nil_of_length_eq_zero (by simpa using hl)
      subst hn
      refine ⟨.slice none 0 0, w, e, ?_, World.ownsRow_nil w 0 e i.size, ⟨rfl, rfl, rfl, Nat.le_refl _, fun _ _ _ => rfl⟩, .inl rfl⟩
      simp [Builtin.append_, run_underlying ht, sizeOf, typeInfo, hi, Builtin.lenOf, Builtin.firstCells, loadCells, loadCellsFrom]
    · have hr := run_append_nil (P := P) w t ty e i z ht hi hz a m c news hl hnews (by omega) (by omega) (by have hb := hbytes; simp only [Nat.zero_add] at hb; omega)
      have hgr := grown 0 (by omega) (Value.ownBlock (.slice none 0 0))
      simp only [Nat.zero_add, List.nil_append, Array.empty_append] at hgr ⊢
      exact ⟨_, _, _, hr, hgr.1, hgr.2, .inr rfl⟩
  · by_cases hroom : n + m ≤ cap
    · have hfit : n * i.size + news.length ≤ cur.size := by rw [hl, hcs, ← Nat.add_mul]; exact Nat.mul_le_mul_right _ hroom
      have hr := run_append_room' (P := P) w t ty e e0 i ht hi g n cap cur hg a m c news hl hnews h1 hroom hfit
      refine ⟨_, _, e0, hr, ⟨hlen, .inr ⟨g, cap, _, rfl, hbg, setRow_heap w g cur _ e0 _ hg, hroom, hcm, ?_, ?_⟩⟩, ⟨rfl, rfl, rfl, by simp, fun k _ hk => setRow_other w g k _ (fun e => hk (by simp [Value.ownBlock, e]))⟩, .inl rfl⟩
      · simp only [List.size_toArray, List.length_append, List.length_take, List.length_drop, Array.length_toList]
        omega
      · rw [htake, ← hlen]
        exact List.take_left
    · have holds : ∀ j u, xs[j]? = some u → w.cell? ((⟨g, 0, none⟩ : Addr).add j) = some u := hown.cells (g := g) rfl
      have hr := run_append_grow (P := P) w t ty e i z ht hi hz ⟨g, 0, none⟩ n cap xs hown.1 holds a m c news hl hnews (by omega) (by omega) (growslice_fits (by omega) hbytes)
      have hgr := grown cap (by omega) (Value.ownBlock (.slice (some ⟨g, 0, none⟩) n cap))
      exact ⟨_, _, _, hr, hgr.1, hgr.2, .inr rfl⟩

/-- Nothing appended: the slice itself. -/
theorem run_append_zero (t ty e : TypeId) (i : TypeInfo) (ht : P.underlying t = some (.slice e)) (hi : P.info? e = some i) (v : Value) (n : Nat) (xs : List Value) (e0 : TypeId) (hown : w.ownsRow 0 e0 i.size v n xs) (ad : Option Addr) (c : Nat) :
    (Builtin.append_ #[t, t] ty #[v, .slice ad 0 c]).run P w = .ok v w := by
  have hf : (Builtin.firstCells i.size 0 (.slice ad 0 c)).run P w = .ok #[] w := by
    cases ad <;> simp [Builtin.firstCells, loadCells, loadCellsFrom]
  rcases hown.2 with ⟨rfl, rfl⟩ | ⟨g, cap, cur, rfl, _, _, hnc, _⟩
  · simp [Builtin.append_, run_underlying ht, sizeOf, typeInfo, hi, Builtin.lenOf, hf]
  · simp [Builtin.append_, run_underlying ht, sizeOf, typeInfo, hi, Builtin.lenOf, hf, hnc, storeCells]

/-- A shared slice with no room: a new row. -/
theorem run_append_full (t ty e : TypeId) (i : TypeInfo) (z : Value) (ht : P.underlying t = some (.slice e)) (hi : P.info? e = some i) (hz : i.zero = some z)
    (hzs : z.cells.size = i.size) (s : Option Addr) (n : Nat) (xs : List Value) (hxl : xs.length = n * i.size) (hxs : ∀ ad, s = some ad → ∀ j u, xs[j]? = some u → w.cell? (ad.add j) = some u) (hs0 : s = none → n = 0)
    (a : Addr) (m c : Nat) (news : List Value) (hl : news.length = m * i.size) (hnews : ∀ j u, news[j]? = some u → w.cell? (a.add j) = some u)
    (hm : 0 < m) (hbytes : (n + m) * i.bytes ≤ 140737488355328) (h63 : n + m ≤ maxLen) :
    ∃ v' w', (Builtin.append_ #[t, t] ty #[.slice s n n, .slice (some a) m c]).run P w = .ok v' w' ∧ w'.ownsRow 0 e i.size v' (n + m) (xs ++ news) ∧ w.grownBy w' none ∧ v'.ownBlock = some w.heap.size := by
  have hsmall : n + m ≤ 9223372036854775807 := by simp only [maxLen] at h63; omega
  have hlen : (xs ++ news).length = (n + m) * i.size := by rw [List.length_append, hxl, hl, Nat.add_mul]
  have grown : ∀ (old : Nat), old < n + m →
      (w.drew.alloc (.cells (xs.toArray ++ news.toArray ++ Builtin.zeroCells z.cells (grownCap w (n + m) old e - (n + m))) e)).ownsRow 0 e i.size
        (.slice (some ⟨w.heap.size, 0, none⟩) (n + m) (grownCap w (n + m) old e)) (n + m) (xs ++ news) ∧
      w.grownBy (w.drew.alloc (.cells (xs.toArray ++ news.toArray ++ Builtin.zeroCells z.cells (grownCap w (n + m) old e - (n + m))) e)) none := by
    intro old ho
    have hge := grownCap_ge w (n + m) old e
    have hcm : grownCap w (n + m) old e ≤ maxLen := grownCap_le_maxLen w (n + m) old e h63
    refine ⟨⟨hlen, .inr ⟨w.heap.size, _, _, rfl, Nat.zero_le _, heap_alloc_new w.drew _, hge, hcm, ?_, ?_⟩⟩, ⟨rfl, rfl, rfl, by simp, fun k hk _ => heap_alloc_old w.drew _ k hk⟩⟩
    · simp only [Array.size_append, List.size_toArray, size_zeroCells, hzs, hxl, hl, ← Nat.add_mul]
      congr 1
      omega
    · simp only [Array.toList_append, List.append_assoc]
      rw [← List.append_assoc, ← hlen]
      exact List.take_left
  cases s with
  | none =>
    have hn0 := hs0 rfl
    subst hn0
    have hx : xs = [] := List.eq_nil_of_length_eq_zero (by simpa using hxl)
    subst hx
    have hr := run_append_nil (P := P) w t ty e i z ht hi hz a m c news hl hnews (by omega) (by omega) (by have hb := hbytes; simp only [Nat.zero_add] at hb; omega)
    have hgr := grown 0 (by omega)
    simp only [Nat.zero_add, List.nil_append, Array.empty_append] at hgr ⊢
    exact ⟨_, _, hr, hgr.1, hgr.2, rfl⟩
  | some ad =>
    have hr := run_append_grow (P := P) w t ty e i z ht hi hz ad n n xs hxl (hxs ad rfl) a m c news hl hnews (by omega) (by omega) (growslice_fits (by omega) hbytes)
    have hgr := grown n (by omega)
    exact ⟨_, _, hr, hgr.1, hgr.2, rfl⟩
end
end Go.Ab
end
section
/- The abstract layer, part J: boxes: a new one; a cell that is written; a value that comes into a cell. -/
namespace Go.Ab
open Go.RowKit

def setCell (bs : List (List AV)) (b j : Nat) (v : AV) : List (List AV) := match bs[b]? with
  | some cs => bs.set b (cs.set j v)
  | none => bs
theorem setCell_len (bs : List (List AV)) (b j : Nat) (v : AV) : (setCell bs b j v).length = bs.length := by unfold setCell; split <;> simp
theorem setCell_other {bs : List (List AV)} {b j : Nat} {v : AV} {b' : Nat} (h : b' ≠ b) : (setCell bs b j v)[b']? = bs[b']? := by
  unfold setCell; split
  · rw [List.getElem?_set_ne (Ne.symm h)]
  · rfl
theorem setCell_same {bs : List (List AV)} {b j : Nat} {v : AV} {cs : List AV} (h : bs[b]? = some cs) : (setCell bs b j v)[b]? = some (cs.set j v) := by
  have hb : b < bs.length := by
    rcases Nat.lt_or_ge b bs.length with h1 | h1
    · exact h1
    · rw [List.getElem?_eq_none h1] at h; cases h
  unfold setCell; simp only [h]; rw [List.getElem?_set_self hb]

def ASt.setC (st : ASt) (b j : Nat) (v : AV) : ASt := { st with b := setCell st.b b j v }
theorem cellAt_setC {st : ASt} {b j : Nat} {v : AV} (b' j' : Nat) : (st.setC b j v).cellAt b' j' = if b' = b ∧ j' = j then (st.cellAt b j).map (fun _ => v) else st.cellAt b' j' := by
  unfold ASt.setC ASt.cellAt
  by_cases hb : b' = b
  · subst hb
    cases hc : st.b[b']? with
    | none =>
      have : (setCell st.b b' j v)[b']? = none := by unfold setCell; simp [hc]
      simp [this]
    | some cs =>
      simp only [setCell_same hc, Option.bind_some, true_and]
      by_cases hj : j' = j
      · subst hj
        simp only [if_true]
        rcases Nat.lt_or_ge j' cs.length with h | h
        · simp [h]
        · simp [List.getElem?_eq_none h]; omega
      · simp only [hj, if_false]; rw [List.getElem?_set_ne (Ne.symm hj)]
  · simp only [hb, false_and, if_false]; rw [setCell_other hb]

def Gh.setX (g : Gh) (b j : Nat) (v : Value) : Gh := { g with χ := fun b' j' => if b' = b ∧ j' = j then v else g.χ b' j' }

/-- A leaf that may come into a cell as it is. -/
def AV.leafOk : AV → Bool
  | .sc v => v.oneCell'
  | .nil | .sl _ _ | .bp _ _ | .rp _ => true
  | .fn _ f c => noRefL f && noRefL c
  | _ => false
theorem leafOk_noRef {a : AV} (h : a.leafOk = true) : a.noRef = true := by cases a <;> simp_all [AV.leafOk, AV.noRef]
theorem leafOk_one {w : World} {g : Gh} {a : AV} {x : Value} (h : a.leafOk = true) (hv : Rv w g a x) : x.oneCell' = true := by
  cases hv <;> simp_all [AV.leafOk, Value.oneCell']
  rename_i hs; cases hs <;> rfl
theorem leafOk_ow {a : AV} (h : a.leafOk = true) : ∀ sz l, a ≠ .ow sz l := by rintro sz l rfl; cases h

section
variable {C : Env} {E : Entry} {st : ASt} {a : Act} {w w' : World} {g : Gh}

/-- What is needed to put a word about the cell (b, j) in the place of another one, the heap as it is. -/
theorem Rel.recell (h : Rel C E st a w g) {b j : Nat} {old new : AV} (hold : st.cellAt b j = some old) (hno : ∀ sz l, new ≠ .ow sz l)
    (hnew : ∀ x, w.cell? ⟨g.β b, j, none⟩ = some x → CellV w g st.b.length b j new x) : Rel C E (st.setC b j new) a w g := by
  have hlen : (st.setC b j new).b.length = st.b.length := setCell_len _ _ _ _
  have hl : ∀ x m, live (st.setC b j new) g x = some m → live st g x = some m := by
    intro x m hx
    cases x with
    | row k => exact hx
    | box b' => simp only [live, hlen] at hx ⊢; exact hx
    | lp i => exact hx
    | cel b' j' =>
      simp only [live, cellAt_setC] at hx ⊢
      by_cases e : b' = b ∧ j' = j
      · simp only [e, and_self, if_true, hold, Option.map_some] at hx
        split at hx
        · rename_i sz l he; exact absurd (Option.some.inj he) (hno sz l)
        · cases hx
      · simp only [e, if_false] at hx; exact hx
  exact {
    size := h.size, slots := h.slots
    bx := fun t v ht => by rw [hlen]; exact h.bx t v ht
    rows := h.rows
    boxes := fun b' cs hb _ => by
      rw [hlen]
      by_cases e : b' = b
      · subst e
        cases hc : st.b[b']? with
        | none => simp [ASt.cellAt, hc] at hold
        | some cs0 =>
          simp only [ASt.setC, setCell_same hc, Option.some.injEq] at hb; subst hb
          obtain ⟨c, T, h1, h2, h3⟩ := h.boxes b' cs0 hc (by simp)
          refine ⟨c, T, h1, by simp [h2], fun i u x hi hx => ?_⟩
          by_cases ej : i = j
          · subst ej
            have : (cs0.set i new)[i]? = some u := hi
            rw [List.getElem?_set_self (by
              rcases Nat.lt_or_ge i cs0.length with h | h
              · exact h
              · rw [List.getElem?_eq_none (by simpa using h)] at this; cases this)] at this
            simp only [Option.some.injEq] at this; subst this
            exact hnew x (by rw [cell_at h1]; exact hx)
          · rw [List.getElem?_set_ne (Ne.symm ej)] at hi; exact h3 i u x hi hx
      · simp only [ASt.setC, setCell_other e] at hb; exact h.boxes b' cs hb (by simp)
    crows := fun b' j' sz l hc _ => by
      rw [cellAt_setC] at hc
      by_cases e : b' = b ∧ j' = j
      · simp only [e, and_self, if_true, hold, Option.map_some, Option.some.injEq] at hc; exact absurd hc (hno sz l)
      · simp only [e, if_false] at hc; exact h.crows b' j' sz l hc (by simp)
    disj := fun x y m hx hy => h.disj x y m (hl x m hx) (hl y m hy)
    mine := fun x m hx => h.mine x m (hl x m hx)
    kept := h.kept, stab := h.stab, stab0 := h.stab0
    beta := ⟨by rw [hlen]; exact h.beta.1, h.beta.2⟩
    os := h.os, tape := h.tape, output := h.output, grown := h.grown, glob := h.glob, lpc := h.lpc }

/-- The row in a cell is shared from now on. -/
def ASt.shareC (st : ASt) (b j : Nat) : ASt := match st.cellAt b j with
  | some (.ow sz l) => { st.setC b j (.sl sz l) with s := st.s.map fun p => (p.1, subAC b j (.sl sz l) p.2) }
  | _ => st

theorem Rel.shareC (h : Rel C E st a w g) (b j : Nat) : ∃ g', Rel C E (st.shareC b j) a w g' ∧ g'.β = g.β ∧ g'.κ = g.κ ∧ g'.χ = g.χ ∧ (∀ m, g.N m → g'.N m) ∧
    ∀ sz l, st.cellAt b j = some (.ow sz l) → Sh w g'.N (.sl sz l) (g.χ b j) := by
  unfold ASt.shareC
  split
  · rename_i sz l hc
    have hr := h.crows b j sz l hc (by simp)
    have hlv : ∀ m, (g.χ b j).ownBlock = some m → live st g (.cel b j) = some m := fun m hm => by rw [live_cel hc]; exact hm
    have hN : ∀ m, g.N m → g.N m ∨ (g.χ b j).ownBlock = some m := fun m hm => .inl hm
    have hsh : Sh w (fun m => g.N m ∨ (g.χ b j).ownBlock = some m) (.sl sz l) (g.χ b j) := hr.sh hN (fun m hm => .inr hm)
    have hlen : (st.setC b j (.sl sz l)).b.length = st.b.length := setCell_len _ _ _ _
    have hl : ∀ x m, live { st.setC b j (.sl sz l) with s := st.s.map fun p => (p.1, subAC b j (.sl sz l) p.2) } { g with N := fun m => g.N m ∨ (g.χ b j).ownBlock = some m } x = some m → live st g x = some m ∧ x ≠ .cel b j := by
      intro x m hx
      cases x with
      | row k => exact ⟨hx, by simp⟩
      | box b' => simp only [live, hlen] at hx ⊢; exact ⟨hx, by simp⟩
      | lp i => exact ⟨hx, by simp⟩
      | cel b' j' =>
        have hx' : live (st.setC b j (.sl sz l)) g (.cel b' j') = some m := hx
        simp only [live, cellAt_setC] at hx' ⊢
        by_cases e : b' = b ∧ j' = j
        · simp [e, hc] at hx'
        · simp only [e, if_false] at hx'; exact ⟨hx', by simpa using e⟩
    refine ⟨{ g with N := fun m => g.N m ∨ (g.χ b j).ownBlock = some m }, {
      size := h.size
      slots := fun t v ht => by
        simp only at ht
        rw [get_map, Option.map_eq_some_iff] at ht
        obtain ⟨v', ht, rfl⟩ := ht
        obtain ⟨x, h1, h2⟩ := h.slots t v' ht
        exact ⟨x, h1, h2.subC hN (fun _ => rfl) (fun _ _ _ => rfl) (fun _ _ => rfl) (.sl hsh)⟩
      bx := fun t v ht => by
        simp only at ht
        rw [get_map, Option.map_eq_some_iff] at ht
        obtain ⟨v', ht, rfl⟩ := ht
        simp only [hlen]
        exact subC_mb b j _ _ (by simp [AV.mb]) v' (h.bx t v' ht)
      rows := fun k p hp _ => (h.rows k p hp (by simp)).kept (fun m hm => ⟨.inl hm, rfl⟩) (fun _ _ => rfl)
      boxes := fun b' cs hb _ => by
        simp only [hlen]
        by_cases e : b' = b
        · subst e
          cases hcs : st.b[b']? with
          | none => simp [ASt.cellAt, hcs] at hc
          | some cs0 =>
            simp only [ASt.setC, setCell_same hcs, Option.some.injEq] at hb; subst hb
            have hlt : b' < st.b.length := cellAt_lt hc
            obtain ⟨c, T, h1, h2, h3⟩ := (h.boxes b' cs0 hcs (by simp)).kept (w' := w) (g' := { g with N := fun m => g.N m ∨ (g.χ b' j).ownBlock = some m }) hlt (fun m hm => ⟨.inl hm, rfl⟩) (fun _ => rfl) (fun _ _ => rfl) (Nat.le_refl _) rfl
            refine ⟨c, T, h1, by simp [h2], fun i u x hi hx => ?_⟩
            by_cases ej : i = j
            · subst ej
              have hcj : cs0[i]? = some (.ow sz l) := by simpa [ASt.cellAt, hcs] using hc
              have hlt' : i < cs0.length := by
                rcases Nat.lt_or_ge i cs0.length with h | h
                · exact h
                · rw [List.getElem?_eq_none h] at hcj; cases hcj
              rw [List.getElem?_set_self hlt'] at hi
              simp only [Option.some.injEq] at hi; subst hi
              have hx2 := h3 i _ x hcj hx
              simp only [CellV] at hx2
              subst hx2
              exact ⟨.sl hsh, rfl, hsh.one, by simp [AV.mb]⟩
            · rw [List.getElem?_set_ne (Ne.symm ej)] at hi; exact h3 i u x hi hx
        · simp only [ASt.setC, setCell_other e] at hb
          exact (h.boxes b' cs hb (by simp)).kept (by have := live_box (g := g) hb; simp [live] at this; exact this) (fun m hm => ⟨.inl hm, rfl⟩) (fun _ => rfl) (fun _ _ => rfl) (Nat.le_refl _) rfl
      crows := fun b' j' sz' l' hc' _ => by
        have hc' : (st.setC b j (.sl sz l)).cellAt b' j' = some (.ow sz' l') := hc'
        rw [cellAt_setC] at hc'
        by_cases e : b' = b ∧ j' = j
        · simp [e, hc] at hc'
        · simp only [e, if_false] at hc'
          exact (h.crows b' j' sz' l' hc' (by simp)).kept (fun m hm => ⟨.inl hm, rfl⟩) (fun _ _ => rfl)
      disj := fun x y m hx hy => h.disj x y m (hl x m hx).1 (hl y m hy).1
      mine := fun x m hx => by
        obtain ⟨h1, h2⟩ := hl x m hx
        obtain ⟨h3, h4, h5⟩ := h.mine x m h1
        refine ⟨fun hn => ?_, h4, h5⟩
        rcases hn with hn | hn
        · exact h3 hn
        · exact h2 (h.disj x (.cel b j) m h1 (hlv m hn))
      kept := h.kept
      stab := fun m hm => by
        rcases hm with hm | hm
        · exact h.stab m hm
        · obtain ⟨_, h4, h5⟩ := h.mine (.cel b j) m (hlv m hm)
          exact ⟨h5, .inr h4⟩
      stab0 := fun m hm => .inl (h.stab0 m hm)
      beta := ⟨by simp only [hlen]; exact h.beta.1, h.beta.2⟩
      os := h.os, tape := h.tape, output := h.output, grown := h.grown
      glob := h.glob.kept (fun m hm => ⟨.inl hm, rfl⟩)
      lpc := h.lpc }, rfl, rfl, rfl, hN, fun sz' l' e => by
        rw [hc] at e; simp only [Option.some.injEq, AV.ow.injEq] at e; obtain ⟨rfl, rfl⟩ := e; exact hsh⟩
  · rename_i hne
    exact ⟨g, h, rfl, rfl, rfl, fun _ hm => hm, fun sz l e => absurd e (hne sz l)⟩

/-- The row k moves into the cell (b, j), which holds its value. -/
def ASt.moveC (st : ASt) (k b j sz : Nat) (l : List AV) : ASt :=
  { st.setC b j (.ow sz l) with s := st.s.map fun p => (p.1, subA k (.ocl b j) p.2), r := del st.r k }

theorem Rel.moveC (h : Rel C E st a w g) {k b j sz : Nat} {l : List AV} {old : AV} (hk : get st.r k = some (sz, l)) (hold : st.cellAt b j = some old) (how : ∀ sz l, old ≠ .ow sz l)
    (hnoc : ∀ t v, get st.s t = some v → v.hasCel b j = false) (hx : w.cell? ⟨g.β b, j, none⟩ = some (g.κ k)) : Rel C E (st.moveC k b j sz l) a w (g.setX b j (g.κ k)) := by
  have hlen : (st.setC b j (.ow sz l)).b.length = st.b.length := setCell_len _ _ _ _
  have hχ : ∀ b' j', ¬ (b' = b ∧ j' = j) → (g.setX b j (g.κ k)).χ b' j' = g.χ b' j' := fun b' j' e => by simp [Gh.setX, e]
  have hχs : (g.setX b j (g.κ k)).χ b j = g.κ k := by simp [Gh.setX]
  have hr := h.rows k _ hk (by simp)
  have hlv : ∀ m, (g.κ k).ownBlock = some m → live st g (.row k) = some m := fun m hm => by rw [live_row hk]; exact hm
  -- what is live now was live before: the cell's row in the row's place
  let back : Key → Key := fun x => if x = .cel b j then .row k else x
  have hl : ∀ x m, live (st.moveC k b j sz l) (g.setX b j (g.κ k)) x = some m → live st g (back x) = some m ∧ x ≠ .row k := by
    intro x m hx'
    cases x with
    | row k' =>
      simp only [live, ASt.moveC, get_del] at hx'
      by_cases e : k' = k
      · simp [e] at hx'
      · simp only [e, if_false] at hx'
        exact ⟨by simp only [back, reduceCtorEq, if_false, live]; exact hx', by simpa using e⟩
    | box b' =>
      have hx2 : (if b' < (st.setC b j (.ow sz l)).b.length then some (g.β b') else none) = some m := hx'
      rw [hlen] at hx2
      exact ⟨by simp [back, live]; simpa using hx2, by simp⟩
    | lp i =>
      have hx2 : (st.l[i]?).map (·.1) = some m := hx'
      exact ⟨by simp only [back, reduceCtorEq, if_false, live]; exact hx2, by simp⟩
    | cel b' j' =>
      have hx2 : (match (st.setC b j (.ow sz l)).cellAt b' j' with | some (.ow _ _) => ((g.setX b j (g.κ k)).χ b' j').ownBlock | _ => none) = some m := hx'
      rw [cellAt_setC] at hx2
      by_cases e : b' = b ∧ j' = j
      · obtain ⟨rfl, rfl⟩ := e
        simp only [and_self, if_true, hold, Option.map_some, hχs] at hx2
        exact ⟨by simp [back]; exact hlv m hx2, by simp⟩
      · simp only [e, if_false] at hx2
        refine ⟨?_, by simp⟩
        have : (Key.cel b' j' = Key.cel b j) = False := by simpa using e
        simp only [back, this, if_false, live]
        rw [hχ b' j' e] at hx2; exact hx2
  have hback : ∀ x y, x ≠ .row k → y ≠ .row k → back x = back y → x = y := by
    intro x y hx hy e
    simp only [back] at e
    by_cases ex : x = .cel b j <;> by_cases ey : y = .cel b j <;> simp_all
  have hcellne : ∀ b' j' sz' l', st.cellAt b' j' = some (.ow sz' l') → ¬ (b' = b ∧ j' = j) := by
    rintro b' j' sz' l' hc ⟨rfl, rfl⟩; rw [hold] at hc; exact how _ _ (Option.some.inj hc)
  exact {
    size := h.size
    slots := fun t v ht => by
      simp only [ASt.moveC] at ht
      rw [get_map, Option.map_eq_some_iff] at ht
      obtain ⟨v', ht, rfl⟩ := ht
      obtain ⟨x, h1, h2⟩ := h.slots t v' ht
      refine ⟨x, h1, h2.sub (fun _ hm => hm) (fun _ _ _ => rfl) (fun b' j' hh => hχ b' j' (fun e => by rw [e.1, e.2, hnoc t v' ht] at hh; cases hh)) (fun _ _ => rfl) ?_⟩
      have := Rv.ocl (w := w) (g := g.setX b j (g.κ k)) b j
      rw [hχs] at this; exact this
    bx := fun t v ht => by
      simp only [ASt.moveC] at ht
      rw [get_map, Option.map_eq_some_iff] at ht
      obtain ⟨v', ht, rfl⟩ := ht
      have hb : b < st.b.length := cellAt_lt hold
      show _ ≤ (st.setC b j (.ow sz l)).b.length
      rw [hlen]
      exact sub_mb k _ _ (by simp [AV.mb]; omega) v' (h.bx t v' ht)
    rows := fun k' p hp _ => by
      simp only [ASt.moveC, get_del] at hp
      split at hp
      · cases hp
      · exact h.rows k' p hp (by simp)
    boxes := fun b' cs hb _ => by
      show BoxR w _ (st.setC b j (.ow sz l)).b.length b' cs
      rw [hlen]
      have hb : (st.setC b j (.ow sz l)).b[b']? = some cs := hb
      by_cases e : b' = b
      · subst e
        cases hcs : st.b[b']? with
        | none => simp [ASt.cellAt, hcs] at hold
        | some cs0 =>
          simp only [ASt.setC, setCell_same hcs, Option.some.injEq] at hb; subst hb
          obtain ⟨c, T, h1, h2, h3⟩ := h.boxes b' cs0 hcs (by simp)
          refine ⟨c, T, h1, by simp [h2], fun i u x hi hx' => ?_⟩
          by_cases ej : i = j
          · subst ej
            have hcj : cs0[i]? = some old := by simpa [ASt.cellAt, hcs] using hold
            have hlt' : i < cs0.length := by
              rcases Nat.lt_or_ge i cs0.length with h | h
              · exact h
              · rw [List.getElem?_eq_none h] at hcj; cases hcj
            rw [List.getElem?_set_self hlt'] at hi
            simp only [Option.some.injEq] at hi; subst hi
            simp only [CellV, hχs]
            rw [cell_at h1, hx'] at hx; exact Option.some.inj hx
          · rw [List.getElem?_set_ne (Ne.symm ej)] at hi
            have := h3 i u x hi hx'
            unfold CellV at this ⊢
            split at this
            · rw [hχ b' i (fun e => ej e.2)]; exact this
            · obtain ⟨h4, h5, h6, h7⟩ := this
              exact ⟨h4.mono (fun m hm => ⟨hm, rfl⟩) (fun _ _ => rfl) (fun b j hh => by rw [noRef_hasCel b j _ h5] at hh; cases hh) (fun _ _ => rfl), h5, h6, h7⟩
      · simp only [ASt.setC, setCell_other e] at hb
        exact (h.boxes b' cs hb (by simp)).kept (by have := live_box (g := g) hb; simp [live] at this; exact this) (fun m hm => ⟨hm, rfl⟩) (fun j' => hχ b' j' (fun e' => e e'.1)) (fun _ _ => rfl) (Nat.le_refl _) rfl
    crows := fun b' j' sz' l' hc' _ => by
      have hc' : (st.setC b j (.ow sz l)).cellAt b' j' = some (.ow sz' l') := hc'
      rw [cellAt_setC] at hc'
      by_cases e : b' = b ∧ j' = j
      · obtain ⟨rfl, rfl⟩ := e
        simp only [and_self, if_true, hold, Option.map_some, Option.some.injEq, AV.ow.injEq] at hc'
        obtain ⟨rfl, rfl⟩ := hc'
        rw [hχs]; exact hr
      · simp only [e, if_false] at hc'
        rw [hχ b' j' e]; exact h.crows b' j' sz' l' hc' (by simp)
    disj := fun x y m hx hy => by
      obtain ⟨h1, h2⟩ := hl x m hx
      obtain ⟨h3, h4⟩ := hl y m hy
      exact hback x y h2 h4 (h.disj _ _ m h1 h3)
    mine := fun x m hx => h.mine _ m (hl x m hx).1
    kept := h.kept, stab := h.stab, stab0 := h.stab0
    beta := ⟨by show E.n0 ≤ (st.setC b j (.ow sz l)).b.length; rw [hlen]; exact h.beta.1, h.beta.2⟩
    os := h.os, tape := h.tape, output := h.output, grown := h.grown
    glob := h.glob.kept (fun m hm => ⟨hm, rfl⟩)
    lpc := h.lpc }
end
end Go.Ab
end
section
/- The abstract layer, part K: fresh rows, appended rows, renamed rows; a cell of a box or of a row that is written; new boxes. -/
namespace Go.Ab
open Go.RowKit

section
variable {C : Env} {E : Entry} {st : ASt} {a : Act} {w w' : World} {g : Gh}

/-- The row under key k, whatever bore that key before. -/
def ASt.newR (st : ASt) (k sz : Nat) (l : List AV) : ASt := { st.kill k with r := Ab.put (del st.r k) k (sz, l) }

theorem live_kill {k : Nat} {x : Key} {m : Nat} (h : live (st.kill k) g x = some m) : live st g x = some m ∧ x ≠ .row k := by
  cases x with
  | row k' =>
    simp only [live, ASt.kill, get_del] at h ⊢
    by_cases e : k' = k
    · simp [e] at h
    · simp only [e, if_false] at h; exact ⟨h, by simpa using e⟩
  | box b => exact ⟨h, by simp⟩
  | cel b j => exact ⟨h, by simp⟩
  | lp i => exact ⟨h, by simp⟩

theorem Rel.fresh (h : Rel C E st a w g) (hg : w.grownBy w' none) {sz : Nat} {l : List AV} {v : Value} (hv : v.ownBlock = none ∨ v.ownBlock = some w.heap.size) (hr : RowR w' g.N sz l v) (k : Nat) :
    Rel C E (st.newR k sz l) a w' (g.setK k v) := by
  have h1 : Rel C E (st.kill k) a w' g := (h.grow hg).kill k
  refine RelX.newRow (st := st.kill k) h1 (.inl rfl) (fun t u ht => kill_no ht) hr (fun m hm => ?_)
  have em : m = w.heap.size := by
    rcases hv with hv | hv
    · rw [hv] at hm; cases hm
    · rw [hv] at hm; exact (Option.some.inj hm).symm
  subst em
  refine ⟨fun hn => ?_, .inr h.grown, fun Y _ hl => ?_⟩
  · have := (h.stab _ hn).1; omega
  · have := (h.mine Y _ (live_kill hl).1).2.2; omega

/-- The row k0 has grown (or been cut), and bears the key k from now on. -/
theorem Rel.regrown (h : Rel C E st a w g) {k0 : Nat} {p : Nat × List AV} (hk : get st.r k0 = some p) (hg : w.grownBy w' (g.κ k0).ownBlock) {sz : Nat} {l : List AV} {v : Value}
    (hv : v.ownBlock = none ∨ v.ownBlock = (g.κ k0).ownBlock ∨ v.ownBlock = some w.heap.size) (hr : RowR w' g.N sz l v) (k : Nat) : Rel C E ((st.kill k0).newR k sz l) a w' (g.setK k v) := by
  have hl0 : live st g (.row k0) = (g.κ k0).ownBlock := live_row hk
  have h1 : RelX C E (some (.row k0)) st a w' g := RelX.touch h (.row k0) (.inl rfl) (by rw [hl0]; exact hg)
  have h2 : Rel C E (st.kill k0) a w' g := (h1.kill k0).shut (by
    rintro x ⟨⟩
    refine ⟨by simp [live, ASt.kill, get_del], fun k e => by cases e; simp [ASt.kill, get_del], by simp, by simp⟩)
  have h3 : Rel C E ((st.kill k0).kill k) a w' g := h2.kill k
  refine RelX.newRow (st := (st.kill k0).kill k) h3 (.inl rfl) (fun t u ht => kill_no ht) hr (fun m hm => ?_)
  rcases hv with hv | hv | hv
  · rw [hv] at hm; cases hm
  · rw [hv] at hm
    have hlm : live st g (.row k0) = some m := by rw [hl0]; exact hm
    obtain ⟨e1, e2, _⟩ := h.mine _ m hlm
    exact ⟨e1, e2, fun Y _ hl => (live_kill (live_kill hl).1).2 (h.disj _ _ m (live_kill (live_kill hl).1).1 hlm)⟩
  · rw [hv] at hm
    have em : m = w.heap.size := (Option.some.inj hm).symm
    subst em
    refine ⟨fun hn => ?_, .inr h.grown, fun Y _ hl => ?_⟩
    · have := (h.stab _ hn).1; omega
    · have := (h.mine Y _ (live_kill (live_kill hl).1).1).2.2; omega

/-- The row k0 bears the key k from now on. -/
def ASt.ren (st : ASt) (k0 k sz : Nat) (l : List AV) : ASt :=
  { st with s := (only (fun _ v => !v.hasOwn k) st.s).map fun p => (p.1, subA k0 (.own k) p.2), r := Ab.put (del (del st.r k0) k) k (sz, l) }

theorem Rel.ren (h : Rel C E st a w g) {k0 k sz : Nat} {l : List AV} (hne : k ≠ k0) (hk : get st.r k0 = some (sz, l)) : Rel C E (st.ren k0 k sz l) a w (g.setK k (g.κ k0)) := by
  have hr := h.rows k0 _ hk (by simp)
  have h1 : Rel C E (st.kill k) a w g := h.kill k
  have hk1 : get (st.kill k).r k0 = some (sz, l) := by simp only [ASt.kill, get_del]; rw [if_neg (Ne.symm hne)]; exact hk
  have hkk : (g.setK k (g.κ k0)).κ k = g.κ k0 := by simp [Gh.setK]
  have hko : ∀ k', k' ≠ k → (g.setK k (g.κ k0)).κ k' = g.κ k' := fun k' e => by simp [Gh.setK, e]
  let back : Key → Key := fun x => if x = .row k then .row k0 else x
  have hl : ∀ x m, live (st.ren k0 k sz l) (g.setK k (g.κ k0)) x = some m → live st g (back x) = some m ∧ x ≠ .row k0 := by
    intro x m hx
    cases x with
    | row k' =>
      simp only [live, ASt.ren, get_put, get_del] at hx
      by_cases e : k' = k
      · subst e
        simp only [if_true, Option.isSome_some, hkk] at hx
        exact ⟨by simp only [back, if_true]; rw [live_row hk]; exact hx, by simpa using hne⟩
      · simp only [e, if_false] at hx
        by_cases e2 : k' = k0
        · simp [e2] at hx
        · simp only [e2, if_false, hko k' e] at hx
          have : (Key.row k' = Key.row k) = False := by simpa using e
          exact ⟨by simp only [back, this, if_false, live]; exact hx, by simpa using e2⟩
    | box b => exact ⟨hx, by simp⟩
    | cel b j => exact ⟨hx, by simp⟩
    | lp i => exact ⟨hx, by simp⟩
  have hback : ∀ x y, x ≠ .row k0 → y ≠ .row k0 → back x = back y → x = y := by
    intro x y hx hy e
    simp only [back] at e
    by_cases ex : x = .row k <;> by_cases ey : y = .row k <;> simp_all
  exact {
    size := h.size
    slots := fun t v ht => by
      simp only [ASt.ren] at ht
      rw [get_map, Option.map_eq_some_iff] at ht
      obtain ⟨v', ht, rfl⟩ := ht
      obtain ⟨x, e1, e2⟩ := h1.slots t v' ht
      refine ⟨x, e1, e2.sub (fun _ hm => hm) (fun k' _ hh => hko k' (fun e => by have := (get_only ht).2; simp only [Bool.not_eq_true'] at this; rw [e, this] at hh; cases hh)) (fun _ _ _ => rfl) (fun _ _ => rfl) ?_⟩
      have := Rv.own (w := w) (g := g.setK k (g.κ k0)) k
      rw [hkk] at this; exact this
    bx := fun t v ht => by
      simp only [ASt.ren] at ht
      rw [get_map, Option.map_eq_some_iff] at ht
      obtain ⟨v', ht, rfl⟩ := ht
      exact sub_mb k0 _ _ (by simp [AV.mb]) v' (h1.bx t v' ht)
    rows := fun k' p hp _ => by
      simp only [ASt.ren, get_put, get_del] at hp
      by_cases e : k' = k
      · subst e; simp only [if_true, Option.some.injEq] at hp; subst hp; rw [hkk]; exact hr
      · simp only [e, if_false] at hp
        split at hp
        · cases hp
        · rw [hko k' e]; exact h.rows k' p hp (by simp)
    boxes := fun b cs hb _ => (h.boxes b cs hb (by simp)).kept (by have := live_box (g := g) hb; simp [live] at this; exact this) (fun m hm => ⟨hm, rfl⟩) (fun _ => rfl) (fun _ _ => rfl) (Nat.le_refl _) rfl
    crows := h.crows
    disj := fun x y m hx hy => by
      obtain ⟨e1, e2⟩ := hl x m hx
      obtain ⟨e3, e4⟩ := hl y m hy
      exact hback x y e2 e4 (h.disj _ _ m e1 e3)
    mine := fun x m hx => h.mine _ m (hl x m hx).1
    kept := h.kept, stab := h.stab, stab0 := h.stab0, beta := h.beta, os := h.os, tape := h.tape, output := h.output, grown := h.grown
    glob := h.glob.kept (fun m hm => ⟨hm, rfl⟩)
    lpc := h.lpc }

/-- The cell (b, j) is dead: it holds some value of which nothing is told. -/
def ASt.deadC (st : ASt) (b j : Nat) : ASt := { st.setC b j .dead with s := only (fun _ v => !v.hasCel b j) st.s }

theorem RelX.killC {X : Option Key} (h : RelX C E X st a w g) (b j : Nat) : RelX C E X { st with s := only (fun _ v => !v.hasCel b j) st.s } a w g :=
  h.less _ _ (fun _ _ ht => (get_only ht).1) (fun _ _ hk => hk)

/-- A store into a cell of a box. -/
theorem Rel.storeCell (h : Rel C E st a w g) {b j : Nat} {old : AV} (hold : st.cellAt b j = some old) {x : Value} (hx : x.oneCell' = true) :
    Rel C E (st.deadC b j) a (w.setCell ⟨g.β b, j, none⟩ x) g ∧ (w.setCell ⟨g.β b, j, none⟩ x).cell? ⟨g.β b, j, none⟩ = some x ∧
      (store ⟨g.β b, j, none⟩ x).run C.P w = .ok () (w.setCell ⟨g.β b, j, none⟩ x) := by
  have hb : b < st.b.length := cellAt_lt hold
  obtain ⟨cs, hcs⟩ : ∃ cs, st.b[b]? = some cs := ⟨st.b[b], by simp [hb]⟩
  have hcj : cs[j]? = some old := by simpa [ASt.cellAt, hcs] using hold
  have hj : j < cs.length := by
    rcases Nat.lt_or_ge j cs.length with h | h
    · exact h
    · rw [List.getElem?_eq_none h] at hcj; cases hcj
  obtain ⟨c, T, h1, h2, h3⟩ := h.boxes b cs hcs (by simp)
  have hcell : w.cell? ⟨g.β b, j, none⟩ = some (c[j]'(by omega)) := by rw [cell_at h1]; simp
  have hfr : w.frozen? ⟨g.β b, j, none⟩ = false := frozen_of_row w (g.β b) j c T h1
  have hheap : (w.setCell ⟨g.β b, j, none⟩ x).heap[g.β b]? = some (.cells (c.setIfInBounds j x) T (0, 0)) := heap_setCell_same w (g.β b) j c T x h1
  have hlb : live st g (.box b) = some (g.β b) := live_box hcs
  have hgr : w.grownBy (w.setCell ⟨g.β b, j, none⟩ x) (live st g (.box b)) := by
    rw [hlb]; exact ⟨rfl, rfl, rfl, by simp, fun k _ hk => heap_setCell_other w _ k x (fun e => hk (by rw [e]))⟩
  refine ⟨?_, World.cell?_setCell_same w _ _ hcell, by rw [run_store _ _ _ _ _ hx, hcell, hfr]; rfl⟩
  have ht : RelX C E (some (.box b)) st a (w.setCell ⟨g.β b, j, none⟩ x) g := RelX.touch h (.box b) (.inl rfl) hgr
  have hN : ∀ m, g.N m → g.N m ∧ (w.setCell ⟨g.β b, j, none⟩ x).heap[m]? = w.heap[m]? := fun m hm => ⟨hm, heap_setCell_other w _ m x (fun e => (h.mine (.box b) (g.β b) hlb).1 (by rw [← (show m = g.β b from e)]; exact hm))⟩
  have h4 : RelX C E (some (.box b)) { st with s := only (fun _ v => !v.hasCel b j) st.s } a (w.setCell ⟨g.β b, j, none⟩ x) g := ht.killC b j
  have hlen : (st.deadC b j).b.length = st.b.length := setCell_len _ _ _ _
  have hl : ∀ x m, live (st.deadC b j) g x = some m → live st g x = some m := by
    intro x m hx
    cases x with
    | row k => exact hx
    | box b' => simp only [live, hlen] at hx ⊢; exact hx
    | lp i => exact hx
    | cel b' j' =>
      have hx' : live (st.setC b j .dead) g (.cel b' j') = some m := hx
      simp only [live, cellAt_setC] at hx' ⊢
      by_cases e : b' = b ∧ j' = j
      · simp [e, hold] at hx'
      · simp only [e, if_false] at hx'; exact hx'
  exact {
    size := h4.size, slots := h4.slots
    bx := fun t v ht => by rw [hlen]; exact h4.bx t v ht
    rows := fun k p hk _ => h4.rows k p hk (by simp)
    boxes := fun b' cs' hb' _ => by
      rw [hlen]
      have hb' : (st.setC b j .dead).b[b']? = some cs' := hb'
      by_cases e : b' = b
      · subst e
        simp only [ASt.setC, setCell_same hcs, Option.some.injEq] at hb'; subst hb'
        refine ⟨_, T, hheap, by simp [h2], fun i u y hi hy => ?_⟩
        by_cases ej : i = j
        · subst ej
          rw [List.getElem?_set_self hj] at hi
          simp only [Option.some.injEq] at hi; subst hi
          have : y = x := by
            rw [Array.getElem?_setIfInBounds_self_of_lt (by omega)] at hy; exact (Option.some.inj hy).symm
          subst this
          exact ⟨.dead, rfl, hx, by simp [AV.mb]⟩
        · rw [List.getElem?_set_ne (Ne.symm ej)] at hi
          rw [Array.getElem?_setIfInBounds_ne (Ne.symm ej)] at hy
          exact (h3 i u y hi hy).kept hN rfl (fun _ _ => rfl) (Nat.le_refl _)
      · simp only [ASt.setC, setCell_other e] at hb'
        exact h4.boxes b' cs' hb' (by simpa using fun e' => e e'.symm)
    crows := fun b' j' sz l hc _ => by
      have hc : (st.setC b j .dead).cellAt b' j' = some (.ow sz l) := hc
      rw [cellAt_setC] at hc
      by_cases e : b' = b ∧ j' = j
      · simp [e, hold] at hc
      · simp only [e, if_false] at hc; exact h4.crows b' j' sz l hc (by simp)
    disj := fun x y m hx hy => h.disj x y m (hl x m hx) (hl y m hy)
    mine := fun x m hx => by have := h.mine x m (hl x m hx); simpa using this
    kept := h4.kept, stab := h4.stab, stab0 := h4.stab0
    beta := ⟨by rw [hlen]; exact h.beta.1, h.beta.2⟩
    os := h4.os, tape := h4.tape, output := h4.output, grown := h4.grown, glob := h4.glob, lpc := fun i p hp _ => h4.lpc i p hp (by simp) }

theorem deadC_no {b j t : Nat} {u : AV} (h : get (st.deadC b j).s t = some u) : u.hasCel b j = false := by
  have := (get_only h).2; simpa using this
theorem deadC_at {b j : Nat} {old : AV} (h : st.cellAt b j = some old) : (st.deadC b j).cellAt b j = some .dead := by
  have : (st.setC b j .dead).cellAt b j = some .dead := by rw [cellAt_setC]; simp [h]
  exact this

/-- An element's leaf. -/
def updEl (e : AV) (off : Nat) (v : AV) : AV := match e with
  | .agg cs => .agg (cs.set off v)
  | _ => v
theorem updEl_cells {e v : AV} {off : Nat} (hv : v.cells = [v]) (ho : off < e.cells.length) : (updEl e off v).cells = e.cells.set off v := by
  unfold updEl; split
  · rfl
  · rename_i hne
    have he : e.cells = [e] := by cases e <;> first | rfl | exact absurd rfl (hne _)
    rw [he] at ho ⊢
    have : off = 0 := by simpa using ho
    subst this; rw [hv]; rfl

/-- A store of one leaf into an element of a row. -/
theorem RowR.set {sz : Nat} {l : List AV} {v : Value} {m len cap i off : Nat} {e u : AV} {x : Value} (hr : RowR w g.N sz l v) (hv : v = .slice (some ⟨m, 0, none⟩) len cap) (hm : ¬ g.N m) (he : l[i]? = some e) (ho : off < sz) (hu : Sh w g.N u x) :
    RowR (w.setCell ⟨m, i * sz + off, none⟩ x) g.N sz (l.set i (updEl e off u)) v ∧ (store ⟨m, i * sz + off, none⟩ x).run C.P w = .ok () (w.setCell ⟨m, i * sz + off, none⟩ x) ∧
      w.grownBy (w.setCell ⟨m, i * sz + off, none⟩ x) v.ownBlock := by
  obtain ⟨h0, ty, ys, hown, hun, hx⟩ := hr
  have hi : i < l.length := by
    rcases Nat.lt_or_ge i l.length with h | h
    · exact h
    · rw [List.getElem?_eq_none h] at he; cases he
  have hel : e.cells.length = sz := hun e (List.mem_of_getElem? he)
  have hle : i * sz + sz ≤ l.length * sz := by rw [← Nat.succ_mul]; exact Nat.mul_le_mul_right _ hi
  rcases hown.2 with ⟨h2, _⟩ | ⟨m', cap', cur, h1, hb, h3, h4, h5, h6, h7⟩
  · rw [h2] at hv; cases hv
  · have hv' := hv
    rw [h1] at hv'
    simp only [Value.slice.injEq, Option.some.injEq, Addr.mk.injEq, and_true] at hv'
    obtain ⟨rfl, hlen, rfl⟩ := hv'
    have hcap : l.length * sz ≤ cap' * sz := Nat.mul_le_mul_right _ h4
    have hcell : w.cell? ⟨m', i * sz + off, none⟩ = some (cur[i * sz + off]'(by omega)) := by rw [cell_at h3]; simp
    have hfr : w.frozen? ⟨m', i * sz + off, none⟩ = false := frozen_of_row w m' _ cur ty h3
    have hheap : (w.setCell ⟨m', i * sz + off, none⟩ x).heap[m']? = some (.cells (cur.setIfInBounds (i * sz + off) x) ty (0, 0)) := heap_setCell_same w m' _ cur ty x h3
    have hN : ∀ k, g.N k → g.N k ∧ (w.setCell ⟨m', i * sz + off, none⟩ x).heap[k]? = w.heap[k]? := fun k hk => ⟨hk, heap_setCell_other w _ k x (fun e => hm (by rw [← (show k = m' from e)]; exact hk))⟩
    have huc := updEl_cells (e := e) hu.len1 (by omega : off < e.cells.length)
    have hun' : ∀ a ∈ l.set i (updEl e off u), a.cells.length = sz := fun a ha => by
      rcases List.mem_or_eq_of_mem_set ha with ha | rfl
      · exact hun a ha
      · rw [huc]; simpa using hel
    refine ⟨⟨h0, ty, ys.set (i * sz + off) x, ⟨by simpa using hown.1, .inr ⟨m', cap', cur.setIfInBounds (i * sz + off) x, by simpa using h1, hb, hheap, by simpa using h4, h5, by simpa using h6, ?_⟩⟩, hun', fun k a y ha hy => ?_⟩, by rw [run_store _ _ _ _ _ hu.one, hcell, hfr]; rfl, ?_⟩
    · rw [List.length_set, Array.toList_setIfInBounds, ← h7, List.take_set]
    · by_cases ek : k = i * sz + off
      · subst ek
        rw [List.getElem?_set_self (by rw [hown.1]; omega)] at hy
        simp only [Option.some.injEq] at hy; subst hy
        rw [flat_get hun' i off ho, List.getElem?_set_self hi] at ha
        simp only [Option.bind_some, huc] at ha
        rw [List.getElem?_set_self (by omega)] at ha
        simp only [Option.some.injEq] at ha; subst ha
        exact hu.mono hN
      · rw [List.getElem?_set_ne (Ne.symm ek)] at hy
        refine (hx k a y ?_ hy).mono hN
        -- the same leaf as before
        have hk : k < l.length * sz := by
          rcases Nat.lt_or_ge k (l.length * sz) with h | h
          · exact h
          · rw [List.getElem?_eq_none (by rw [hown.1]; exact h)] at hy; cases hy
        have ediv : k = (k / sz) * sz + k % sz := by rw [Nat.mul_comm]; exact (Nat.div_add_mod k sz).symm
        have hmod : k % sz < sz := Nat.mod_lt _ h0
        rw [ediv, flat_get hun' _ _ hmod] at ha
        rw [ediv, flat_get hun _ _ hmod]
        by_cases ei : k / sz = i
        · rw [ei, List.getElem?_set_self hi] at ha
          simp only [Option.bind_some, huc] at ha
          rw [List.getElem?_set_ne (fun e => ek (by rw [ediv, ei, e]))] at ha
          rw [ei, he]; exact ha
        · rw [List.getElem?_set_ne (fun e => ei e.symm)] at ha; exact ha
    · rw [h1]
      exact ⟨rfl, rfl, rfl, by simp, fun k _ hk => heap_setCell_other w _ k x (fun e => hk (by rw [e]; rfl))⟩
end
end Go.Ab
end
section
/- The abstract layer, part L: new boxes, values that come into cells, stores. -/
namespace Go.Ab
open Go.RowKit

mutual
theorem sub_noCel (b j k : Nat) (u : AV) (hu : u.hasCel b j = false) : ∀ (a : AV), a.hasCel b j = false → (subA k u a).hasCel b j = false
  | .own k', _ => by simp only [subA]; split <;> simp_all [AV.hasCel]
  | .ep k' i sz o, _ => by simp only [subA]; split <;> simp [AV.hasCel]
  | .agg cs, h => by simp only [subA, AV.hasCel] at *; exact subL_noCel b j k u hu cs h
  | .tup cs, h => by simp only [subA, AV.hasCel] at *; exact subL_noCel b j k u hu cs h
  | .fn f x c, h => by simp only [subA, AV.hasCel, Bool.or_eq_false_iff] at *; exact ⟨subL_noCel b j k u hu x h.1, subL_noCel b j k u hu c h.2⟩
  | .sc _, h | .nil, h | .sl _ _, h | .slx _ _, h | .ow _ _, h | .ocl _ _, h | .bp _ _, h | .rp _, h | .ec _ _ _ _ _, h | .dead, h => by simpa only [subA] using h
theorem subL_noCel (b j k : Nat) (u : AV) (hu : u.hasCel b j = false) : ∀ (l : List AV), hasCelL b j l = false → hasCelL b j (subL k u l) = false
  | [], _ => rfl
  | a :: l, h => by simp only [subL, hasCelL, Bool.or_eq_false_iff] at *; exact ⟨sub_noCel b j k u hu a h.1, subL_noCel b j k u hu l h.2⟩
end
mutual
theorem subC_noCel (b j b' j' : Nat) (u : AV) (hu : u.hasCel b j = false) : ∀ (a : AV), a.hasCel b j = false → (subAC b' j' u a).hasCel b j = false
  | .ocl b' j', h => by simp only [subAC]; split <;> simp_all
  | .ec b' j' i sz o, h => by simp only [subAC]; split <;> simp_all [AV.hasCel]
  | .agg cs, h => by simp only [subAC, AV.hasCel] at *; exact subCL_noCel b j b' j' u hu cs h
  | .tup cs, h => by simp only [subAC, AV.hasCel] at *; exact subCL_noCel b j b' j' u hu cs h
  | .fn f x c, h => by simp only [subAC, AV.hasCel, Bool.or_eq_false_iff] at *; exact ⟨subCL_noCel b j b' j' u hu x h.1, subCL_noCel b j b' j' u hu c h.2⟩
  | .sc _, h | .nil, h | .sl _ _, h | .slx _ _, h | .ow _ _, h | .own _, h | .bp _ _, h | .rp _, h | .ep _ _ _ _, h | .dead, h => by simpa only [subAC] using h
theorem subCL_noCel (b j b' j' : Nat) (u : AV) (hu : u.hasCel b j = false) : ∀ (l : List AV), hasCelL b j l = false → hasCelL b j (subCL b' j' u l) = false
  | [], _ => rfl
  | a :: l, h => by simp only [subCL, hasCelL, Bool.or_eq_false_iff] at *; exact ⟨subC_noCel b j b' j' u hu a h.1, subCL_noCel b j b' j' u hu l h.2⟩
end

section
variable {C : Env} {E : Entry} {st : ASt} {a : Act} {w w' : World} {g : Gh}

/-- A row of cells that comes to be and stays as it is. -/
theorem Rel.freshSh (h : Rel C E st a w g) (hg : w.grownBy w' none) (hs : w.heap.size < w'.heap.size) : Rel C E st a w' { g with N := fun m => g.N m ∨ m = w.heap.size } := by
  have h1 : Rel C E st a w' g := h.grow hg
  have hN : ∀ m, g.N m → (g.N m ∨ m = w.heap.size) ∧ w'.heap[m]? = w'.heap[m]? := fun m hm => ⟨.inl hm, rfl⟩
  exact {
    size := h1.size
    slots := fun t v ht => let ⟨x, e1, e2⟩ := h1.slots t v ht; ⟨x, e1, e2.mono hN (fun _ _ => rfl) (fun _ _ _ => rfl) (fun _ _ => rfl)⟩
    bx := h1.bx
    rows := fun k p hp _ => (h1.rows k p hp (by simp)).kept hN (fun _ _ => rfl)
    boxes := fun b cs hb _ => (h1.boxes b cs hb (by simp)).kept (by have := live_box (g := g) hb; simp [live] at this; exact this) hN (fun _ => rfl) (fun _ _ => rfl) (Nat.le_refl _) rfl
    crows := fun b j sz l hc _ => (h1.crows b j sz l hc (by simp)).kept hN (fun _ _ => rfl)
    disj := h1.disj
    mine := fun x m hx => by
      obtain ⟨e1, e2, e3⟩ := h1.mine x m hx
      have e4 := (h.mine x m hx).2.2
      exact ⟨fun hn => hn.elim e1 (fun e => by omega), e2, e3⟩
    kept := h1.kept
    stab := fun m hm => by
      rcases hm with hm | rfl
      · exact h1.stab m hm
      · exact ⟨hs, .inr (.inr h.grown)⟩
    stab0 := fun m hm => .inl (h1.stab0 m hm)
    beta := h1.beta, os := h1.os, tape := h1.tape, output := h1.output, grown := h1.grown
    glob := h1.glob.kept hN
    lpc := h1.lpc }

def ASt.newB (st : ASt) (n : Nat) : ASt := { st with b := st.b ++ [List.replicate n .dead] }
def Gh.setB (g : Gh) (b m : Nat) : Gh := { g with β := fun b' => if b' = b then m else g.β b' }

/-- A new box, of whose cells nothing is told yet. -/
theorem Rel.newBox (h : Rel C E st a w g) (c : Array Value) (T : TypeId) (hc : ∀ x ∈ c, x.oneCell' = true) : Rel C E (st.newB c.size) a (w.alloc (.cells c T)) (g.setB st.b.length w.heap.size) := by
  have h1 : Rel C E st a (w.alloc (.cells c T)) g := h.grow (World.grownBy_alloc w _ none)
  have hβ : ∀ b, b < st.b.length → (g.setB st.b.length w.heap.size).β b = g.β b := fun b hb => by simp only [Gh.setB]; rw [if_neg (by omega)]
  have hβ' : (g.setB st.b.length w.heap.size).β st.b.length = w.heap.size := by simp [Gh.setB]
  have hlen : (st.newB c.size).b.length = st.b.length + 1 := by simp [ASt.newB]
  have hN : ∀ m, g.N m → (g.setB st.b.length w.heap.size).N m ∧ (w.alloc (.cells c T)).heap[m]? = (w.alloc (.cells c T)).heap[m]? := fun m hm => ⟨hm, rfl⟩
  have hat : ∀ b j, (st.newB c.size).cellAt b j = if b = st.b.length then (if j < c.size then some .dead else none) else st.cellAt b j := by
    intro b j
    unfold ASt.newB ASt.cellAt
    by_cases e : b = st.b.length
    · subst e; simp [List.getElem?_replicate]
    · simp only [e, if_false]
      rcases Nat.lt_or_ge b st.b.length with hlt | hge
      · rw [List.getElem?_append_left hlt]
      · rw [List.getElem?_eq_none (by simp; omega), List.getElem?_eq_none hge]
  have hl : ∀ x m, live (st.newB c.size) (g.setB st.b.length w.heap.size) x = some m → (x = .box st.b.length ∧ m = w.heap.size) ∨ (x ≠ .box st.b.length ∧ live st g x = some m) := by
    intro x m hx
    cases x with
    | row k => exact .inr ⟨by simp, hx⟩
    | box b =>
      simp only [live, hlen] at hx
      by_cases e : b = st.b.length
      · subst e; simp only [hβ', Nat.lt_add_one, if_true, Option.some.injEq] at hx; exact .inl ⟨rfl, hx.symm⟩
      · split at hx
        · rename_i hlt
          have hlt' : b < st.b.length := by omega
          simp only [hβ b hlt', Option.some.injEq] at hx
          exact .inr ⟨by simpa using e, by simp [live, hlt', hx]⟩
        · cases hx
    | cel b j =>
      simp only [live, hat] at hx
      by_cases e : b = st.b.length
      · simp only [e, if_true] at hx; split at hx
        · rename_i he; split at he <;> cases he
        · cases hx
      · simp only [e, if_false] at hx; exact .inr ⟨by simp, hx⟩
    | lp i => exact .inr ⟨by simp, hx⟩
  exact {
    size := h1.size
    slots := fun t v ht => let ⟨x, e1, e2⟩ := h1.slots t v ht; ⟨x, e1, e2.mono hN (fun _ _ => rfl) (fun _ _ _ => rfl) (fun b hb => hβ b (by have := h.bx t v ht; omega))⟩
    bx := fun t v ht => by rw [hlen]; have := h.bx t v ht; omega
    rows := fun k p hp _ => (h1.rows k p hp (by simp)).kept hN (fun _ _ => rfl)
    boxes := fun b cs hb _ => by
      rw [hlen]
      by_cases e : b = st.b.length
      · subst e
        simp only [ASt.newB, List.getElem?_append_right (Nat.le_refl _), Nat.sub_self, List.getElem?_cons_zero, Option.some.injEq] at hb
        subst hb
        refine ⟨c, T, by rw [hβ']; exact heap_alloc_new w _, by simp, fun j u x hj hx => ?_⟩
        rw [List.getElem?_replicate] at hj
        split at hj
        · simp only [Option.some.injEq] at hj; subst hj
          exact ⟨.dead, rfl, hc x (Array.mem_of_getElem? hx), by simp [AV.mb]⟩
        · cases hj
      · have hlt : b < st.b.length := by
          rcases Nat.lt_or_ge b st.b.length with hlt | hge
          · exact hlt
          · rw [List.getElem?_eq_none (by rw [hlen]; omega)] at hb; cases hb
        simp only [ASt.newB, List.getElem?_append_left hlt] at hb
        exact (h1.boxes b cs hb (by simp)).kept hlt hN (fun _ => rfl) hβ (by omega) rfl
    crows := fun b j sz l hc' _ => by
      rw [hat] at hc'
      by_cases e : b = st.b.length
      · simp only [e, if_true] at hc'; split at hc' <;> cases hc'
      · simp only [e, if_false] at hc'; exact (h1.crows b j sz l hc' (by simp)).kept hN (fun _ _ => rfl)
    disj := fun x y m hx hy => by
      rcases hl x m hx with ⟨rfl, rfl⟩ | ⟨e1, e2⟩
      · rcases hl y _ hy with ⟨rfl, _⟩ | ⟨e3, e4⟩
        · rfl
        · have := (h.mine y _ e4).2.2; omega
      · rcases hl y m hy with ⟨rfl, rfl⟩ | ⟨e3, e4⟩
        · have := (h.mine x _ e2).2.2; omega
        · exact h.disj x y m e2 e4
    mine := fun x m hx => by
      rcases hl x m hx with ⟨rfl, rfl⟩ | ⟨e1, e2⟩
      · exact ⟨fun hn => by have := (h.stab _ hn).1; omega, .inr h.grown, by simp⟩
      · exact h1.mine x m e2
    kept := h1.kept, stab := h1.stab, stab0 := h1.stab0
    beta := ⟨by rw [hlen]; have := h.beta.1; omega, fun b hb => by rw [hβ b (by have := h.beta.1; omega)]; exact h.beta.2 b hb⟩
    os := h1.os, tape := h1.tape, output := h1.output, grown := h1.grown
    glob := h1.glob.kept hN
    lpc := h1.lpc }

/-- A leaf that comes into a dead cell which holds its value. 'hint': the size of an element, where the cell is a slice's. -/
def ASt.adopt (st : ASt) (b j : Nat) (hint : Option Nat) (v : AV) : Option ASt :=
  match v with
  | .own k => match get st.r k with
    | some (sz, l) => some (st.moveC k b j sz l)
    | none => none
  | .ocl b' j' => match st.cellAt b' j' with
    | some (.ow sz l) => some ((st.shareC b' j').setC b j (.sl sz l))
    | _ => none
  | .slx sz l => some (st.setC b j (.sl sz l))
  | .dead => some st
  | .nil => match hint with
    | some (sz + 1) => some (st.setC b j (.ow (sz + 1) []))
    | _ => some (st.setC b j .nil)
  | v => if v.leafOk then some (st.setC b j v) else none

theorem RowR.nil (w : World) (N : Nat → Prop) (sz : Nat) : RowR w N (sz + 1) [] (.slice none 0 0) :=
  ⟨by omega, 0, [], World.ownsRow_nil w 0 0 (sz + 1), by simp, by simp⟩

/-- An empty row, which is nil, comes into a cell. -/
theorem Rel.nilCell (h : Rel C E st a w g) {b j sz : Nat} {old : AV} (hold : st.cellAt b j = some old) (hnoc : ∀ t v, get st.s t = some v → v.hasCel b j = false)
    (hx : w.cell? ⟨g.β b, j, none⟩ = some (.slice none 0 0)) : Rel C E (st.setC b j (.ow (sz + 1) [])) a w (g.setX b j (.slice none 0 0)) := by
  have hlen : (st.setC b j (.ow (sz + 1) [])).b.length = st.b.length := setCell_len _ _ _ _
  have hχ : ∀ b' j', ¬ (b' = b ∧ j' = j) → (g.setX b j (.slice none 0 0)).χ b' j' = g.χ b' j' := fun b' j' e => by simp [Gh.setX, e]
  have hχs : (g.setX b j (.slice none 0 0)).χ b j = .slice none 0 0 := by simp [Gh.setX]
  have hl : ∀ x m, live (st.setC b j (.ow (sz + 1) [])) (g.setX b j (.slice none 0 0)) x = some m → live st g x = some m := by
    intro x m hx'
    cases x with
    | row k => exact hx'
    | box b' => simp only [live, hlen] at hx' ⊢; exact hx'
    | lp i => exact hx'
    | cel b' j' =>
      simp only [live, cellAt_setC] at hx' ⊢
      by_cases e : b' = b ∧ j' = j
      · obtain ⟨rfl, rfl⟩ := e
        simp [hold, hχs, Value.ownBlock] at hx'
      · simp only [e, if_false, hχ b' j' e] at hx'; exact hx'
  exact {
    size := h.size
    slots := fun t v ht => let ⟨x, e1, e2⟩ := h.slots t v ht; ⟨x, e1, e2.mono (fun m hm => ⟨hm, rfl⟩) (fun _ _ => rfl) (fun b' j' hh => hχ b' j' (fun e => by rw [e.1, e.2, hnoc t v ht] at hh; cases hh)) (fun _ _ => rfl)⟩
    bx := fun t v ht => by rw [hlen]; exact h.bx t v ht
    rows := h.rows
    boxes := fun b' cs hb _ => by
      rw [hlen]
      by_cases e : b' = b
      · subst e
        cases hcs : st.b[b']? with
        | none => simp [ASt.cellAt, hcs] at hold
        | some cs0 =>
          simp only [ASt.setC, setCell_same hcs, Option.some.injEq] at hb; subst hb
          obtain ⟨c, T, h1, h2, h3⟩ := h.boxes b' cs0 hcs (by simp)
          refine ⟨c, T, h1, by simp [h2], fun i u x hi hx' => ?_⟩
          by_cases ej : i = j
          · subst ej
            have hcj : cs0[i]? = some old := by simpa [ASt.cellAt, hcs] using hold
            have hlt' : i < cs0.length := by
              rcases Nat.lt_or_ge i cs0.length with h | h
              · exact h
              · rw [List.getElem?_eq_none h] at hcj; cases hcj
            rw [List.getElem?_set_self hlt'] at hi
            simp only [Option.some.injEq] at hi; subst hi
            simp only [CellV, hχs]
            rw [cell_at h1, hx'] at hx; exact Option.some.inj hx
          · rw [List.getElem?_set_ne (Ne.symm ej)] at hi
            have := h3 i u x hi hx'
            unfold CellV at this ⊢
            split at this
            · rw [hχ b' i (fun e => ej e.2)]; exact this
            · obtain ⟨h4, h5, h6, h7⟩ := this
              exact ⟨h4.mono (fun m hm => ⟨hm, rfl⟩) (fun _ _ => rfl) (fun b j hh => by rw [noRef_hasCel b j _ h5] at hh; cases hh) (fun _ _ => rfl), h5, h6, h7⟩
      · simp only [ASt.setC, setCell_other e] at hb
        exact (h.boxes b' cs hb (by simp)).kept (by have := live_box (g := g) hb; simp [live] at this; exact this) (fun m hm => ⟨hm, rfl⟩) (fun j' => hχ b' j' (fun e' => e e'.1)) (fun _ _ => rfl) (Nat.le_refl _) rfl
    crows := fun b' j' sz' l' hc' _ => by
      rw [cellAt_setC] at hc'
      by_cases e : b' = b ∧ j' = j
      · obtain ⟨rfl, rfl⟩ := e
        simp only [and_self, if_true, hold, Option.map_some, Option.some.injEq, AV.ow.injEq] at hc'
        obtain ⟨rfl, rfl⟩ := hc'
        rw [hχs]; exact RowR.nil w _ sz
      · simp only [e, if_false] at hc'
        rw [hχ b' j' e]; exact h.crows b' j' sz' l' hc' (by simp)
    disj := fun x y m hx hy => h.disj x y m (hl x m hx) (hl y m hy)
    mine := fun x m hx => h.mine x m (hl x m hx)
    kept := h.kept, stab := h.stab, stab0 := h.stab0
    beta := ⟨by rw [hlen]; exact h.beta.1, h.beta.2⟩
    os := h.os, tape := h.tape, output := h.output, grown := h.grown
    glob := h.glob.kept (fun m hm => ⟨hm, rfl⟩)
    lpc := h.lpc }

/-- What an adoption leaves of what was known. -/
structure Adopted (C : Env) (E : Entry) (st st' : ASt) (a : Act) (w : World) (g g' : Gh) (b j : Nat) : Prop where
  rel : Rel C E st' a w g'
  β : g'.β = g.β
  len : st'.b.length = st.b.length
  rv : ∀ {u : AV} {y : Value}, Rv w g u y → u.hasCel b j = false → Rv w g' u y
  noc : ∀ b' j', ¬ (b' = b ∧ j' = j) → (∀ t v, get st.s t = some v → v.hasCel b' j' = false) → ∀ t v, get st'.s t = some v → v.hasCel b' j' = false
  dead : ∀ b' j', ¬ (b' = b ∧ j' = j) → st.cellAt b' j' = some .dead → st'.cellAt b' j' = some .dead

theorem adopt_sound (h : Rel C E st a w g) {b j : Nat} {hint : Option Nat} {v : AV} {x : Value} {st' : ASt} (hd : st.cellAt b j = some .dead) (hx : w.cell? ⟨g.β b, j, none⟩ = some x)
    (hv : Rv w g v x) (hmb : v.mb ≤ st.b.length) (hnoc : ∀ t v, get st.s t = some v → v.hasCel b j = false) (ha : st.adopt b j hint v = some st') : ∃ g', Adopted C E st st' a w g g' b j := by
  have plain : ∀ {u : AV}, u.leafOk = true → Rv w g u x → u.mb ≤ st.b.length → ∃ g', Adopted C E st (st.setC b j u) a w g g' b j := by
    intro u hu hru hmu
    refine ⟨g, h.recell hd (leafOk_ow hu) (fun y hy => ?_), rfl, setCell_len _ _ _ _, fun h _ => h, fun _ _ _ h => h, fun b' j' e h => by rw [cellAt_setC, if_neg e]; exact h⟩
    rw [hx] at hy; have := Option.some.inj hy; subst this
    unfold CellV
    split
    · exact absurd rfl (leafOk_ow hu _ _)
    · exact ⟨hru, leafOk_noRef hu, leafOk_one hu hru, hmu⟩
  unfold ASt.adopt at ha
  split at ha
  · -- own
    rename_i k
    split at ha
    · rename_i sz l hk
      simp only [Option.some.injEq] at ha; subst ha
      cases hv
      refine ⟨_, h.moveC hk hd (by simp) hnoc hx, rfl, setCell_len _ _ _ _, fun {u y} hu hn => ?_, fun b' j' e h t v ht => ?_, fun b' j' e h => ?_⟩
      · exact hu.mono (fun m hm => ⟨hm, rfl⟩) (fun _ _ => rfl) (fun b' j' hh => by
          simp only [Gh.setX]; rw [if_neg]; rintro ⟨rfl, rfl⟩; rw [hn] at hh; cases hh) (fun _ _ => rfl)
      · simp only [ASt.moveC] at ht
        rw [get_map, Option.map_eq_some_iff] at ht
        obtain ⟨v', ht, rfl⟩ := ht
        exact sub_noCel b' j' k _ (by simp only [AV.hasCel, Bool.and_eq_false_iff, beq_eq_false_iff_ne]; by_cases eb : b = b' <;> by_cases ej : j = j' <;> simp_all) v' (h t v' ht)
      · show (st.setC b j (.ow sz l)).cellAt b' j' = _
        rw [cellAt_setC, if_neg e]; exact h
    · cases ha
  · -- ocl
    rename_i b' j'
    split at ha
    · rename_i sz l hc
      simp only [Option.some.injEq] at ha; subst ha
      cases hv
      obtain ⟨g', h1, hβ, hκ, hχ, hN, hsh⟩ := h.shareC b' j'
      have hne : ¬ (b = b' ∧ j = j') := by rintro ⟨rfl, rfl⟩; rw [hd] at hc; cases hc
      have hcl : ∀ b1 j1, (st.shareC b' j').cellAt b1 j1 = if b1 = b' ∧ j1 = j' then some (.sl sz l) else st.cellAt b1 j1 := by
        intro b1 j1
        unfold ASt.shareC; simp only [hc]
        show (st.setC b' j' (.sl sz l)).cellAt b1 j1 = _
        rw [cellAt_setC, hc]; rfl
      have hd' : (st.shareC b' j').cellAt b j = some .dead := by rw [hcl, if_neg hne]; exact hd
      have hlen' : (st.shareC b' j').b.length = st.b.length := by unfold ASt.shareC; simp only [hc]; exact setCell_len _ _ _ _
      refine ⟨g', h1.recell hd' (by simp) (fun y hy => ?_), hβ, (setCell_len _ _ _ _).trans hlen', fun {u y} hu _ => hu.mono (fun m hm => ⟨hN m hm, rfl⟩) (fun _ _ => by rw [hκ]) (fun _ _ _ => by rw [hχ]) (fun _ _ => by rw [hβ]), fun b1 j1 e h t v ht => ?_, fun b1 j1 e h => ?_⟩
      · rw [hβ, hx] at hy; have := Option.some.inj hy; subst this
        exact ⟨.sl (hsh sz l hc), rfl, (hsh sz l hc).one, by simp [AV.mb]⟩
      · have ht' : get (st.shareC b' j').s t = some v := ht
        unfold ASt.shareC at ht'; simp only [hc] at ht'
        rw [get_map, Option.map_eq_some_iff] at ht'
        obtain ⟨v', ht', rfl⟩ := ht'
        exact subC_noCel b1 j1 b' j' _ rfl v' (h t v' ht')
      · rw [cellAt_setC, if_neg e, hcl]
        split
        · rename_i e2; rw [e2.1, e2.2, hc] at h; cases h
        · exact h
    · cases ha
  · -- slx
    simp only [Option.some.injEq] at ha; subst ha
    cases hv with
    | slx hs => exact plain (u := .sl _ _) rfl (.sl hs) (by simp [AV.mb])
  · -- dead
    simp only [Option.some.injEq] at ha; subst ha
    exact ⟨g, h, rfl, rfl, fun h _ => h, fun _ _ _ h => h, fun _ _ _ h => h⟩
  · -- nil
    cases hv
    split at ha
    · rename_i sz
      simp only [Option.some.injEq] at ha; subst ha
      refine ⟨_, h.nilCell hd hnoc hx, rfl, setCell_len _ _ _ _, fun {u y} hu hn => ?_, fun b' j' e h => h, fun b' j' e h => by rw [cellAt_setC, if_neg e]; exact h⟩
      exact hu.mono (fun m hm => ⟨hm, rfl⟩) (fun _ _ => rfl) (fun b' j' hh => by
        simp only [Gh.setX]; rw [if_neg]; rintro ⟨rfl, rfl⟩; rw [hn] at hh; cases hh) (fun _ _ => rfl)
    · simp only [Option.some.injEq] at ha; subst ha
      exact plain rfl .nil hmb
  · split at ha
    · rename_i hl
      simp only [Option.some.injEq] at ha; subst ha
      exact plain hl hv hmb
    · cases ha
end
end Go.Ab
end
section
/- The abstract layer, part M: the operations that turn the state: variables, boxes, stores, rows. -/
namespace Go.Ab
open Go.RowKit

/-- What is chosen where more than one word would be right. -/
structure Pol where
  fl : List FuncId := []
  pop : Bool := false
  mv : FuncId → List Nat := fun _ => []
  pa : List FuncId := []

/-- Of each leaf of a type: where it is a slice, its elements' size. -/
def hints (P : Program) : Nat → TypeId → List (Option Nat)
  | 0, _ => []
  | n + 1, T => match P.underlying T with
    | some (.struct fs) => fs.toList.flatMap fun f => hints P n f.type
    | some (.array k e) => (List.replicate k (hints P n e)).flatten
    | some (.slice e) => [(P.info? e).map (·.size)]
    | _ => [none]

def ASt.oneLeaf (st : ASt) : AV → Bool
  | .sc v => v.oneCell'
  | .own k => (get st.r k).isSome
  | .ocl b j => match st.cellAt b j with
    | some (.ow _ _) => true
    | _ => false
  | .agg _ | .tup _ | .dead | .ow _ _ => false
  | _ => true
def ASt.leaves (st : ASt) : AV → Option (List AV)
  | .agg cs => if cs.all st.oneLeaf then some cs else none
  | v => if st.oneLeaf v then some [v] else none

def ASt.adoptL (st : ASt) (b : Nat) : Nat → List (Option Nat) → List AV → Option ASt
  | _, _, [] => some st
  | j, hs, v :: vs => match st.adopt b j (hs.headD none) v with
    | some st => ASt.adoptL st b (j + 1) hs.tail vs
    | none => none

def isCel (b j : Nat) : AV → Bool
  | .ocl b' j' => b' == b && j' == j
  | _ => false

def ASt.storeL (st : ASt) (b : Nat) : Nat → List (Option Nat) → List AV → Option ASt
  | _, _, [] => some st
  | j, hs, v :: vs => if isCel b j v then match st.cellAt b j with
      | some (.ow _ _) => ASt.storeL st b (j + 1) hs.tail vs
      | _ => none
    else if v.hasCel b j || hasCelL b j vs then none
    else match st.cellAt b j with
      | some _ => match (st.deadC b j).adopt b j (hs.headD none) v with
        | some st => ASt.storeL st b (j + 1) hs.tail vs
        | none => none
      | none => none

/-- A leaf as it may lie in a row. -/
def shLeaf (hint : Option Nat) : AV → Option AV
  | .sc v => if v.oneCell' then some (.sc v) else none
  | .nil => some (.sl (hint.getD 1) [])
  | .sl sz l => some (.sl sz l)
  | .slx sz l => some (.sl sz l)
  | _ => none
def shLeaves : List (Option Nat) → List AV → Option (List AV)
  | _, [] => some []
  | hs, v :: vs => match shLeaf (hs.headD none) v, shLeaves hs.tail vs with
    | some u, some us => some (u :: us)
    | _, _ => none
/-- A value as an element of a row. -/
def shEl (hs : List (Option Nat)) : AV → Option AV
  | .agg cs => (shLeaves hs cs).map .agg
  | v => shLeaf (hs.headD none) v

def ASt.shareL (st : ASt) : List AV → ASt
  | [] => st
  | .own k :: vs => ASt.shareL (st.share k) vs
  | .ocl b j :: vs => ASt.shareL (st.shareC b j) vs
  | _ :: vs => ASt.shareL st vs

def updL (l : List AV) (i : Nat) : Nat → List AV → Option (List AV)
  | _, [] => some l
  | off, v :: vs => match l[i]? with
    | some e => updL (l.set i (updEl e off v)) i (off + 1) vs
    | none => none

section
variable {C : Env} {E : Entry} {st : ASt} {a : Act} {w w' : World} {g : Gh}

theorem RowR.slice {N : Nat → Prop} {sz : Nat} {l : List AV} {v : Value} (h : RowR w N sz l v) : ∃ ad n c, v = .slice ad n c := by
  obtain ⟨_, e, xs, ho, _⟩ := h
  rcases ho.2 with ⟨h1, _⟩ | ⟨m, cap, cur, h1, _⟩
  · exact ⟨_, _, _, h1⟩
  · exact ⟨_, _, _, h1⟩

theorem oneLeaf_one (h : Rel C E st a w g) {v : AV} {x : Value} (ho : st.oneLeaf v = true) (hv : Rv w g v x) : x.oneCell' = true := by
  cases hv with
  | sc v => simpa [ASt.oneLeaf] using ho
  | nil => rfl
  | sl hs => exact hs.one
  | slx hs => exact hs.one
  | agg => cases ho
  | tup => cases ho
  | own k =>
    simp only [ASt.oneLeaf] at ho
    obtain ⟨p, hp⟩ := Option.isSome_iff_exists.1 ho
    obtain ⟨ad, n, c, e⟩ := (h.rows k p hp (by simp)).slice
    rw [e]; rfl
  | ocl b j =>
    simp only [ASt.oneLeaf] at ho
    split at ho
    · rename_i hc
      obtain ⟨ad, n, c, e⟩ := (h.crows b j _ _ hc (by simp)).slice
      rw [e]; rfl
    · cases ho
  | bp => rfl
  | rp => rfl
  | ep => rfl
  | ec => rfl
  | fn => rfl
  | dead => cases ho

theorem leaves_sound (h : Rel C E st a w g) {v : AV} {x : Value} {vs : List AV} (hl : st.leaves v = some vs) (hv : Rv w g v x) (hm : v.mb ≤ st.b.length) :
    x.cells.size = vs.length ∧ ∀ (i : Nat) (u : AV) (y : Value), vs[i]? = some u → x.cells[i]? = some y → Rv w g u y ∧ y.oneCell' = true ∧ u.mb ≤ st.b.length := by
  unfold ASt.leaves at hl
  split at hl
  · rename_i cs
    split at hl
    · rename_i hall
      simp only [Option.some.injEq] at hl; subst hl
      cases hv with
      | @agg _ us hlen hr =>
        refine ⟨hlen.symm, fun i u y hu hy => ⟨hr i u y hu hy, oneLeaf_one h ?_ (hr i u y hu hy), ?_⟩⟩
        · rw [List.all_eq_true] at hall; exact hall u (List.mem_of_getElem? hu)
        · have := mbL_get hu; simp only [AV.mb] at hm; omega
    · cases hl
  · rename_i hne
    split at hl
    · rename_i ho
      simp only [Option.some.injEq] at hl; subst hl
      have h1 := oneLeaf_one h ho hv
      have hc : x.cells = #[x] := by cases x <;> simp_all [Value.cells, Value.oneCell']
      rw [hc]
      refine ⟨rfl, fun i u y hu hy => ?_⟩
      cases i with
      | zero => simp at hu hy; subst hu hy; exact ⟨hv, h1, hm⟩
      | succ i => simp at hu
    · cases hl

theorem setCell_self {m j : Nat} {c : Array Value} {T : TypeId} {fr : Nat × Nat} {x : Value} (h : w.heap[m]? = some (.cells c T fr)) (hx : c[j]? = some x) : w.setCell ⟨m, j, none⟩ x = w := by
  have : (w.setCell ⟨m, j, none⟩ x).heap = w.heap := by
    apply Array.ext_getElem?
    intro i
    simp only [World.setCell, Array.getElem?_modify]
    split
    · rename_i e
      subst e
      rw [h]
      simp only [Option.map_some, Option.isSome_none, Bool.false_eq_true, if_false, Option.some.injEq, Obj.cells.injEq, and_true]
      apply Array.ext_getElem?
      intro k
      by_cases ek : k = j
      · subst ek
        have hk : k < c.size := by
          rcases Nat.lt_or_ge k c.size with h | h
          · exact h
          · rw [Array.getElem?_eq_none h] at hx; cases hx
        rw [Array.getElem?_setIfInBounds_self_of_lt hk, hx]
      · rw [Array.getElem?_setIfInBounds_ne (Ne.symm ek)]
    · rfl
  show { w with heap := (w.setCell ⟨m, j, none⟩ x).heap } = w
  rw [this]

theorem adoptL_sound : ∀ {vs : List AV} {st st' : ASt} {g : Gh} {b j : Nat} {hs : List (Option Nat)} (xs : List Value), Rel C E st a w g → xs.length = vs.length →
    (∀ (i : Nat) (u : AV) (y : Value), vs[i]? = some u → xs[i]? = some y → Rv w g u y ∧ u.mb ≤ st.b.length ∧ (∀ j, u.hasCel b j = false) ∧ w.cell? ⟨g.β b, j + i, none⟩ = some y ∧ st.cellAt b (j + i) = some .dead) →
    (∀ i, j ≤ i → ∀ t v, get st.s t = some v → v.hasCel b i = false) → st.adoptL b j hs vs = some st' → ∃ g', Rel C E st' a w g' ∧ g'.β = g.β ∧ st'.b.length = st.b.length
  | [], st, st', g, b, j, hs, xs, h, _, _, _, ha => by simp only [ASt.adoptL, Option.some.injEq] at ha; subst ha; exact ⟨g, h, rfl, rfl⟩
  | v :: vs, st, st', g, b, j, hs, [], h, hl, _, _, ha => by simp at hl
  | v :: vs, st, st', g, b, j, hs, x :: xs, h, hl, hr, hno, ha => by
    unfold ASt.adoptL at ha
    split at ha
    · rename_i st1 h1
      obtain ⟨e1, e2, e3, e4, e5⟩ := hr 0 v x rfl rfl
      obtain ⟨g1, A⟩ := adopt_sound h (by simpa using e5) (by simpa using e4) e1 e2 (hno j (Nat.le_refl _)) h1
      obtain ⟨g2, f1, f2, f3⟩ := adoptL_sound (vs := vs) (st := st1) (g := g1) (b := b) (j := j + 1) xs A.rel (by simpa using hl)
        (fun i u y hu hy => by
          obtain ⟨d1, d2, d3, d4, d5⟩ := hr (i + 1) u y (by simpa using hu) (by simpa using hy)
          refine ⟨A.rv d1 (d3 j), by rw [A.len]; exact d2, d3, by rw [A.β, Nat.add_right_comm, Nat.add_assoc]; exact d4, A.dead _ _ (by omega) (by rw [Nat.add_right_comm, Nat.add_assoc]; exact d5)⟩)
        (fun i hi t u ht => A.noc b i (by omega) (hno i (by omega)) t u ht) ha
      exact ⟨g2, f1, f2.trans A.β, f3.trans A.len⟩
    · cases ha

theorem storeL_sound : ∀ {vs : List AV} {st st' : ASt} {g : Gh} {w : World} {b o i : Nat} {hs : List (Option Nat)} (xs : List Value), Rel C E st a w g → xs.length = vs.length →
    (∀ (k : Nat) (u : AV) (y : Value), vs[k]? = some u → xs[k]? = some y → Rv w g u y ∧ u.mb ≤ st.b.length ∧ y.oneCell' = true) →
    st.storeL b (o + i) hs vs = some st' → ∃ w' g', (storeCells ⟨g.β b, o, none⟩ xs i).run C.P w = .ok () w' ∧ Rel C E st' a w' g' ∧ g'.β = g.β ∧ st'.b.length = st.b.length
  | [], st, st', g, w, b, o, i, hs, [], h, _, _, ha => by simp only [ASt.storeL, Option.some.injEq] at ha; subst ha; exact ⟨w, g, by simp [storeCells], h, rfl, rfl⟩
  | [], st, st', g, w, b, o, i, hs, x :: xs, h, hl, _, ha => by simp at hl
  | v :: vs, st, st', g, w, b, o, i, hs, [], h, hl, _, ha => by simp at hl
  | v :: vs, st, st', g, w, b, o, i, hs, x :: xs, h, hl, hr, ha => by
    obtain ⟨e1, e2, e3⟩ := hr 0 v x rfl rfl
    unfold ASt.storeL at ha
    split at ha
    · -- the cell's own value
      rename_i hself
      have : v = .ocl b (o + i) := by
        unfold isCel at hself
        split at hself
        · simp only [Bool.and_eq_true, beq_iff_eq] at hself; rw [hself.1, hself.2]
        · cases hself
      subst this
      split at ha
      · rename_i sz l hc
        have hb : b < st.b.length := cellAt_lt hc
        obtain ⟨cs, hcs⟩ : ∃ cs, st.b[b]? = some cs := ⟨st.b[b], by simp [hb]⟩
        have hcj : cs[o + i]? = some (.ow sz l) := by simpa [ASt.cellAt, hcs] using hc
        have hj : o + i < cs.length := by
          rcases Nat.lt_or_ge (o + i) cs.length with h | h
          · exact h
          · rw [List.getElem?_eq_none h] at hcj; cases hcj
        obtain ⟨c, T, h1, h2, h3⟩ := h.boxes b cs hcs (by simp)
        have hy : c[o + i]? = some (c[o + i]'(by omega)) := by simp
        have h4 := h3 (o + i) _ _ hcj hy
        simp only [CellV] at h4
        have hx : x = g.χ b (o + i) := by cases e1; rfl
        have hcx : c[o + i]? = some x := by rw [hy, h4, hx]
        have hcell : w.cell? ⟨g.β b, o + i, none⟩ = some x := by rw [cell_at h1]; exact hcx
        obtain ⟨w2, g2, f1, f2, f3, f4⟩ := storeL_sound (vs := vs) (st := st) (g := g) (b := b) (o := o) (i := i + 1) xs h (by simpa using hl)
          (fun k u y hu hy => hr (k + 1) u y (by simpa using hu) (by simpa using hy)) ha
        refine ⟨w2, g2, ?_, f2, f3, f4⟩
        unfold storeCells
        simp only [Sem.run_bind, Addr.add_lit]
        rw [run_store _ _ _ _ _ e3, hcell, frozen_of_row w (g.β b) (o + i) c T h1, setCell_self h1 hcx]
        simpa using f1
      · cases ha
    · split at ha
      · cases ha
      · rename_i hself hc
        simp only [Bool.or_eq_true, not_or, Bool.not_eq_true] at hc
        split at ha
        · rename_i old hold
          split at ha
          · rename_i st1 h1
            obtain ⟨s1, s2, s3⟩ := h.storeCell hold e3
            have hN : ∀ m, g.N m → (w.setCell ⟨g.β b, o + i, none⟩ x).heap[m]? = w.heap[m]? := fun m hm => heap_setCell_other w _ m x (fun e => by
              obtain ⟨cs, hcs⟩ : ∃ cs, st.b[b]? = some cs := ⟨st.b[b]'(cellAt_lt hold), by simp⟩
              exact (h.mine (.box b) (g.β b) (live_box hcs)).1 (by rw [← (show m = g.β b from e)]; exact hm))
            obtain ⟨g1, A⟩ := adopt_sound s1 (deadC_at hold) s2 (e1.kept hN) (by rw [show (st.deadC b (o + i)).b.length = st.b.length from setCell_len _ _ _ _]; exact e2) (fun t v ht => deadC_no ht) h1
            have hlen1 : st1.b.length = st.b.length := A.len.trans (setCell_len _ _ _ _)
            obtain ⟨w2, g2, f1, f2, f3, f4⟩ := storeL_sound (vs := vs) (st := st1) (g := g1) (b := b) (o := o) (i := i + 1) xs A.rel (by simpa using hl)
              (fun k u y hu hy => by
                obtain ⟨d1, d2, d3⟩ := hr (k + 1) u y (by simpa using hu) (by simpa using hy)
                exact ⟨A.rv (d1.kept hN) (hasCelL_get hc.2 hu), by rw [hlen1]; exact d2, d3⟩) ha
            refine ⟨w2, g2, ?_, f2, f3.trans A.β, f4.trans hlen1⟩
            unfold storeCells
            simp only [Sem.run_bind, Addr.add_lit, s3, Result.andThen_ok]
            rw [A.β] at f1; exact f1
          · cases ha
        · cases ha
end
end Go.Ab
end
section
/- The abstract layer, part N: slice literals, make, stores into rows: as the machine runs them. -/
namespace Go.Ab
open Go.RowKit

section
variable {C : Env} {E : Entry} {st : ASt} {a : Act} {w w' : World} {g : Gh}

theorem shLeaf_sound {hint : Option Nat} {v u : AV} {x : Value} (h : shLeaf hint v = some u) (hv : Rv w g v x) : Sh w g.N u x := by
  unfold shLeaf at h
  split at h
  · split at h
    · rename_i hc; simp only [Option.some.injEq] at h; subst h; cases hv; exact .sc _ hc
    · cases h
  · simp only [Option.some.injEq] at h; subst h; cases hv; exact .nil _ _
  · simp only [Option.some.injEq] at h; subst h; cases hv with
    | sl hs => exact hs
  · simp only [Option.some.injEq] at h; subst h; cases hv with
    | slx hs => exact hs
  · cases h

theorem shLeaves_sound : ∀ {vs us : List AV} {hs : List (Option Nat)}, shLeaves hs vs = some us → us.length = vs.length ∧ ∀ (i : Nat) (u : AV), us[i]? = some u → ∃ v, vs[i]? = some v ∧ ∀ x, Rv w g v x → Sh w g.N u x
  | [], us, hs, h => by simp only [shLeaves, Option.some.injEq] at h; subst h; exact ⟨rfl, fun i u hu => by simp at hu⟩
  | v :: vs, us, hs, h => by
    unfold shLeaves at h
    split at h
    · rename_i u us' h1 h2
      simp only [Option.some.injEq] at h; subst h
      obtain ⟨e1, e2⟩ := shLeaves_sound h2
      refine ⟨by simp [e1], fun i u' hu' => ?_⟩
      cases i with
      | zero => simp at hu'; subst hu'; exact ⟨v, rfl, fun x hx => shLeaf_sound h1 hx⟩
      | succ i => simpa using e2 i u' (by simpa using hu')
    · cases h

/-- An element's cells. -/
theorem shEl_sound {hs : List (Option Nat)} {v u : AV} {x : Value} (h : shEl hs v = some u) (hv : Rv w g v x) :
    x.cells.size = u.cells.length ∧ ∀ (i : Nat) (b : AV) (y : Value), u.cells[i]? = some b → x.cells[i]? = some y → Sh w g.N b y := by
  unfold shEl at h
  split at h
  · rename_i cs
    simp only [Option.map_eq_some_iff] at h
    obtain ⟨us, h1, rfl⟩ := h
    obtain ⟨e1, e2⟩ := shLeaves_sound (w := w) (g := g) h1
    cases hv with
    | @agg _ vs hl hr =>
      refine ⟨by simp only [Value.cells, AV.cells]; omega, fun i b y hb hy => ?_⟩
      obtain ⟨v, f1, f2⟩ := e2 i b hb
      exact f2 y (hr i v y f1 hy)
  · have hs' := shLeaf_sound h hv
    have h1 := hs'.one
    have hc : x.cells = #[x] := by cases x <;> simp_all [Value.cells, Value.oneCell']
    rw [hc, hs'.len1]
    refine ⟨rfl, fun i b y hb hy => ?_⟩
    cases i with
    | zero => simp at hb hy; subst hb hy; exact hs'
    | succ i => simp at hb

theorem updL_sound : ∀ {us : List AV} {l l' : List AV} {w : World} {off o m i len cap sz j : Nat} {v : Value} (xs : List Value), RowR w g.N sz l v → v = .slice (some ⟨m, 0, none⟩) len cap → ¬ g.N m → xs.length = us.length →
    off + us.length ≤ sz → o + j = i * sz + off → (∀ w', (∀ k, g.N k → w'.heap[k]? = w.heap[k]?) → ∀ (k : Nat) (u : AV) (x : Value), us[k]? = some u → xs[k]? = some x → Sh w' g.N u x) → updL l i off us = some l' →
    ∃ w', (storeCells ⟨m, o, none⟩ xs j).run C.P w = .ok () w' ∧ RowR w' g.N sz l' v ∧ w.grownBy w' v.ownBlock
  | [], l, l', w, off, o, m, i, len, cap, sz, j, v, xs, hr, _, _, hx, _, _, _, h => by
    simp only [updL, Option.some.injEq] at h; subst h
    have : xs = [] := List.eq_nil_of_length_eq_zero (by simpa using hx)
    subst this
    exact ⟨w, by simp [storeCells], hr, ⟨rfl, rfl, rfl, Nat.le_refl _, fun _ _ _ => rfl⟩⟩
  | u :: us, l, l', w, off, o, m, i, len, cap, sz, j, v, [], _, _, _, hx, _, _, _, _ => by simp at hx
  | u :: us, l, l', w, off, o, m, i, len, cap, sz, j, v, x :: xs, hr, hv, hm, hx, ho, hoff, hsh, h => by
    unfold updL at h
    split at h
    · rename_i e he
      have hlen : off + (us.length + 1) ≤ sz := by simpa using ho
      have hlt : off < sz := by omega
      obtain ⟨r1, r2, r3⟩ := RowR.set (C := C) hr hv hm he hlt (hsh w (fun _ _ => rfl) 0 u x rfl rfl)
      rw [← hoff] at r1 r2 r3
      have hN : ∀ k, g.N k → (w.setCell ⟨m, o + j, none⟩ x).heap[k]? = w.heap[k]? := fun k hk => heap_setCell_other w _ k x (fun e => hm (by rw [← (show k = m from e)]; exact hk))
      have hlen2 : off + 1 + us.length ≤ sz := by omega
      have hoff2 : o + (j + 1) = i * sz + (off + 1) := by omega
      obtain ⟨w2, s1, s2, s3⟩ := updL_sound (us := us) (off := off + 1) (j := j + 1) xs r1 hv hm (by simpa using hx) hlen2 hoff2
        (fun w' hw' k u' x' hu hx' => hsh w' (fun k hk => (hw' k hk).trans (hN k hk)) (k + 1) u' x' (by simpa using hu) (by simpa using hx')) h
      refine ⟨w2, ?_, s2, ⟨s3.os.trans r3.os, s3.tape.trans r3.tape, s3.output.trans r3.output, Nat.le_trans r3.size s3.size, fun k hk hne => ?_⟩⟩
      · unfold storeCells
        simp only [Sem.run_bind, Addr.add_lit, r2, Result.andThen_ok]; exact s1
      · rw [s3.block k (Nat.lt_of_lt_of_le hk r3.size) hne, r3.block k hk hne]
    · cases h

/-- Cells laid one after the other. -/
theorem foldl_set : ∀ (vs : List Value) (j : Nat) (cs : Array Value) (off : Nat), off + j + vs.length ≤ cs.size →
    ((vs.zipIdx j).foldl (fun cs (p : Value × Nat) => cs.setIfInBounds (off + p.2) p.1) cs).toList = cs.toList.take (off + j) ++ vs ++ cs.toList.drop (off + j + vs.length)
  | [], j, cs, off, _ => by simp
  | v :: vs, j, cs, off, h => by
    rw [List.zipIdx_cons, List.foldl_cons, foldl_set vs (j + 1) _ off (by simp at h ⊢; omega)]
    simp only [List.length_cons] at h
    simp only [Array.toList_setIfInBounds, List.length_cons]
    have hlt : off + j < cs.toList.length := by simp; omega
    rw [show off + (j + 1) = off + j + 1 by omega, List.take_set, List.drop_set_of_lt (by omega)]
    rw [List.take_succ_eq_append_getElem hlt]
    rw [List.set_append_right _ _ (by rw [List.length_take]; omega)]
    have e1 : (List.take (off + j) cs.toList).length = off + j := by rw [List.length_take]; omega
    rw [e1, Nat.sub_self]
    simp only [List.set_cons_zero, List.append_assoc, List.cons_append, List.nil_append]
    rw [show off + j + 1 + vs.length = off + j + (vs.length + 1) by omega]

theorem fill_run (sz : Nat) : ∀ (parts : List (Nat × Value)) (k : Nat) (cells : Array Value), (∀ (j i : Nat) (x : Value), parts[j]? = some (i, x) → i = k + j ∧ x.cells.size = sz) → cells.size = (k + parts.length) * sz →
    ∃ r, Instr.fill (fun i => some (i * sz, sz)) cells parts = some r ∧ r.toList = cells.toList.take (k * sz) ++ parts.flatMap fun p => p.2.cells.toList
  | [], k, cells, _, hs => ⟨cells, rfl, by simp only [List.flatMap_nil, List.append_nil]; rw [List.take_of_length_le]; simp at hs ⊢; omega⟩
  | (i, x) :: parts, k, cells, h, hs => by
    obtain ⟨hk, hx⟩ := h 0 i x rfl
    have hk : k = i := by omega
    subst hk
    have hle : k * sz + sz ≤ cells.size := by
      rw [hs, ← Nat.succ_mul]; exact Nat.mul_le_mul_right _ (by simp)
    have hf := foldl_set x.cells.toList 0 cells (k * sz) (by simp [hx]; exact hle)
    have hl : ((x.cells.zipIdx).foldl (fun cs (p : Value × Nat) => cs.setIfInBounds (k * sz + p.2) p.1) cells).toList = cells.toList.take (k * sz) ++ x.cells.toList ++ cells.toList.drop (k * sz + sz) := by
      rw [← Array.foldl_toList, Array.toList_zipIdx]
      simpa [hx] using hf
    have hsz : ((x.cells.zipIdx).foldl (fun cs (p : Value × Nat) => cs.setIfInBounds (k * sz + p.2) p.1) cells).size = cells.size := by
      rw [← Array.length_toList, hl]
      simp only [List.length_append, List.length_take, List.length_drop, Array.length_toList, hx]; omega
    obtain ⟨r, h1, h2⟩ := fill_run sz parts (k + 1) _ (fun j i y hj => by
      have := h (j + 1) i y (by simpa using hj)
      exact ⟨by omega, this.2⟩) (by rw [hsz, hs]; simp only [List.length_cons]; congr 1; omega)
    refine ⟨r, ?_, ?_⟩
    · unfold Instr.fill
      have hc : (decide (x.cells.size ≠ sz) || decide (k * sz + x.cells.size > cells.size)) = false := by
        simp only [hx, ne_eq, not_true_eq_false, decide_false, Bool.false_or, decide_eq_false_iff_not]; omega
      simp only [hc, Bool.false_eq_true, if_false]
      exact h1
    · rw [h2, hl, List.flatMap_cons, ← List.append_assoc]
      congr 1
      rw [List.take_append_of_le_length]
      · rw [List.take_of_length_le]
        simp only [List.length_append, List.length_take, Array.length_toList, hx, Nat.succ_mul]; omega
      · simp only [List.length_append, List.length_take, Array.length_toList, hx, Nat.succ_mul]; omega

theorem buildSlice_run {P : Program} {T e : TypeId} {i : TypeInfo} {z : Value} (hu : P.underlying T = some (.slice e)) (hi : P.info? e = some i) (hz : i.zero = some z) (n : Nat) (parts : Array (Nat × Value)) (hn : parts.size = n) (hsz : n * i.size ≤ 16777216)
    (hp : ∀ (j k : Nat) (x : Value), parts[j]? = some (k, x) → k = j ∧ x.cells.size = i.size) (w : World) :
    ∃ cs : Array Value, cs.toList = (parts.toList.flatMap fun p => p.2.cells.toList) ∧ (Instr.buildSlice T n parts).run P w = .ok (.slice (some ⟨w.heap.size, 0, none⟩) n n) (w.alloc (.cells cs e)) := by
  have hne : ¬ (n * i.size > 2 ^ 24) := by omega
  have run : ∀ zc : Array Value, ∃ cs : Array Value, cs.toList = (parts.toList.flatMap fun p => p.2.cells.toList) ∧
      Instr.fill (fun k => some (k * i.size, i.size)) ((Array.range (n * i.size)).map (zc[· % zc.size]!)) parts.toList = some cs := by
    intro zc
    obtain ⟨r, h1, h2⟩ := fill_run i.size parts.toList 0 ((Array.range (n * i.size)).map (zc[· % zc.size]!)) (fun j k x hj => by
      have := hp j k x (by simpa using hj); exact ⟨by omega, this.2⟩) (by simp [hn])
    exact ⟨r, by simpa using h2, h1⟩
  by_cases h0 : n * i.size = 0
  · obtain ⟨cs, h1, h2⟩ := run #[]
    refine ⟨cs, h1, ?_⟩
    unfold Instr.buildSlice
    simp only [Sem.run_bind, run_underlying hu, Result.andThen_ok, sizeOf_run hi, if_neg hne, Sem.run_pure, if_pos h0]
    rw [h2]; simp [newRow]
  · obtain ⟨cs, h1, h2⟩ := run z.cells
    refine ⟨cs, h1, ?_⟩
    unfold Instr.buildSlice
    have hzv : (zeroValue e).run P w = .ok z w := by simp [zeroValue, typeInfo, hi, hz]
    simp only [Sem.run_bind, run_underlying hu, Result.andThen_ok, sizeOf_run hi, if_neg hne, Sem.run_pure, if_neg h0, hzv]
    rw [h2]; simp [newRow]
end
end Go.Ab
end
section
/- The abstract layer, part O: the operations that turn the state, and what they come to. -/
namespace Go.Ab
open Go.RowKit

def rowOf (P : Program) (T : TypeId) : Option (TypeId × Nat × Nat × Value) := match P.underlying T with
  | some (.slice e) => match P.info? e with
    | some i => match i.zero with
      | some z => if z.cells.size = i.size ∧ 0 < i.size ∧ 0 < i.bytes then some (e, i.size, i.bytes, z) else none
      | none => none
    | none => none
  | _ => none
theorem rowOf_spec {P : Program} {T e sz by' : Nat} {z : Value} (h : rowOf P T = some (e, sz, by', z)) :
    ∃ i, P.underlying T = some (.slice e) ∧ P.info? e = some i ∧ i.zero = some z ∧ z.cells.size = i.size ∧ 0 < i.size ∧ 0 < i.bytes ∧ i.size = sz ∧ i.bytes = by' := by
  unfold rowOf at h
  split at h
  · rename_i e' he
    split at h
    · rename_i i hi
      split at h
      · rename_i z' hz
        split at h
        · rename_i hc
          simp only [Option.some.injEq, Prod.mk.injEq] at h
          obtain ⟨rfl, rfl, rfl, rfl⟩ := h
          exact ⟨i, he, hi, hz, hc.1, hc.2.1, hc.2.2, rfl, rfl⟩
        · cases h
      · cases h
    · cases h
  · cases h

/-- The size of a slice's elements, where it is known. -/
def ASt.szOf (st : ASt) : AV → Option Nat
  | .sl sz _ => some sz
  | .slx sz _ => some sz
  | .own k => (get st.r k).map (·.1)
  | .ocl b j => match st.cellAt b j with
    | some (.ow sz _) => some sz
    | _ => none
  | _ => none

def splice (cs : List AV) (off : Nat) (vs : List AV) : List AV := cs.take off ++ vs ++ cs.drop (off + vs.length)
/-- The places of a struct's fields, or the size of an array's elements; and the zero value. -/
def buildTab (P : Program) (T : TypeId) : Option (List (Nat × Nat) × Nat × Value) := match P.underlying T, (P.info? T).bind (·.zero) with
  | some (.struct fs), some z => (fs.toList.mapM (fun f => (P.info? f.type).map fun i => (f.offset, i.size))).map fun ps => (ps, 0, z)
  | some (.array _ e), some z => match P.info? e with
    | some i => if 0 < i.size then some ([], i.size, z) else none
    | none => none
  | _, _ => none
def placeF (ps : List (Nat × Nat)) (k : Nat) (i : Nat) : Option (Nat × Nat) := if k = 0 then ps[i]? else some (i * k, k)
def buildL (C : Env) (st : ASt) (place : Nat → Option (Nat × Nat)) : List (Nat × Operand) → List AV → Option (List AV)
  | [], cs => some cs
  | (i, x) :: ps, cs => match place i, st.ev C x with
    | some (off, n), some v => match st.leaves v with
      | some vs => if vs.length = n ∧ off + n ≤ cs.length then buildL C st place ps (splice cs off vs) else none
      | none => none
    | _, _ => none

def evEls (C : Env) (st : ASt) (hs : List (Option Nat)) (sz : Nat) : Nat → List (Nat × Operand) → Option (List AV)
  | _, [] => some []
  | k, (i, x) :: ps => if i = k then match (st.ev C x).bind (shEl hs), evEls C st hs sz (k + 1) ps with
      | some u, some us => if u.cells.length = sz then some (u :: us) else none
      | _, _ => none
    else none

def zeroEl (hs : List (Option Nat)) (z : Value) : Option AV := shEl hs (ofV z)

def ASt.appR (st : ASt) (d sz : Nat) (l : List AV) : Option ASt := some ((st.newR d sz l).put d (.own d))

/-- The operations that turn the state. -/
def eop (C : Env) (pol : Pol) (st : ASt) (o : Oper) : Option ASt :=
  match o.op with
  | .assign x => match o.dst with
    | some d => match st.ev C x with
      | some .nil => match rowOf C.P o.type with
        | some (_, sz, _, _) => (st.newR d sz []).put d (.own d)
        | none => st.put d .nil
      | some (.own k) => if k = d then some (st.put d (.own d)) else match get st.r k with
        | some (sz, l) => (st.ren k d sz l).put d (.own d)
        | none => none
      | some v => st.put d v
      | none => none
    | none => none
  | .alloc T => match o.dst, shapeOf C.P T, (C.P.info? T).bind (·.zero) with
    | some d, some (_, n), some z => match st.leaves (ofV z) with
      | some vs => if vs.length = n then ((st.newB n).adoptL st.b.length 0 (hints C.P 9 T) vs).map fun st' => st'.put d (.bp st.b.length 0) else none
      | none => none
    | _, _, _ => none
  | .box T x => match o.dst, st.ev C x with
    | some d, some v => match st.leaves v with
      | some vs => ((st.newB vs.length).adoptL st.b.length 0 (hints C.P 9 T) vs).map fun st' => st'.put d (.bp st.b.length 0)
      | none => none
    | _, _ => none
  | .build T ps => match o.dst, buildTab C.P T with
    | some d, some (pl, k, z) => (buildL C st (placeF pl k) ps.toList (z.cells.toList.map ofLeaf)).map fun cs => st.put d (.agg cs)
    | _, _ => none
  | .buildSlice T n ps => match o.dst, rowOf C.P T with
    | some d, some (e, sz, _, _) =>
      let st1 := st.shareL (ps.toList.flatMap fun p => match st.ev C p.2 with
        | some v => v.cells
        | none => [])
      if ps.size = n ∧ n * sz ≤ 16777216 then match evEls C st1 (hints C.P 9 e) sz 0 ps.toList with
        | some us => some ((st1.newR d sz us).put d (.own d))
        | none => none
      else none
    | _, _ => none
  | .makeSlice T l c => match o.dst, rowOf C.P T, intOf? (st.ev C l), intOf? (st.ev C c) with
    | some d, some (e, sz, by', z), some l, some c => match zeroEl (hints C.P 9 e) z with
      | some u => if 0 ≤ l ∧ l ≤ c ∧ c * by' ≤ 140737488355328 then some ((st.newR d sz (List.replicate l.toNat u)).put d (.own d)) else none
      | none => none
    | _, _, _, _ => none
  | .store T p x => match st.ev C p, shapeOf C.P T with
    | some (.bp b off), some (_, n) => match (st.ev C x).bind st.leaves with
      | some vs => if vs.length = n then (st.storeL b off (hints C.P 9 T) vs).map fun st' => st'.putO o.dst (.sc undef) else none
      | none => none
    | some (.ep k i sz off), some (_, n) =>
      let st1 := st.shareL (match st.ev C x with
        | some v => v.cells
        | none => [])
      match st1.ev C p, st1.ev C x, get st1.r k with
      | some (.ep k' i' sz' off'), some v, some (sz2, l) => match shEl (hints C.P 9 T) v with
        | some u => if k' = k ∧ i' = i ∧ sz' = sz ∧ off' = off ∧ sz2 = sz ∧ u.cells.length = n ∧ off + n ≤ sz then
            (updL l i off u.cells).map fun l' => { st1 with r := Ab.put st1.r k (sz, l') }.putO o.dst (.sc undef)
          else none
        | none => none
      | _, _, _ => none
    | some (.ec b j i sz off), some (_, n) =>
      let st1 := st.shareL (match st.ev C x with
        | some v => v.cells
        | none => [])
      match st1.ev C p, st1.ev C x, st1.cellAt b j with
      | some (.ec b' j' i' sz' off'), some v, some (.ow sz2 l) => match shEl (hints C.P 9 T) v with
        | some u => if b' = b ∧ j' = j ∧ i' = i ∧ sz' = sz ∧ off' = off ∧ sz2 = sz ∧ u.cells.length = n ∧ off + n ≤ sz then
            (updL l i off u.cells).map fun l' => (st1.setC b j (.ow sz l')).putO o.dst (.sc undef)
          else none
        | none => none
      | _, _, _ => none
    | _, _ => none
  | .slice T x lo hi mx => match o.dst, st.ev C x with
    | some d, some (.own k) => match get st.r k, pol.pop, lo, hi, mx with
      | some (sz, l), true, none, some h, none => match intOf? (st.ev C h), elemOf C.P T with
        | some h, some _ => if 0 ≤ h ∧ h ≤ l.length then some (((st.kill k).newR d sz (l.take h.toNat)).put d (.own d)) else none
        | _, _ => none
      | _, _, _, _, _ => (pop1 C (st.share k) o).map fun v => (st.share k).put d v
    | some d, some (.ocl b j) => match st.cellAt b j, pol.pop, lo, hi, mx with
      | some (.ow sz l), true, none, some h, none => match intOf? (st.ev C h), elemOf C.P T with
        | some h, some _ => if 0 ≤ h ∧ h ≤ l.length then some (((st.deadC b j).newR d sz (l.take h.toNat)).put d (.own d)) else none
        | _, _ => none
      | _, _, _, _, _ => (pop1 C (st.shareC b j) o).map fun v => (st.shareC b j).put d v
    | _, _ => none
  | .convert S D x => match o.dst, C.P.underlying S, C.P.underlying D, st.evV C x with
    | some d, some .string, some (.slice e), some (.string s) => match C.P.underlying e with
      | some (.int .u8) => some (st.put d (.sl 1 (s.data.toList.map fun b => .sc (.int .u8 b.toNat))))
      | _ => none
    | _, _, _, _ => none
  | .call { callee := .builtin .append, args, argTypes } => match o.dst, args.toList, argTypes.toList with
    | some d, [s, x], [t, t'] => match rowOf C.P t, st.ev C s, st.ev C x with
      | some (_, sz, by', _), some sv, some xv => match st.list sv, st.list xv with
        | some l, some l2 => if t' = t ∧ (st.szOf xv).getD sz = sz ∧ (st.szOf sv).getD sz = sz ∧ (l.length + l2.length) * by' ≤ 140737488355328 then
            match sv with
            | .nil => some ((st.newR d sz l2).put d (.own d))
            | .own k => some (((st.kill k).newR d sz (l ++ l2)).put d (.own d))
            | .ocl b j => some (((st.deadC b j).newR d sz (l ++ l2)).put d (.own d))
            | .slx _ _ => if l2.isEmpty then none else some ((st.newR d sz (l ++ l2)).put d (.own d))
            | _ => none
          else none
        | _, _ => none
      | _, _, _ => none
    | _, _, _ => none
  | _ => none
end Go.Ab
end
section
/- The abstract layer, part P: 'eop' is what the machine does. -/
namespace Go.Ab
open Go.RowKit

theorem flatG_get {α β : Type} {f : α → List β} {sz : Nat} : ∀ {l : List α}, (∀ a ∈ l, (f a).length = sz) → ∀ (i t : Nat), t < sz → (l.flatMap f)[i * sz + t]? = (l[i]?).bind fun e => (f e)[t]?
  | [], _, i, t, _ => by simp
  | a :: l, h, i, t, ht => by
    have ha : (f a).length = sz := h a List.mem_cons_self
    have ih := flatG_get (l := l) (fun x hx => h x (List.mem_cons_of_mem _ hx))
    rw [List.flatMap_cons]
    cases i with
    | zero => rw [List.getElem?_append_left (by omega)]; simp
    | succ i =>
      rw [List.getElem?_append_right (by rw [ha, Nat.succ_mul]; omega), ha]
      have e : (i + 1) * sz + t - sz = i * sz + t := by rw [Nat.succ_mul]; omega
      rw [e, ih i t ht]; simp
theorem flatG_len {α β : Type} {f : α → List β} {sz : Nat} : ∀ {l : List α}, (∀ a ∈ l, (f a).length = sz) → (l.flatMap f).length = l.length * sz
  | [], _ => by simp
  | a :: l, h => by
    have ha : (f a).length = sz := h a List.mem_cons_self
    have ih := flatG_len (l := l) (fun x hx => h x (List.mem_cons_of_mem _ hx))
    rw [List.flatMap_cons, List.length_append, ih, ha, List.length_cons, Nat.succ_mul]; omega

section
variable {C : Env} {E : Entry} {st : ASt} {a : Act} {w w' : World} {g : Gh} {pol : Pol}

def StepOk (C : Env) (E : Entry) (a : Act) (w : World) (o : Oper) (st' : ASt) : Prop :=
  ∃ n y w' g', (execOp a.eval o).run C.P w = .ok n w' ∧ (n = .value y ∨ (n = .skip ∧ y = undef)) ∧ Rel C E st' (a.put o.dst y) w' g'

theorem put_own {d : Nat} {v : Value} (h : Rel C E st a w (g.setK d v)) : Rel C E (st.put d (.own d)) (a.put (some d) v) w (g.setK d v) := by
  have hv : Rv w (g.setK d v) (.own d) v := by
    have := Rv.own (w := w) (g := g.setK d v) d
    simp only [Gh.setK, if_true] at this; exact this
  exact RelX.put h (some d) hv (by simp [AV.mb])
theorem put_dst {d : Nat} {v : AV} {y : Value} (h : Rel C E st a w g) (hv : Rv w g v y) (hm : v.mb ≤ st.b.length) : Rel C E (st.put d v) (a.put (some d) y) w g := RelX.put h (some d) hv hm

theorem shareL_sound : ∀ (vs : List AV) {st : ASt} {g : Gh}, Rel C E st a w g → ∃ g', Rel C E (st.shareL vs) a w g'
  | [], st, g, h => ⟨g, h⟩
  | v :: vs, st, g, h => by
    unfold ASt.shareL
    split
    · rename_i heq; cases heq
    · rename_i k vs' heq
      simp only [List.cons.injEq] at heq; obtain ⟨rfl, rfl⟩ := heq
      obtain ⟨g', h'⟩ := h.share k; exact shareL_sound vs h'
    · rename_i b j vs' heq
      simp only [List.cons.injEq] at heq; obtain ⟨rfl, rfl⟩ := heq
      obtain ⟨g', h', _⟩ := h.shareC b j; exact shareL_sound vs h'
    · rename_i v' vs' _ _ heq
      simp only [List.cons.injEq] at heq; obtain ⟨rfl, rfl⟩ := heq
      exact shareL_sound vs h

theorem grownBy_rfl (w : World) (row : Option Nat) : w.grownBy w row := ⟨rfl, rfl, rfl, Nat.le_refl _, fun _ _ _ => rfl⟩
theorem RowR.empty (w : World) (N : Nat → Prop) {sz : Nat} (h : 0 < sz) : RowR w N sz [] (.slice none 0 0) :=
  ⟨h, 0, [], World.ownsRow_nil w 0 0 sz, by simp, by simp⟩

theorem assign_sound (h : Rel C E st a w g) {o : Oper} {x : Operand} (ho : o.op = .assign x) {st' : ASt} (he : eop C pol st o = some st') : StepOk C E a w o st' := by
  unfold eop at he
  simp only [ho] at he
  have hrun : (execOp a.eval o).run C.P w = .ok (.value (a.eval x)) w := by unfold execOp; simp only [ho]; rfl
  split at he
  · rename_i d hd
    split at he
    · rename_i hx
      have hv := (ev_sound h hx).1
      generalize hz : a.eval x = z at hv hrun
      cases hv
      split at he
      · rename_i e sz by' z hrow
        obtain ⟨i, _, _, _, _, h0, _, hs, _⟩ := rowOf_spec hrow
        simp only [Option.some.injEq] at he; subst he
        have h1 := h.fresh (grownBy_rfl w none) (l := []) (v := .slice none 0 0) (.inl rfl) (RowR.empty w g.N (hs ▸ h0)) d
        exact ⟨_, _, w, _, hrun, .inl rfl, by rw [hd]; exact put_own h1⟩
      · simp only [Option.some.injEq] at he; subst he
        exact ⟨_, _, w, g, hrun, .inl rfl, by rw [hd]; exact put_dst h .nil (by simp [AV.mb])⟩
    · rename_i k hx
      have hv := (ev_sound h hx).1
      generalize hz : a.eval x = z at hv hrun
      cases hv
      split at he
      · rename_i hk; subst hk
        simp only [Option.some.injEq] at he; subst he
        exact ⟨_, _, w, g, hrun, .inl rfl, by rw [hd]; exact put_dst h (.own k) (by simp [AV.mb])⟩
      · rename_i hk
        split at he
        · rename_i sz l hl
          simp only [Option.some.injEq] at he; subst he
          exact ⟨_, _, w, _, hrun, .inl rfl, by rw [hd]; exact put_own (h.ren (Ne.symm hk) hl)⟩
        · cases he
    · rename_i v _ _ hx
      obtain ⟨e1, e2⟩ := ev_sound h hx
      simp only [Option.some.injEq] at he; subst he
      exact ⟨_, _, w, g, hrun, .inl rfl, by rw [hd]; exact put_dst h e1 e2⟩
    · cases he
  · cases he

/-- The cells of a value come into a new box. -/
theorem newB_sound (h : Rel C E st a w g) {v : AV} {x : Value} {vs : List AV} (hl : st.leaves v = some vs) (hv : Rv w g v x) (hm : v.mb ≤ st.b.length) {hs : List (Option Nat)} {st1 : ASt} {n : Nat} (hn : vs.length = n)
    (ha : (st.newB n).adoptL st.b.length 0 hs vs = some st1) (T : TypeId) (d : Nat) :
    ∃ g', Rel C E (st1.put d (.bp st.b.length 0)) (a.put (some d) (.pointer (some ⟨w.heap.size, 0, none⟩))) (w.alloc (.cells x.cells T)) g' := by
  obtain ⟨e1, e2⟩ := leaves_sound h hl hv hm
  have hc : ∀ y ∈ x.cells, y.oneCell' = true := fun y hy => by
    obtain ⟨i, hi, rfl⟩ := Array.mem_iff_getElem.1 hy
    exact (e2 i (vs[i]'(by omega)) _ (by simp) (by simp)).2.1
  have h1 := h.newBox x.cells T hc
  rw [e1, hn] at h1
  have hβ : (g.setB st.b.length w.heap.size).β st.b.length = w.heap.size := by simp [Gh.setB]
  have hheap : (w.alloc (.cells x.cells T)).heap[w.heap.size]? = some (.cells x.cells T (0, 0)) := heap_alloc_new w _
  obtain ⟨g2, f1, f2, f3⟩ := adoptL_sound (vs := vs) (b := st.b.length) (j := 0) x.cells.toList h1 (by simp [e1])
    (fun i u y hu hy => by
      obtain ⟨d1, d2, d3⟩ := e2 i u y hu (by simpa using hy)
      refine ⟨d1.mono (fun m hm => ⟨hm, heap_alloc_old w _ m (h.stab m hm).1⟩) (fun _ _ => rfl) (fun _ _ _ => rfl) (fun b hb => by simp only [Gh.setB]; rw [if_neg (by omega)]), by simp [ASt.newB]; omega, fun j => ?_, ?_, ?_⟩
      · cases hcel : u.hasCel st.b.length j with
        | false => rfl
        | true => have := hasCel_mb _ _ _ hcel; omega
      · rw [hβ, cell_at hheap]; simpa using hy
      · have hi : i < n := by
          rcases Nat.lt_or_ge i n with h | h
          · exact h
          · rw [List.getElem?_eq_none (by omega)] at hu; cases hu
        simp [ASt.newB, ASt.cellAt, hi])
    (fun i _ t u ht => by
      have hmu := h.bx t u ht
      cases hcel : u.hasCel st.b.length i with
      | false => rfl
      | true => have := hasCel_mb _ _ _ hcel; omega) ha
  have hlen : st1.b.length = st.b.length + 1 := by rw [f3]; simp [ASt.newB]
  refine ⟨g2, put_dst f1 ?_ (by rw [hlen]; simp [AV.mb])⟩
  have := Rv.bp (w := w.alloc (.cells x.cells T)) (g := g2) st.b.length 0
  rw [f2, hβ] at this; exact this

theorem alloc_sound (h : Rel C E st a w g) {o : Oper} {T : TypeId} (ho : o.op = .alloc T) {st' : ASt} (he : eop C pol st o = some st') : StepOk C E a w o st' := by
  unfold eop at he
  simp only [ho] at he
  split at he
  · rename_i d _ n z hd hs hz
    split at he
    · rename_i vs hvs
      split at he
      · rename_i hn
        simp only [Option.map_eq_some_iff] at he
        obtain ⟨st1, h1, rfl⟩ := he
        obtain ⟨g', h2⟩ := newB_sound h hvs (ofV_rv w g z) (by rw [ofV_mb]; omega) hn h1 T d
        refine ⟨_, _, _, g', ?_, .inl rfl, by rw [hd]; exact h2⟩
        have hz' : (zeroValue T).run C.P w = .ok z w := by
          simp only [Option.bind_eq_some_iff] at hz
          obtain ⟨i, e1, e2⟩ := hz
          simp [zeroValue, typeInfo, e1, e2]
        unfold execOp; simp only [ho]
        simp only [Instr.alloc, Sem.run_bind, hz', Result.andThen_ok]
        simp [newVar, newRow]
      · cases he
    · cases he
  · cases he

theorem box_sound (h : Rel C E st a w g) {o : Oper} {T : TypeId} {x : Operand} (ho : o.op = .box T x) {st' : ASt} (he : eop C pol st o = some st') : StepOk C E a w o st' := by
  unfold eop at he
  simp only [ho] at he
  split at he
  · rename_i d v hd hx
    split at he
    · rename_i vs hvs
      simp only [Option.map_eq_some_iff] at he
      obtain ⟨st1, h1, rfl⟩ := he
      obtain ⟨e1, e2⟩ := ev_sound h hx
      obtain ⟨g', h2⟩ := newB_sound h hvs e1 e2 rfl h1 T d
      refine ⟨_, _, _, g', ?_, .inl rfl, by rw [hd]; exact h2⟩
      unfold execOp; simp only [ho]
      simp [Instr.box, newVar, newRow]
    · cases he
  · cases he

theorem shapeOf_info {P : Program} {T : TypeId} {b : Bool} {n : Nat} (h : shapeOf P T = some (b, n)) : ∃ i, P.info? T = some i ∧ i.size = n := by
  unfold shapeOf at h
  split at h
  · rename_i d i _ hi
    simp only [Option.some.injEq, Prod.mk.injEq] at h
    exact ⟨i, hi, h.2⟩
  · cases h

theorem RelX.skipPut (h : Rel C E st a w g) (d : Option Nat) : Rel C E (st.putO d (.sc undef)) (a.put d undef) w g := RelX.put h d (.sc _) (by simp [AV.mb])

theorem store_sound (h : Rel C E st a w g) {o : Oper} {T : TypeId} {p x : Operand} (ho : o.op = .store T p x) {st' : ASt} (he : eop C pol st o = some st') : StepOk C E a w o st' := by
  unfold eop at he
  simp only [ho] at he
  split at he
  · -- a box
    rename_i b off _ n hp hs
    obtain ⟨i, hi, hn⟩ := shapeOf_info hs
    split at he
    · rename_i vs hvs
      split at he
      · rename_i hlen
        simp only [Option.map_eq_some_iff] at he
        obtain ⟨st1, h1, rfl⟩ := he
        simp only [Option.bind_eq_some_iff] at hvs
        obtain ⟨v, hx, hvs⟩ := hvs
        obtain ⟨e1, e2⟩ := ev_sound h hx
        obtain ⟨f1, f2⟩ := leaves_sound h hvs e1 e2
        have hpv := (ev_sound h hp).1
        generalize hz : a.eval p = z at hpv
        cases hpv
        obtain ⟨w2, g2, r1, r2, _⟩ := storeL_sound (C := C) (b := b) (o := off) (i := 0) (a.eval x).cells.toList h (by simp [f1])
          (fun k u y hu hy => by
            obtain ⟨d1, d2, d3⟩ := f2 k u y hu (by simpa using hy)
            exact ⟨d1, d3, d2⟩) h1
        refine ⟨.skip, undef, w2, g2, ?_, .inr ⟨rfl, rfl⟩, r2.skipPut _⟩
        unfold execOp; simp only [ho, hz]
        simp only [Instr.storeAt, Instr.sureAddr, Sem.run_bind, Sem.run_pure, Result.andThen_ok, storeVar, sizeOf_run hi, hn, f1, hlen, ne_eq, not_true_eq_false, if_false, r1]
      · cases he
    · cases he
  · -- an element of a row
    rename_i k i sz off _ n hp hs
    obtain ⟨inf, hi, hn⟩ := shapeOf_info hs
    obtain ⟨g1, h1⟩ := shareL_sound (match st.ev C x with
        | some v => v.cells
        | none => []) h
    generalize hst1 : st.shareL (match st.ev C x with
        | some v => v.cells
        | none => []) = st1 at he h1
    split at he
    · rename_i k' i' sz' off' v sz2 l hp1 hx1 hk1
      split at he
      · rename_i u hu
        split at he
        · rename_i hc
          obtain ⟨rfl, rfl, rfl, rfl, rfl, hul, hle⟩ := hc
          simp only [Option.map_eq_some_iff] at he
          obtain ⟨l', hl', rfl⟩ := he
          have hpv := (ev_sound h1 hp1).1
          generalize hz : a.eval p = z at hpv
          cases hpv with
          | @ep _ _ _ _ m len cap hκ =>
            obtain ⟨e1, _⟩ := ev_sound h1 hx1
            obtain ⟨f1, f2⟩ := shEl_sound hu e1
            have hlive : live st1 g1 (.row k') = some m := by rw [live_row hk1, hκ]; rfl
            have hm : ¬ g1.N m := (h1.mine _ m hlive).1
            obtain ⟨w2, r1, r2, r3⟩ := updL_sound (C := C) (us := u.cells) (o := i' * sz2 + off') (j := 0) (a.eval x).cells.toList (show RowR w g1.N sz2 l (g1.κ k') from h1.rows k' _ hk1 (by simp)) hκ hm (by simp [f1]) (by omega) (by omega)
              (fun w' hw' t b y hb hy => (f2 t b y hb (by simpa using hy)).mono fun m hm => ⟨hm, hw' m hm⟩) hl'
            have ht : RelX C E (some (.row k')) st1 a w2 g1 := RelX.touch h1 (.row k') (.inl rfl) (by rw [live_row hk1]; exact r3)
            have hfin : Rel C E { st1 with r := Ab.put st1.r k' (sz2, l') } a w2 g1 := by
              have hlv : ∀ X m, live { st1 with r := Ab.put st1.r k' (sz2, l') } g1 X = some m → live st1 g1 X = some m := by
                intro X m hX
                cases X with
                | row k2 =>
                  simp only [live, get_put] at hX ⊢
                  by_cases e : k2 = k'
                  · subst e; simp only [if_true, Option.isSome_some] at hX; simp [hk1, hX]
                  · simp only [e, if_false] at hX; exact hX
                | box b => exact hX
                | cel b j => exact hX
                | lp i => exact hX
              exact {
                size := ht.size, slots := ht.slots, bx := ht.bx
                rows := fun k2 q hq _ => by
                  simp only [get_put] at hq
                  by_cases e : k2 = k'
                  · subst e; simp only [if_true, Option.some.injEq] at hq; subst hq; exact r2
                  · simp only [e, if_false] at hq; exact ht.rows k2 q hq (by simpa using fun e' => e e'.symm)
                boxes := fun b cs hb _ => ht.boxes b cs hb (by simp)
                crows := fun b j sz l hc _ => ht.crows b j sz l hc (by simp)
                disj := fun X Y m hX hY => ht.disj X Y m (hlv X m hX) (hlv Y m hY)
                mine := fun X m hX => ht.mine X m (hlv X m hX)
                kept := ht.kept, stab := ht.stab, stab0 := ht.stab0, beta := ht.beta, os := ht.os, tape := ht.tape, output := ht.output, grown := ht.grown, glob := ht.glob, lpc := fun i p hp _ => ht.lpc i p hp (by simp) }
            refine ⟨.skip, undef, w2, g1, ?_, .inr ⟨rfl, rfl⟩, hfin.skipPut _⟩
            unfold execOp; simp only [ho, hz]
            simp only [Instr.storeAt, Instr.sureAddr, Sem.run_bind, Sem.run_pure, Result.andThen_ok, storeVar, sizeOf_run hi, hn, f1, hul, ne_eq, not_true_eq_false, if_false, r1]
        · cases he
      · cases he
    · cases he
  · -- an element of a row in a box
    rename_i b j i sz off _ n hp hs
    obtain ⟨inf, hi, hn⟩ := shapeOf_info hs
    obtain ⟨g1, h1⟩ := shareL_sound (match st.ev C x with
        | some v => v.cells
        | none => []) h
    generalize hst1 : st.shareL (match st.ev C x with
        | some v => v.cells
        | none => []) = st1 at he h1
    split at he
    · rename_i b' j' i' sz' off' v sz2 l hp1 hx1 hk1
      split at he
      · rename_i u hu
        split at he
        · rename_i hc
          obtain ⟨rfl, rfl, rfl, rfl, rfl, rfl, hul, hle⟩ := hc
          simp only [Option.map_eq_some_iff] at he
          obtain ⟨l', hl', rfl⟩ := he
          have hpv := (ev_sound h1 hp1).1
          generalize hz : a.eval p = z at hpv
          cases hpv with
          | @ec _ _ _ _ _ m len cap hκ =>
            obtain ⟨e1, _⟩ := ev_sound h1 hx1
            obtain ⟨f1, f2⟩ := shEl_sound hu e1
            have hlive : live st1 g1 (.cel b' j') = some m := by rw [live_cel hk1, hκ]; rfl
            have hm : ¬ g1.N m := (h1.mine _ m hlive).1
            obtain ⟨w2, r1, r2, r3⟩ := updL_sound (C := C) (us := u.cells) (o := i' * sz2 + off') (j := 0) (a.eval x).cells.toList (h1.crows b' j' _ _ hk1 (by simp)) hκ hm (by simp [f1]) (by omega) (by omega)
              (fun w' hw' t b y hb hy => (f2 t b y hb (by simpa using hy)).mono fun m hm => ⟨hm, hw' m hm⟩) hl'
            have ht : RelX C E (some (.cel b' j')) st1 a w2 g1 := RelX.touch h1 (.cel b' j') (.inl rfl) (by rw [live_cel hk1]; exact r3)
            have hlen : (st1.setC b' j' (.ow sz2 l')).b.length = st1.b.length := setCell_len _ _ _ _
            have hfin : Rel C E (st1.setC b' j' (.ow sz2 l')) a w2 g1 := by
              have hlv : ∀ X m, live (st1.setC b' j' (.ow sz2 l')) g1 X = some m → live st1 g1 X = some m := by
                intro X m hX
                cases X with
                | row k2 => exact hX
                | box b => simp only [live, hlen] at hX ⊢; exact hX
                | lp i => exact hX
                | cel b j =>
                  simp only [live, cellAt_setC] at hX ⊢
                  by_cases e : b = b' ∧ j = j'
                  · obtain ⟨rfl, rfl⟩ := e
                    simp only [and_self, if_true, hk1, Option.map_some] at hX ⊢; exact hX
                  · simp only [e, if_false] at hX; exact hX
              exact {
                size := ht.size, slots := ht.slots
                bx := fun t v ht' => by rw [hlen]; exact ht.bx t v ht'
                rows := fun k2 q hq _ => ht.rows k2 q hq (by simp)
                boxes := fun b cs hb _ => by
                  rw [hlen]
                  by_cases e : b = b'
                  · subst e
                    cases hcs : st1.b[b]? with
                    | none => simp [ASt.cellAt, hcs] at hk1
                    | some cs0 =>
                      simp only [ASt.setC, setCell_same hcs, Option.some.injEq] at hb; subst hb
                      obtain ⟨c, T', q1, q2, q3⟩ := ht.boxes b cs0 hcs (by simp)
                      refine ⟨c, T', q1, by simp [q2], fun t b2 y ht2 hy => ?_⟩
                      by_cases et : t = j'
                      · subst et
                        have hcj : cs0[t]? = some (.ow sz2 l) := by simpa [ASt.cellAt, hcs] using hk1
                        have hlt : t < cs0.length := by
                          rcases Nat.lt_or_ge t cs0.length with h | h
                          · exact h
                          · rw [List.getElem?_eq_none h] at hcj; cases hcj
                        rw [List.getElem?_set_self hlt] at ht2
                        simp only [Option.some.injEq] at ht2; subst ht2
                        have hq := q3 t _ y hcj hy
                        simp only [CellV] at hq ⊢; exact hq
                      · rw [List.getElem?_set_ne (Ne.symm et)] at ht2; exact q3 t b2 y ht2 hy
                  · simp only [ASt.setC, setCell_other e] at hb; exact ht.boxes b cs hb (by simp)
                crows := fun b j sz l0 hc _ => by
                  rw [cellAt_setC] at hc
                  by_cases e : b = b' ∧ j = j'
                  · obtain ⟨rfl, rfl⟩ := e
                    simp only [and_self, if_true, hk1, Option.map_some, Option.some.injEq, AV.ow.injEq] at hc
                    obtain ⟨rfl, rfl⟩ := hc; exact r2
                  · simp only [e, if_false] at hc; exact ht.crows b j sz l0 hc (by simpa using fun e1 e2 => e ⟨e1.symm, e2.symm⟩)
                disj := fun X Y m hX hY => ht.disj X Y m (hlv X m hX) (hlv Y m hY)
                mine := fun X m hX => ht.mine X m (hlv X m hX)
                kept := ht.kept, stab := ht.stab, stab0 := ht.stab0
                beta := ⟨by rw [hlen]; exact ht.beta.1, ht.beta.2⟩
                os := ht.os, tape := ht.tape, output := ht.output, grown := ht.grown, glob := ht.glob, lpc := fun i p hp _ => ht.lpc i p hp (by simp) }
            refine ⟨.skip, undef, w2, g1, ?_, .inr ⟨rfl, rfl⟩, hfin.skipPut _⟩
            unfold execOp; simp only [ho, hz]
            simp only [Instr.storeAt, Instr.sureAddr, Sem.run_bind, Sem.run_pure, Result.andThen_ok, storeVar, sizeOf_run hi, hn, f1, hul, ne_eq, not_true_eq_false, if_false, r1]
        · cases he
      · cases he
    · cases he
  · cases he
end
end Go.Ab
end
section
/- The abstract layer, part Q: 'eop' is what the machine does, continued: literals, make, append, slices of rows. -/
namespace Go.Ab
open Go.RowKit

section
variable {C : Env} {E : Entry} {st : ASt} {a : Act} {w w' : World} {g : Gh} {pol : Pol}

theorem evEls_sound (h : Rel C E st a w g) {hs : List (Option Nat)} {sz : Nat} : ∀ {ps : List (Nat × Operand)} {k : Nat} {us : List AV}, evEls C st hs sz k ps = some us →
    us.length = ps.length ∧ (∀ u ∈ us, u.cells.length = sz) ∧ ∀ (j i : Nat) (x : Operand), ps[j]? = some (i, x) → i = k + j ∧ ∃ u, us[j]? = some u ∧ (a.eval x).cells.size = sz ∧
      ∀ (t : Nat) (b : AV) (y : Value), u.cells[t]? = some b → (a.eval x).cells[t]? = some y → Sh w g.N b y
  | [], k, us, he => by simp only [evEls, Option.some.injEq] at he; subst he; simp
  | (i, x) :: ps, k, us, he => by
    unfold evEls at he
    split at he
    · rename_i hik
      split at he
      · rename_i u us' h1 h2
        split at he
        · rename_i hsz
          simp only [Option.some.injEq] at he; subst he
          obtain ⟨e1, e2, e3⟩ := evEls_sound h h2
          simp only [Option.bind_eq_some_iff] at h1
          obtain ⟨v, hv, hu⟩ := h1
          obtain ⟨f1, f2⟩ := shEl_sound hu (ev_sound h hv).1
          refine ⟨by simp [e1], fun u' hu' => ?_, fun j i' x' hj => ?_⟩
          · rcases List.mem_cons.1 hu' with rfl | hu'
            · exact hsz
            · exact e2 u' hu'
          · cases j with
            | zero =>
              simp at hj; obtain ⟨rfl, rfl⟩ := hj
              exact ⟨by omega, u, rfl, by omega, f2⟩
            | succ j =>
              obtain ⟨d1, d2⟩ := e3 j i' x' (by simpa using hj)
              exact ⟨by omega, by simpa using d2⟩
        · cases he
      · cases he
    · cases he

theorem buildSlice_sound (h : Rel C E st a w g) {o : Oper} {T : TypeId} {n : Nat} {ps : Array (Nat × Operand)} (ho : o.op = .buildSlice T n ps) {st' : ASt} (he : eop C pol st o = some st') : StepOk C E a w o st' := by
  unfold eop at he
  simp only [ho] at he
  split at he
  · rename_i d e sz by' z hd hrow
    obtain ⟨i, hu, hi, hz, _, h0, _, hs, _⟩ := rowOf_spec hrow
    obtain ⟨g1, h1⟩ := shareL_sound (ps.toList.flatMap fun p => match st.ev C p.2 with
        | some v => v.cells
        | none => []) h
    generalize st.shareL (ps.toList.flatMap fun p => match st.ev C p.2 with
        | some v => v.cells
        | none => []) = st1 at he h1
    split at he
    · rename_i hc
      obtain ⟨hn, hsz⟩ := hc
      split at he
      · rename_i us hus
        simp only [Option.some.injEq] at he; subst he
        obtain ⟨e1, e2, e3⟩ := evEls_sound h1 hus
        have hpn : (ps.map fun p => (p.1, a.eval p.2)).size = n := by simp [hn]
        obtain ⟨cs, f1, f2⟩ := buildSlice_run (P := C.P) hu hi hz n (ps.map fun p => (p.1, a.eval p.2)) hpn (by rw [hs]; exact hsz)
          (fun j k x hj => by
            rw [Array.getElem?_map, Option.map_eq_some_iff] at hj
            obtain ⟨⟨k', x'⟩, hj, hjx⟩ := hj
            simp only [Prod.mk.injEq] at hjx
            obtain ⟨rfl, rfl⟩ := hjx
            obtain ⟨d1, u, _, d3, _⟩ := e3 j k' x' (by simpa using hj)
            exact ⟨by omega, by rw [d3, hs]⟩) w
        have hul : us.length = n := by rw [e1, ← hn]; simp
        have huni : ∀ p ∈ (ps.map fun p => (p.1, a.eval p.2)).toList, (p.2.cells.toList).length = sz := by
          intro p hp
          simp only [Array.toList_map, List.mem_map] at hp
          obtain ⟨q, hq, rfl⟩ := hp
          obtain ⟨j, hj, hjq⟩ := List.mem_iff_getElem.1 hq
          obtain ⟨_, u, _, d3, _⟩ := e3 j q.1 q.2 (by rw [List.getElem?_eq_getElem hj, hjq])
          simpa using d3
        have hcl : cs.size = n * sz := by
          rw [← Array.length_toList, f1, flatG_len huni]; simp [hn]
        have hrow' : RowR (w.alloc (.cells cs e)) g1.N sz us (.slice (some ⟨w.heap.size, 0, none⟩) n n) := by
          refine ⟨hs ▸ h0, e, cs.toList, ⟨by simp [hcl, hul], .inr ⟨w.heap.size, n, cs, by rw [hul], Nat.zero_le _, heap_alloc_new w _, by omega, ?_, hcl, ?_⟩⟩, e2, fun k b y hb hy => ?_⟩
          · have h1 : 1 ≤ sz := hs ▸ h0
            have h2 : n * 1 ≤ n * sz := Nat.mul_le_mul_left _ h1
            simp only [maxLen]; omega
          · rw [List.take_of_length_le]; simp [hcl, hul]
          · have hk : k < us.length * sz := by
              rcases Nat.lt_or_ge k (us.length * sz) with h | h
              · exact h
              · rw [List.getElem?_eq_none (by rw [flat_len e2]; exact h)] at hb; cases hb
            have ediv : k = (k / sz) * sz + k % sz := by rw [Nat.mul_comm]; exact (Nat.div_add_mod k sz).symm
            have hmod : k % sz < sz := Nat.mod_lt _ (hs ▸ h0)
            have hq : k / sz < us.length := by
              rw [Nat.div_lt_iff_lt_mul (hs ▸ h0)]; exact hk
            rw [ediv, flat_get e2 _ _ hmod] at hb
            rw [f1, ediv, flatG_get huni _ _ hmod] at hy
            have hpq : ps.toList[k / sz]? = some (ps.toList[k / sz]'(by rw [← e1]; exact hq)) := by simp
            obtain ⟨_, u, d2, d3, d4⟩ := e3 (k / sz) _ _ hpq
            simp only [Array.toList_map, List.getElem?_map, hpq, Option.map_some, Option.bind_some] at hy
            simp only [d2, Option.bind_some] at hb
            exact (d4 _ b y hb (by simpa using hy)).mono fun m hm => ⟨hm, heap_alloc_old w _ m (h1.stab m hm).1⟩
        have h2 := h1.fresh (World.grownBy_alloc w (.cells cs e) none) (.inr rfl) hrow' d
        refine ⟨_, _, _, _, ?_, .inl rfl, by rw [hd]; exact put_own h2⟩
        unfold execOp; simp only [ho]
        simp only [Sem.run_bind, f2, Result.andThen_ok, Sem.run_pure]
      · cases he
    · cases he
  · cases he

theorem makeSlice_sound (h : Rel C E st a w g) {o : Oper} {T : TypeId} {l c : Operand} (ho : o.op = .makeSlice T l c) {st' : ASt} (he : eop C pol st o = some st') : StepOk C E a w o st' := by
  unfold eop at he
  simp only [ho] at he
  split at he
  · rename_i d e sz by' z n m hd hrow hn hm
    obtain ⟨i, hu, hi, hz, hzs, h0, hb0, hs, hby⟩ := rowOf_spec hrow
    obtain ⟨kn, en⟩ := intOf?_eq h hn
    obtain ⟨km, em⟩ := intOf?_eq h hm
    split at he
    · rename_i u hzu
      split at he
      · rename_i hc
        obtain ⟨c1, c2, c3⟩ := hc
        simp only [Option.some.injEq] at he; subst he
        obtain ⟨f1, f2⟩ := shEl_sound (w := w) (g := g) (x := z) hzu (ofV_rv w g z)
        have hbm : m ≤ m * by' := by
          have : (1 : Int) ≤ by' := by omega
          have := Int.mul_le_mul_of_nonneg_left this (show (0 : Int) ≤ m by omega)
          omega
        have hr := run_make (P := C.P) w T e i z hu hi hz kn km n m c1 c2 (by rw [hby, Int.mul_comm]; omega) (by omega)
        have hcz : (madeCells z.cells (m.toNat * i.size)).size = m.toNat * sz := by rw [size_madeCells, hs]
        have hrow' : RowR (w.alloc (.cells (madeCells z.cells (m.toNat * i.size)) e)) g.N sz (List.replicate n.toNat u) (.slice (some ⟨w.heap.size, 0, none⟩) n.toNat m.toNat) := by
          have huni : ∀ b ∈ List.replicate n.toNat u, b.cells.length = sz := fun b hb => by
            rw [(List.mem_replicate.1 hb).2, ← f1, hzs, hs]
          have hnm : n.toNat * sz ≤ m.toNat * sz := Nat.mul_le_mul_right _ (by omega)
          refine ⟨hs ▸ h0, e, (madeCells z.cells (m.toNat * i.size)).toList.take (n.toNat * sz), ⟨by rw [List.length_take, Array.length_toList, hcz, List.length_replicate]; omega, .inr ⟨w.heap.size, m.toNat, _, by simp, Nat.zero_le _, heap_alloc_new w _, by simp; omega, by simp only [maxLen]; omega, hcz, by simp⟩⟩, huni, fun k b y hb hy => ?_⟩
          have hk : k < n.toNat * sz := by
            rcases Nat.lt_or_ge k (n.toNat * sz) with h | h
            · exact h
            · rw [List.getElem?_eq_none (by rw [flat_len huni]; simpa using h)] at hb; cases hb
          have ediv : k = (k / sz) * sz + k % sz := by rw [Nat.mul_comm]; exact (Nat.div_add_mod k sz).symm
          have hmod : k % sz < sz := Nat.mod_lt _ (hs ▸ h0)
          have hq : k / sz < n.toNat := by rw [Nat.div_lt_iff_lt_mul (hs ▸ h0)]; exact hk
          rw [ediv, flat_get huni _ _ hmod] at hb
          simp only [List.getElem?_replicate, hq, if_true, Option.bind_some] at hb
          rw [List.getElem?_take_of_lt hk, Array.getElem?_toList] at hy
          have hzk : z.cells[k % sz]? = some y := by
            have hkm : k < m.toNat * i.size := by rw [hs]; omega
            simp only [madeCells, Array.getElem?_map, Array.getElem?_range, hkm, if_true, Option.map_some, Option.some.injEq] at hy
            have hzsz : z.cells.size = sz := by rw [hzs, hs]
            rw [hzsz] at hy
            rw [← hy]
            have : k % sz < z.cells.size := by rw [hzsz]; exact hmod
            simp [this]
          exact (f2 _ b y hb hzk).mono fun m hm => ⟨hm, heap_alloc_old w _ m (h.stab m hm).1⟩
        have h2 := h.fresh (World.grownBy_alloc w _ none) (.inr rfl) hrow' d
        refine ⟨_, _, _, _, ?_, .inl rfl, by rw [hd]; exact put_own h2⟩
        unfold execOp; simp only [ho, en, em]
        simp only [Sem.run_bind, hr, Result.andThen_ok, Sem.run_pure]
      · cases he
    · cases he
  · cases he

/-- What an appended slice brings. -/
theorem list_sound2 (h : Rel C E st a w g) {v : AV} {l : List AV} {x : Value} {sz : Nat} (hl : st.list v = some l) (hsz : (st.szOf v).getD sz = sz) (hv : Rv w g v x) :
    ∃ ad cap, x = .slice ad l.length cap ∧ (ad = none → l = []) ∧ (∀ e ∈ l, e.cells.length = sz) ∧ (v.mb = 0 → True) ∧
      ∃ xs : List Value, xs.length = l.length * sz ∧ (∀ d, ad = some d → ∀ j u, xs[j]? = some u → w.cell? (d.add j) = some u) ∧ ∀ (k : Nat) (a : AV) (y : Value), (l.flatMap AV.cells)[k]? = some a → xs[k]? = some y → Sh w g.N a y := by
  have nilc : ∀ (ad : Option Addr) (cap : Nat), l = [] → x = .slice ad 0 cap → ∃ ad cap, x = .slice ad l.length cap ∧ (ad = none → l = []) ∧ (∀ e ∈ l, e.cells.length = sz) ∧ (v.mb = 0 → True) ∧
      ∃ xs : List Value, xs.length = l.length * sz ∧ (∀ d, ad = some d → ∀ j u, xs[j]? = some u → w.cell? (d.add j) = some u) ∧ ∀ (k : Nat) (a : AV) (y : Value), (l.flatMap AV.cells)[k]? = some a → xs[k]? = some y → Sh w g.N a y := by
    intro ad cap e1 e2
    subst e1
    exact ⟨ad, cap, e2, fun _ => rfl, by simp, fun _ => trivial, [], by simp, by simp, by simp⟩
  obtain ⟨ad, cap, h1, h2, sz', h3, h4⟩ := list_sound h hl hv
  by_cases hn : l = []
  · exact nilc ad cap hn (by rw [h1, hn]; rfl)
  · obtain ⟨m, o, rfl, xs, h5, h6, h7⟩ := h4 hn
    have hss : sz' = sz := by
      obtain ⟨e, he⟩ := List.exists_mem_of_ne_nil l hn
      have e1 := h3 e he
      -- the size that the word bears
      unfold ASt.list at hl
      split at hl
      · simp only [Option.some.injEq] at hl; exact absurd hl.symm hn
      · simp only [Option.some.injEq] at hl; subst hl
        simp only [ASt.szOf, Option.getD_some] at hsz; subst hsz
        cases hv with
        | sl hs => cases hs with
          | nil => exact absurd rfl hn
          | sl _ _ _ _ _ _ _ _ _ _ hu _ _ _ => rw [← e1, hu e he]
      · simp only [Option.some.injEq] at hl; subst hl
        simp only [ASt.szOf, Option.getD_some] at hsz; subst hsz
        cases hv with
        | slx hs => cases hs with
          | nil => exact absurd rfl hn
          | sl _ _ _ _ _ _ _ _ _ _ hu _ _ _ => rw [← e1, hu e he]
      · simp only [Option.map_eq_some_iff] at hl
        obtain ⟨p, hp, rfl⟩ := hl
        simp only [ASt.szOf, hp, Option.map_some, Option.getD_some] at hsz; subst hsz
        obtain ⟨_, _, _, _, hu, _⟩ := h.rows _ p hp (by simp)
        rw [← e1, hu e he]
      · split at hl
        · rename_i hc
          simp only [Option.some.injEq] at hl; subst hl
          simp only [ASt.szOf, hc, Option.getD_some] at hsz; subst hsz
          obtain ⟨_, _, _, _, hu, _⟩ := h.crows _ _ _ _ hc (by simp)
          rw [← e1, hu e he]
        · cases hl
      · cases hl
    subst hss
    exact ⟨_, cap, h1, h2, h3, fun _ => trivial, xs, h5, fun d hd j u hu => by cases hd; rw [Addr.add_lit]; exact h6 j u hu, h7⟩

theorem Sh_list_one {l : List AV} {xs : List Value} {N : Nat → Prop} {sz : Nat} (hu : ∀ e ∈ l, e.cells.length = sz) (hl : xs.length = l.length * sz)
    (h : ∀ (k : Nat) (a : AV) (y : Value), (l.flatMap AV.cells)[k]? = some a → xs[k]? = some y → Sh w N a y) : ∀ u ∈ xs, u.oneCell' = true := by
  intro u hm
  obtain ⟨k, hk, rfl⟩ := List.mem_iff_getElem.1 hm
  have hk' : k < (l.flatMap AV.cells).length := by rw [flat_len hu]; omega
  exact (h k ((l.flatMap AV.cells)[k]) xs[k] (by simp) (by simp)).one

theorem flat_append (l l2 : List AV) : (l ++ l2).flatMap AV.cells = l.flatMap AV.cells ++ l2.flatMap AV.cells := by simp

/-- A row, and what is appended to it. -/
theorem RowR.app {N : Nat → Prop} {sz : Nat} {l l2 : List AV} {v' : Value} {xs xs2 : List Value} {e1 : TypeId} (h0 : 0 < sz) (hu : ∀ a ∈ l, a.cells.length = sz) (hu2 : ∀ a ∈ l2, a.cells.length = sz)
    (hl : xs.length = l.length * sz) (hx : ∀ (k : Nat) (a : AV) (x : Value), (l.flatMap AV.cells)[k]? = some a → xs[k]? = some x → Sh w N a x)
    (hx2 : ∀ (k : Nat) (a : AV) (x : Value), (l2.flatMap AV.cells)[k]? = some a → xs2[k]? = some x → Sh w N a x)
    (ho : w'.ownsRow 0 e1 sz v' (l.length + l2.length) (xs ++ xs2)) (hN : ∀ m, N m → w'.heap[m]? = w.heap[m]?) : RowR w' N sz (l ++ l2) v' := by
  refine ⟨h0, e1, xs ++ xs2, by simpa using ho, fun a ha => (List.mem_append.1 ha).elim (hu a) (hu2 a), fun k a x ha hx' => ?_⟩
  rw [flat_append] at ha
  have hlen : (l.flatMap AV.cells).length = xs.length := by rw [flat_len hu, hl]
  rcases Nat.lt_or_ge k xs.length with hk | hk
  · rw [List.getElem?_append_left (by omega)] at ha
    rw [List.getElem?_append_left hk] at hx'
    exact (hx k a x ha hx').mono fun m hm => ⟨hm, hN m hm⟩
  · rw [List.getElem?_append_right (by omega)] at ha
    rw [List.getElem?_append_right hk] at hx'
    rw [hlen] at ha
    exact (hx2 _ a x ha hx').mono fun m hm => ⟨hm, hN m hm⟩

theorem append_run {o : Oper} {s x : Operand} {t : TypeId} (ho : o.op = .call { callee := .builtin .append, args := #[s, x], argTypes := #[t, t] }) {v : Value} (hr : (Builtin.append_ #[t, t] o.type #[a.eval s, a.eval x]).run C.P w = .ok v w') :
    (execOp a.eval o).run C.P w = .ok (.value v) w' := by
  unfold execOp
  simp only [ho, resolve, invoke, builtin, Sem.run_bind, Sem.run_pure, Result.andThen_ok, List.map_toArray, List.map_cons, List.map_nil, hr]

theorem append_sound (h : Rel C E st a w g) {o : Oper} {args : Array Operand} {argTypes : Array TypeId} (ho : o.op = .call { callee := .builtin .append, args, argTypes }) {st' : ASt} (he : eop C pol st o = some st') : StepOk C E a w o st' := by
  unfold eop at he
  simp only [ho] at he
  split at he
  · rename_i d s x t t' hd hargs htypes
    have ea : args = #[s, x] := by rw [← Array.toArray_toList (xs := args), hargs]
    have et : argTypes = #[t, t'] := by rw [← Array.toArray_toList (xs := argTypes), htypes]
    subst ea; subst et
    split at he
    · rename_i e sz by' z sv xv hrow hs hx
      obtain ⟨i, hu, hi, hz, hzs, h0, hb0, hsi, hby⟩ := rowOf_spec hrow
      split at he
      · rename_i l l2 hl hl2
        split at he
        · rename_i hc
          obtain ⟨rfl, hsx, hss, hbytes⟩ := hc
          obtain ⟨es, ms⟩ := ev_sound h hs
          obtain ⟨ex, mx⟩ := ev_sound h hx
          obtain ⟨ad, c, x1, x2, x3, _, xs2, x4, x5, x6⟩ := list_sound2 h hl2 hsx ex
          subst hsi; subst hby
          have hlen63 : l.length + l2.length ≤ maxLen := by
            have : l.length + l2.length ≤ (l.length + l2.length) * i.bytes := Nat.le_mul_of_pos_right _ hb0
            simp only [maxLen]; omega
          have hone2 := Sh_list_one x3 x4 x6
          -- one row, whichever it is: how it grows
          have rowcase : ∀ (v : Value), a.eval s = v → RowR w g.N i.size l v → (∀ m, v.ownBlock = some m → ¬ g.N m) → ∃ v' w1, (Builtin.append_ #[t', t'] o.type #[a.eval s, a.eval x]).run C.P w = .ok v' w1 ∧ RowR w1 g.N i.size (l ++ l2) v' ∧ w.grownBy w1 v.ownBlock ∧ (v'.ownBlock = v.ownBlock ∨ v'.ownBlock = some w.heap.size) := by
            intro v hv hr hm
            obtain ⟨_, e0, xs, hown, hun, hxs⟩ := hr
            rw [hv, x1]
            cases ad with
            | none =>
              have hl20 := x2 rfl
              subst hl20
              refine ⟨v, w, by have := run_append_zero (P := C.P) w t' o.type e i hu hi v l.length xs e0 hown none c; simpa using this, ?_, grownBy_rfl _ _, .inl rfl⟩
              rw [List.append_nil]; exact ⟨h0, e0, xs, hown, hun, hxs⟩
            | some ad =>
              obtain ⟨v', w1, e1, r1, r2, r3, r4⟩ := run_append_row (P := C.P) w t' o.type e e0 i z hu hi hz hzs v l.length xs hown ad l2.length c xs2 x4 (x5 ad rfl) hone2 hbytes hlen63
              exact ⟨v', w1, r1, RowR.app h0 hun x3 hown.1 hxs x6 r2 (fun m hm' => r3.block m (h.stab m hm').1 (fun e => hm m e.symm hm')), r3, r4⟩
          split at he
          · -- nil
            simp only [Option.some.injEq] at he; subst he
            simp only [ASt.list, Option.some.injEq] at hl; subst hl
            generalize hz' : a.eval s = y at es
            cases es
            obtain ⟨v', w1, r1, r2, r3, r4⟩ := rowcase _ hz' (RowR.empty w g.N h0) (by simp [Value.ownBlock])
            have h2 := h.fresh r3 (r4.elim (fun e => .inl e) .inr) r2 d
            exact ⟨_, _, _, _, append_run ho r1, .inl rfl, by rw [hd]; exact put_own h2⟩
          · -- a row
            rename_i k
            simp only [Option.some.injEq] at he; subst he
            generalize hz' : a.eval s = y at es
            cases es
            simp only [ASt.list, Option.map_eq_some_iff] at hl
            obtain ⟨p, hp, rfl⟩ := hl
            have hps : p.1 = i.size := by simpa [ASt.szOf, hp] using hss
            have hrk := h.rows k p hp (by simp)
            rw [hps] at hrk
            obtain ⟨v', w1, r1, r2, r3, r4⟩ := rowcase _ hz' hrk (fun m hm => (h.mine (.row k) m (by rw [live_row hp]; exact hm)).1)
            have h2 := h.regrown hp r3 (.inr r4) r2 d
            exact ⟨_, _, _, _, append_run ho r1, .inl rfl, by rw [hd]; exact put_own h2⟩
          · -- a row in a cell
            rename_i b j
            simp only [Option.some.injEq] at he; subst he
            generalize hz' : a.eval s = y at es
            cases es
            simp only [ASt.list] at hl
            split at hl
            · rename_i sz0 l0 hcell
              simp only [Option.some.injEq] at hl; subst hl
              have hps : sz0 = i.size := by simpa [ASt.szOf, hcell] using hss
              have hrk := h.crows b j _ _ hcell (by simp)
              rw [hps] at hrk
              have hlv : live st g (.cel b j) = (g.χ b j).ownBlock := live_cel hcell
              obtain ⟨v', w1, r1, r2, r3, r4⟩ := rowcase _ hz' hrk (fun m hm => (h.mine (.cel b j) m (by rw [hlv]; exact hm)).1)
              -- the cell is dead, its row is free
              have h2 : RelX C E (some (.cel b j)) st a w1 g := RelX.touch h (.cel b j) (.inl rfl) (by rw [hlv]; exact r3)
              have hlen : (st.deadC b j).b.length = st.b.length := setCell_len _ _ _ _
              have hlv2 : ∀ X m, live (st.deadC b j) g X = some m → live st g X = some m ∧ X ≠ .cel b j := by
                intro X m hX
                cases X with
                | row k => exact ⟨hX, by simp⟩
                | box b' => simp only [live, hlen] at hX ⊢; exact ⟨hX, by simp⟩
                | lp i => exact ⟨hX, by simp⟩
                | cel b' j' =>
                  have hX' : live (st.setC b j .dead) g (.cel b' j') = some m := hX
                  simp only [live, cellAt_setC] at hX' ⊢
                  by_cases e : b' = b ∧ j' = j
                  · simp [e, hcell] at hX'
                  · simp only [e, if_false] at hX'; exact ⟨hX', by simpa using e⟩
              have h3k : RelX C E (some (.cel b j)) { st with s := only (fun _ v => !v.hasCel b j) st.s } a w1 g := h2.killC b j
              have h3 : Rel C E (st.deadC b j) a w1 g := {
                size := h3k.size, slots := h3k.slots
                bx := fun t v ht => by rw [hlen]; exact h3k.bx t v ht
                rows := fun k p hk _ => h3k.rows k p hk (by simp)
                boxes := fun b' cs hb' _ => by
                  rw [hlen]
                  have hb' : (st.setC b j .dead).b[b']? = some cs := hb'
                  by_cases e : b' = b
                  · subst e
                    cases hcs : st.b[b']? with
                    | none => simp [ASt.cellAt, hcs] at hcell
                    | some cs0 =>
                      simp only [ASt.setC, setCell_same hcs, Option.some.injEq] at hb'; subst hb'
                      obtain ⟨c', T, q1, q2, q3⟩ := h3k.boxes b' cs0 hcs (by simp)
                      refine ⟨c', T, q1, by simp [q2], fun t u y ht hy => ?_⟩
                      by_cases et : t = j
                      · subst et
                        have hcj : cs0[t]? = some (.ow sz0 l0) := by simpa [ASt.cellAt, hcs] using hcell
                        have hlt : t < cs0.length := by
                          rcases Nat.lt_or_ge t cs0.length with h | h
                          · exact h
                          · rw [List.getElem?_eq_none h] at hcj; cases hcj
                        rw [List.getElem?_set_self hlt] at ht
                        simp only [Option.some.injEq] at ht; subst ht
                        have hq := q3 t _ y hcj hy
                        simp only [CellV] at hq
                        obtain ⟨ad', n', c'', e'⟩ := hrk.slice
                        exact ⟨.dead, rfl, by rw [hq, e']; rfl, by simp [AV.mb]⟩
                      · rw [List.getElem?_set_ne (Ne.symm et)] at ht; exact q3 t u y ht hy
                  · simp only [ASt.setC, setCell_other e] at hb'; exact h3k.boxes b' cs hb' (by simp)
                crows := fun b' j' sz' l' hc' _ => by
                  have hc' : (st.setC b j .dead).cellAt b' j' = some (.ow sz' l') := hc'
                  rw [cellAt_setC] at hc'
                  by_cases e : b' = b ∧ j' = j
                  · simp [e, hcell] at hc'
                  · simp only [e, if_false] at hc'; exact h3k.crows b' j' sz' l' hc' (by simpa using fun e1 e2 => e ⟨e1.symm, e2.symm⟩)
                disj := fun X Y m hX hY => h.disj X Y m (hlv2 X m hX).1 (hlv2 Y m hY).1
                mine := fun X m hX => h2.mine X m (hlv2 X m hX).1
                kept := h3k.kept, stab := h3k.stab, stab0 := h3k.stab0
                beta := ⟨by rw [hlen]; exact h.beta.1, h.beta.2⟩
                os := h3k.os, tape := h3k.tape, output := h3k.output, grown := h3k.grown, glob := h3k.glob, lpc := fun i p hp _ => h3k.lpc i p hp (by simp) }
              have h4 : Rel C E ((st.deadC b j).kill d) a w1 g := h3.kill d
              have h5 := RelX.newRow (st := (st.deadC b j).kill d) (k := d) h4 (.inl rfl) (fun t u ht => kill_no ht) r2 (fun m hm => by
                rcases r4 with r4 | r4
                · rw [r4] at hm
                  have hlm : live st g (.cel b j) = some m := by rw [hlv]; exact hm
                  obtain ⟨q1, q2, _⟩ := h.mine _ m hlm
                  exact ⟨q1, q2, fun Y _ hY => (hlv2 Y m (live_kill hY).1).2 (h.disj _ _ m (hlv2 Y m (live_kill hY).1).1 hlm)⟩
                · rw [r4] at hm
                  have em : m = w.heap.size := (Option.some.inj hm).symm
                  subst em
                  refine ⟨fun hn => ?_, .inr h.grown, fun Y _ hY => ?_⟩
                  · have := (h.stab _ hn).1; omega
                  · have := (h.mine Y _ (hlv2 Y _ (live_kill hY).1).1).2.2; omega)
              exact ⟨_, _, _, _, append_run ho r1, .inl rfl, by rw [hd]; exact put_own h5⟩
            · cases hl
          · -- a shared slice without room
            rename_i sz0 l0
            split at he
            · cases he
            · rename_i hne
              simp only [Option.some.injEq] at he; subst he
              obtain ⟨ads, cs, s1, s2, s3, _, xs, s4, s5, s6⟩ := list_sound2 h hl hss es
              have hcap : cs = l.length := by
                rw [s1] at es; cases es; rfl
              subst hcap
              obtain ⟨m2, hm2⟩ : ∃ m2, ad = some m2 := by
                cases ad with
                | none => exact absurd (by rw [x2 rfl]; rfl) hne
                | some m2 => exact ⟨m2, rfl⟩
              subst hm2
              have hpos : 0 < l2.length := by cases l2 <;> simp_all
              obtain ⟨v', w1, r1, r2, r3, r4⟩ := run_append_full (P := C.P) w t' o.type e i z hu hi hz hzs ads l.length xs s4 (fun d hd j u hu' => s5 d hd j u hu') (fun e => by rw [s2 e]; rfl) m2 l2.length c xs2 x4 (x5 m2 rfl) hpos hbytes hlen63
              have hrow' : RowR w1 g.N i.size (l ++ l2) v' := RowR.app h0 s3 x3 s4 s6 x6 r2 (fun m hm' => r3.block m (h.stab m hm').1 (by simp))
              have h2 := h.fresh r3 (.inr r4) hrow' d
              exact ⟨_, _, _, _, append_run ho (by rw [s1, x1]; exact r1), .inl rfl, by rw [hd]; exact put_own h2⟩
          · cases he
        · cases he
      · cases he
    · cases he
  · cases he
end
end Go.Ab
end
section
/- The abstract layer, part R: 'eop', the rest: slices of rows, strings as bytes, struct literals. -/
namespace Go.Ab
open Go.RowKit

section
variable {C : Env} {E : Entry} {st : ASt} {a : Act} {w w' : World} {g : Gh} {pol : Pol}

/-- A row cut to its first n elements: the same block. -/
theorem RowR.take {N : Nat → Prop} {sz : Nat} {l : List AV} {v : Value} (hr : RowR w N sz l v) {n : Nat} (hn : n ≤ l.length) : ∃ ad len cap, v = .slice ad len cap ∧ l.length ≤ cap ∧ (ad = none → cap = 0) ∧ (∀ d, ad = some d → d.off = 0 ∧ d.spot = none) ∧
    RowR w N sz (l.take n) (.slice ad n cap) ∧ (Value.slice ad n cap).ownBlock = v.ownBlock := by
  obtain ⟨h0, e, xs, ho, hu, hx⟩ := hr
  rcases ho.2 with ⟨h1, h2⟩ | ⟨m, cap, cur, h1, hb, h3, h4, h5, h6, h7⟩
  · have hl0 : l = [] := List.eq_nil_of_length_eq_zero h2
    subst hl0
    have : n = 0 := by simpa using hn
    subst this
    exact ⟨none, 0, 0, h1, by simp, fun _ => rfl, by simp, RowR.empty w N h0, by rw [h1]⟩
  · refine ⟨_, _, cap, h1, h4, by simp, fun d hd => by cases hd; exact ⟨rfl, rfl⟩, ⟨h0, e, xs.take (n * sz), ⟨?_, .inr ⟨m, cap, cur, ?_, hb, h3, ?_, h5, h6, ?_⟩⟩, fun a ha => hu a (List.mem_of_mem_take ha), fun k a x ha hx' => ?_⟩, by rw [h1]; rfl⟩
    · have : n * sz ≤ l.length * sz := Nat.mul_le_mul_right _ hn
      rw [List.length_take, List.length_take, ho.1]; rw [Nat.min_eq_left hn]; omega
    · rw [List.length_take, Nat.min_eq_left hn]
    · rw [List.length_take, Nat.min_eq_left hn]; omega
    · rw [List.length_take, Nat.min_eq_left hn, ← h7, List.take_take, Nat.min_eq_left (Nat.mul_le_mul_right _ hn)]
    · have hsplit : l.flatMap AV.cells = (l.take n).flatMap AV.cells ++ (l.drop n).flatMap AV.cells := by rw [← List.flatMap_append, List.take_append_drop]
      refine hx k a x ?_ ?_
      · rw [hsplit, List.getElem?_append_left]
        · exact ha
        · rcases Nat.lt_or_ge k ((l.take n).flatMap AV.cells).length with h | h
          · exact h
          · rw [List.getElem?_eq_none h] at ha; cases ha
      · rw [List.getElem?_take] at hx'
        split at hx'
        · exact hx'
        · cases hx'

theorem sliceTo_run {P : Program} {T sz : Nat} (hT : elemOf P T = some sz) {ad : Option Addr} {len cap : Nat} {k : IntKind} {n : Int} (h0 : 0 ≤ n) (hn : n ≤ len) (hc : len ≤ cap) (w : World) :
    (Instr.sliceAt T (.slice ad len cap) none (some (.int k n)) none).run P w = .ok (.slice ad n.toNat cap) w := by
  obtain ⟨e, i, hu, hi, _⟩ := underlying_slice hT
  unfold Instr.sliceAt
  simp only [Sem.run_bind, run_underlying hu, Result.andThen_ok]
  unfold Instr.slice
  have hnc : n ≤ (cap : Int) := by omega
  simp only [Sem.run_bind, run_underlying hu, Result.andThen_ok, sizeOf_run hi, Sem.run_pure]
  have hb : (Instr.sliceBounds true len cap none (some (.int k n)) none).run P w = .ok (0, n.toNat, cap) w := by
    simp [Instr.sliceBounds, Instr.sliceBound, asIntOf, h0, hnc]
  simp only [hb, Result.andThen_ok, Nat.zero_mul, Addr.add_zero', Nat.sub_zero]
  congr 2
  cases ad <;> simp

theorem slice_own_sound (h : Rel C E st a w g) {o : Oper} {T : TypeId} {x : Operand} {lo hi mx : Option Operand} (ho : o.op = .slice T x lo hi mx) {st' : ASt} (he : eop C pol st o = some st') : StepOk C E a w o st' := by
  unfold eop at he
  simp only [ho] at he
  split at he
  · rename_i d k hd hx
    have hv := (ev_sound h hx).1
    split at he
    · -- the first elements of a row
      rename_i sz l hh hk _
      split at he
      · rename_i n sz' hn hT
        split at he
        · rename_i hc
          simp only [Option.some.injEq] at he; subst he
          obtain ⟨kn, en⟩ := intOf?_eq h hn
          generalize hz : a.eval x = z at hv
          cases hv
          have hlen : n.toNat ≤ l.length := by omega
          obtain ⟨ad, len, cap, e1, e2, e3, e4, e5, e6⟩ := (h.rows k _ hk (by simp)).take hlen
          have hlen' : len = l.length := by
            obtain ⟨_, _, _, hown, _⟩ := h.rows k _ hk (by simp)
            rcases hown.2 with ⟨q1, q2⟩ | ⟨m, c2, cur, q1, _⟩
            · rw [e1] at q1; simp only [Value.slice.injEq] at q1; rw [q1.2.1]; exact q2.symm
            · rw [e1] at q1; simp only [Value.slice.injEq] at q1; exact q1.2.1
          have h2 := h.regrown hk (grownBy_rfl w (g.κ k).ownBlock) (.inr (.inl e6)) e5 d
          have hnl : n ≤ (len : Int) := by omega
          have hlc : len ≤ cap := by rw [hlen']; exact e2
          refine ⟨_, _, w, _, ?_, .inl rfl, by rw [hd]; exact put_own h2⟩
          unfold execOp; simp only [ho, hz, e1, Option.map_none, Option.map_some, en]
          simp only [Sem.run_bind, sliceTo_run (cap := cap) hT hc.1 hnl hlc, Result.andThen_ok, Sem.run_pure]
        · cases he
      · cases he
    · -- shared
      simp only [Option.map_eq_some_iff] at he
      obtain ⟨v, hp, rfl⟩ := he
      obtain ⟨g1, h1⟩ := h.share k
      obtain ⟨y, f1, f2, f3⟩ := pop1_sound h1 hp
      exact ⟨_, y, w, g1, f3 w rfl, .inl rfl, by rw [hd]; exact put_dst h1 f1 f2⟩
  · rename_i d b j hd hx
    have hv := (ev_sound h hx).1
    split at he
    · rename_i sz l hh hcell _
      split at he
      · rename_i n sz' hn hT
        split at he
        · rename_i hc
          simp only [Option.some.injEq] at he; subst he
          obtain ⟨kn, en⟩ := intOf?_eq h hn
          generalize hz : a.eval x = z at hv
          cases hv
          have hlen : n.toNat ≤ l.length := by omega
          have hrk := h.crows b j _ _ hcell (by simp)
          obtain ⟨ad, len, cap, e1, e2, e3, e4, e5, e6⟩ := hrk.take hlen
          have hlen' : len = l.length := by
            obtain ⟨_, _, _, hown, _⟩ := hrk
            rcases hown.2 with ⟨q1, q2⟩ | ⟨m, c2, cur, q1, _⟩
            · rw [e1] at q1; simp only [Value.slice.injEq] at q1; rw [q1.2.1]; exact q2.symm
            · rw [e1] at q1; simp only [Value.slice.injEq] at q1; exact q1.2.1
          have hlv : live st g (.cel b j) = (g.χ b j).ownBlock := live_cel hcell
          have hlenb : (st.deadC b j).b.length = st.b.length := setCell_len _ _ _ _
          have hlv2 : ∀ X m, live (st.deadC b j) g X = some m → live st g X = some m ∧ X ≠ .cel b j := by
            intro X m hX
            cases X with
            | row k => exact ⟨hX, by simp⟩
            | box b' => simp only [live, hlenb] at hX ⊢; exact ⟨hX, by simp⟩
            | lp i => exact ⟨hX, by simp⟩
            | cel b' j' =>
              have hX' : live (st.setC b j .dead) g (.cel b' j') = some m := hX
              simp only [live, cellAt_setC] at hX' ⊢
              by_cases e : b' = b ∧ j' = j
              · simp [e, hcell] at hX'
              · simp only [e, if_false] at hX'; exact ⟨hX', by simpa using e⟩
          have h3k : Rel C E { st with s := only (fun _ v => !v.hasCel b j) st.s } a w g := h.killC b j
          have hcs : ∃ cs0, st.b[b]? = some cs0 := ⟨st.b[b]'(cellAt_lt hcell), by simp⟩
          have h3 : Rel C E (st.deadC b j) a w g := by
            refine Rel.recell (st := { st with s := only (fun _ v => !v.hasCel b j) st.s }) h3k (b := b) (j := j) (old := .ow sz l) hcell (by simp) (fun y hy => ?_)
            obtain ⟨cs0, hcs⟩ := hcs
            obtain ⟨c', T', q1, q2, q3⟩ := h.boxes b cs0 hcs (by simp)
            have hcj : cs0[j]? = some (.ow sz l) := by simpa [ASt.cellAt, hcs] using hcell
            rw [cell_at q1] at hy
            have hq := q3 j _ y hcj hy
            simp only [CellV] at hq
            exact ⟨.dead, rfl, by rw [hq, e1]; rfl, by simp [AV.mb]⟩
          have h4 : Rel C E ((st.deadC b j).kill d) a w g := h3.kill d
          have h5 := RelX.newRow (st := (st.deadC b j).kill d) (k := d) h4 (.inl rfl) (fun t u ht => kill_no ht) e5 (fun m hm => by
            rw [e6] at hm
            have hlm : live st g (.cel b j) = some m := by rw [hlv]; exact hm
            obtain ⟨q1, q2, _⟩ := h.mine _ m hlm
            exact ⟨q1, q2, fun Y _ hY => (hlv2 Y m (live_kill hY).1).2 (h.disj _ _ m (hlv2 Y m (live_kill hY).1).1 hlm)⟩)
          have hnl : n ≤ (len : Int) := by omega
          have hlc : len ≤ cap := by rw [hlen']; exact e2
          refine ⟨_, _, w, _, ?_, .inl rfl, by rw [hd]; exact put_own h5⟩
          unfold execOp; simp only [ho, hz, e1, Option.map_none, Option.map_some, en]
          simp only [Sem.run_bind, sliceTo_run (cap := cap) hT hc.1 hnl hlc, Result.andThen_ok, Sem.run_pure]
        · cases he
      · cases he
    · simp only [Option.map_eq_some_iff] at he
      obtain ⟨v, hp, rfl⟩ := he
      obtain ⟨g1, h1, _⟩ := h.shareC b j
      obtain ⟨y, f1, f2, f3⟩ := pop1_sound h1 hp
      exact ⟨_, y, w, g1, f3 w rfl, .inl rfl, by rw [hd]; exact put_dst h1 f1 f2⟩
  · cases he

theorem convert_sound (h : Rel C E st a w g) {o : Oper} {S D : TypeId} {x : Operand} (ho : o.op = .convert S D x) {st' : ASt} (he : eop C pol st o = some st') : StepOk C E a w o st' := by
  unfold eop at he
  simp only [ho] at he
  split at he
  · rename_i d e s hd hS hD hx
    split at he
    · rename_i hu8
      simp only [Option.some.injEq] at he; subst he
      have hxv := evV_eq h hx
      have hcap := grownCap_ge w s.size 0 e
      let cells : Array Value := (s.data.map fun b => Value.int .u8 b.toNat) ++ Array.replicate (grownCap w s.size 0 e - s.size) (.int .u8 0)
      have hsize : cells.size = grownCap w s.size 0 e := by
        simp only [cells, Array.size_append, Array.size_map, Array.size_replicate]
        have : s.data.size = s.size := rfl
        omega
      let w1 : World := (w.drew.alloc (.cells cells e)).freeze ⟨w.heap.size, cells.size, none⟩ 1
      have hheap : w1.heap[w.heap.size]? = some (.cells cells e (cells.size, cells.size + 1)) := by
        have h0 : (w.drew.alloc (.cells cells e)).heap[w.heap.size]? = some (.cells cells e (0, 0)) := heap_alloc_new w.drew _
        simp only [w1, World.freeze, Nat.one_ne_zero, if_false, Array.getElem?_modify, if_true, h0]; rfl
      have hother : ∀ m, m < w.heap.size → w1.heap[m]? = w.heap[m]? := fun m hm => by
        simp only [w1, World.freeze, Nat.one_ne_zero, if_false, Array.getElem?_modify]
        rw [if_neg (by omega)]; exact heap_alloc_old w.drew _ m hm
      have hsz1 : w1.heap.size = w.heap.size + 1 := by
        simp only [w1, World.freeze, Nat.one_ne_zero, if_false, Array.size_modify]; simp
      have hg : w.grownBy w1 none := ⟨rfl, rfl, rfl, by omega, fun k hk _ => hother k hk⟩
      have h1 := h.freshSh hg (by omega)
      have hrun : (execOp a.eval o).run C.P w = .ok (.value (.slice (some ⟨w.heap.size, 0, none⟩) s.size (grownCap w s.size 0 e))) w1 := by
        unfold execOp; simp only [ho, hxv]
        simp only [convert, Sem.run_bind, run_underlying hS, run_underlying hD, run_underlying hu8, Result.andThen_ok, Conv.stringToBytes, run_choose, Question.forced, Bool.false_eq_true, if_false]
        simp only [newRow, Sem.run_bind, run_newObj, Result.andThen_ok, Sem.run_pure, markStringish, run_shape]
        have hsh : ((w.drew.alloc (.cells cells e)).shape? w.heap.size) = some (e, cells.size) := by
          have h0 : (w.drew.alloc (.cells cells e)).heap[w.heap.size]? = some (.cells cells e (0, 0)) := heap_alloc_new w.drew _
          unfold World.shape?; rw [h0]
        have hd' : ({ w with drawn := w.drawn + 1 } : World) = w.drew := rfl
        have hd' : ∀ x : Obj, ({ heap := w.heap.push x, tape := w.tape, drawn := w.drawn + 1, os := w.os, output := w.output } : World) = w.drew.alloc x := fun _ => rfl
        have hcells : (Array.map (fun b => Value.int IntKind.u8 ↑b.toNat) s.data ++ Array.replicate ((Question.appendCap s.size 0 e).cut (w.tape w.drawn (Question.appendCap s.size 0 e)) - s.size) (Value.int IntKind.u8 0)) = cells := rfl
        simp only [hd', hcells, hsh]
        rfl
      refine ⟨_, _, w1, { N := fun m => g.N m ∨ m = w.heap.size, β := g.β, κ := g.κ, χ := g.χ }, hrun, .inl rfl, ?_⟩
      rw [hd]; refine put_dst h1 (.sl ?_) (by simp [AV.mb])
      have hl : (s.data.toList.map fun b => AV.sc (.int .u8 b.toNat)).length = s.size := by
        rw [List.length_map, Array.length_toList]; rfl
      rw [← hl]
      refine .sl 1 _ w.heap.size 0 _ cells e (cells.size, cells.size + 1) (.inr rfl) hheap (fun b hb => ?_) (by rw [hl, hsize]; omega) (by rw [hl]; omega) (fun k b y hb hy => ?_)
      · obtain ⟨c, _, rfl⟩ := List.mem_map.1 hb; rfl
      · have hflat : (s.data.toList.map fun b => AV.sc (.int .u8 b.toNat)).flatMap AV.cells = s.data.toList.map fun b => AV.sc (.int .u8 b.toNat) := by
          generalize s.data.toList = bs
          induction bs with
          | nil => rfl
          | cons b bs ih => simp only [List.map_cons, List.flatMap_cons, ih]; rfl
        rw [hflat, List.getElem?_map, Option.map_eq_some_iff] at hb
        obtain ⟨c, hc, rfl⟩ := hb
        rw [Nat.zero_add] at hy
        have hk : k < s.data.size := by
          rcases Nat.lt_or_ge k s.data.size with h | h
          · exact h
          · rw [List.getElem?_eq_none (by simpa using h)] at hc; cases hc
        simp only [cells] at hy
        rw [Array.getElem?_append_left (by simpa using hk), Array.getElem?_map] at hy
        rw [Array.getElem?_toList] at hc
        rw [hc] at hy
        simp only [Option.map_some, Option.some.injEq] at hy
        subst hy; exact .sc _ rfl
    · cases he
  · cases he

theorem buildL_sound (h : Rel C E st a w g) {place : Nat → Option (Nat × Nat)} : ∀ {ps : List (Nat × Operand)} {cs cs' : List AV} {us : Array Value}, us.size = cs.length → (∀ (i : Nat) (b : AV) (y : Value), cs[i]? = some b → us[i]? = some y → Rv w g b y ∧ b.mb ≤ st.b.length) → buildL C st place ps cs = some cs' →
    ∃ us', Instr.fill place us (ps.map fun p => (p.1, a.eval p.2)) = some us' ∧ us'.size = cs'.length ∧ ∀ (i : Nat) (b : AV) (y : Value), cs'[i]? = some b → us'[i]? = some y → Rv w g b y ∧ b.mb ≤ st.b.length
  | [], cs, cs', us, hl, hr, hb => by simp only [buildL, Option.some.injEq] at hb; subst hb; exact ⟨us, rfl, hl, hr⟩
  | (i, x) :: ps, cs, cs', us, hl, hr, hb => by
    unfold buildL at hb
    split at hb
    · rename_i off n v hf hx
      split at hb
      · rename_i vs hvs
        split at hb
        · rename_i hc
          obtain ⟨hn, hle⟩ := hc
          obtain ⟨e1, e2⟩ := ev_sound h hx
          obtain ⟨f1, f2⟩ := leaves_sound h hvs e1 e2
          have hsz : (a.eval x).cells.size = n := by omega
          have hfold := foldl_set (a.eval x).cells.toList 0 us off (by simp [hsz]; omega)
          have hl2 : (((a.eval x).cells.zipIdx).foldl (fun cs (p : Value × Nat) => cs.setIfInBounds (off + p.2) p.1) us).toList = us.toList.take off ++ (a.eval x).cells.toList ++ us.toList.drop (off + n) := by
            rw [← Array.foldl_toList, Array.toList_zipIdx]
            simpa [hsz] using hfold
          generalize hus : ((a.eval x).cells.zipIdx).foldl (fun cs (p : Value × Nat) => cs.setIfInBounds (off + p.2) p.1) us = us1 at hl2
          have hsplice : (splice cs off vs).length = cs.length := by
            simp only [splice, List.length_append, List.length_take, List.length_drop]; omega
          have hus1 : us1.size = (splice cs off vs).length := by
            rw [hsplice, ← Array.length_toList, hl2]
            simp only [List.length_append, List.length_take, List.length_drop, Array.length_toList, hsz]; omega
          obtain ⟨us', r1, r2, r3⟩ := buildL_sound h (ps := ps) (us := us1) hus1 (fun j u y hu hy => by
            rw [← Array.getElem?_toList, hl2] at hy
            simp only [splice] at hu
            rcases Nat.lt_or_ge j off with h1 | h1
            · rw [List.append_assoc, List.getElem?_append_left (by rw [List.length_take]; omega), List.getElem?_take_of_lt h1] at hu
              rw [List.append_assoc, List.getElem?_append_left (by rw [List.length_take, Array.length_toList]; omega), List.getElem?_take_of_lt h1, Array.getElem?_toList] at hy
              exact hr j u y hu hy
            · rcases Nat.lt_or_ge j (off + n) with h2 | h2
              · rw [List.append_assoc, List.getElem?_append_right (by rw [List.length_take]; omega), List.getElem?_append_left (by rw [List.length_take]; omega), List.length_take, Nat.min_eq_left (by omega)] at hu
                rw [List.append_assoc, List.getElem?_append_right (by rw [List.length_take, Array.length_toList]; omega), List.getElem?_append_left (by rw [List.length_take, Array.length_toList, Array.length_toList, hsz]; omega), List.length_take, Array.length_toList, Nat.min_eq_left (by omega), Array.getElem?_toList] at hy
                obtain ⟨d1, _, d3⟩ := f2 _ u y hu hy
                exact ⟨d1, d3⟩
              · rw [List.getElem?_append_right (by rw [List.length_append, List.length_take]; omega), List.length_append, List.length_take, Nat.min_eq_left (by omega), List.getElem?_drop] at hu
                rw [List.getElem?_append_right (by rw [List.length_append, List.length_take, Array.length_toList, Array.length_toList, hsz]; omega), List.length_append, List.length_take, Array.length_toList, Array.length_toList, hsz, Nat.min_eq_left (by omega), List.getElem?_drop, Array.getElem?_toList] at hy
                have ej : off + vs.length + (j - (off + vs.length)) = j := by omega
                have ej' : off + n + (j - (off + n)) = j := by omega
                rw [ej] at hu; rw [ej'] at hy
                exact hr j u y hu hy) hb
          refine ⟨us', ?_, r2, r3⟩
          rw [List.map_cons]
          unfold Instr.fill
          simp only [hf]
          have hcond : (decide ((a.eval x).cells.size ≠ n) || decide (off + (a.eval x).cells.size > us.size)) = false := by
            simp only [hsz, ne_eq, not_true_eq_false, decide_false, Bool.false_or, decide_eq_false_iff_not]; omega
          simp only [hcond, Bool.false_eq_true, if_false]
          rw [hus]; exact r1
        · cases hb
      · cases hb
    · cases hb

theorem build_sound (h : Rel C E st a w g) {o : Oper} {T : TypeId} {ps : Array (Nat × Operand)} (ho : o.op = .build T ps) {st' : ASt} (he : eop C pol st o = some st') : StepOk C E a w o st' := by
  unfold eop at he
  simp only [ho] at he
  split at he
  · rename_i d pl k z hd hz
    simp only [Option.map_eq_some_iff] at he
    obtain ⟨cs, hb, rfl⟩ := he
    have hz0 : ∃ it, C.P.info? T = some it ∧ it.zero = some z := by
      unfold buildTab at hz
      split at hz
      · rename_i hz'
        simp only [Option.map_eq_some_iff] at hz
        obtain ⟨_, _, hz⟩ := hz
        simp only [Prod.mk.injEq] at hz
        obtain ⟨_, _, rfl⟩ := hz
        exact Option.bind_eq_some_iff.1 hz'
      · rename_i hz'
        split at hz
        · split at hz
          · simp only [Option.some.injEq, Prod.mk.injEq] at hz
            obtain ⟨_, _, rfl⟩ := hz
            exact Option.bind_eq_some_iff.1 hz'
          · cases hz
        · cases hz
      · cases hz
    obtain ⟨it, hi, hiz⟩ := hz0
    obtain ⟨us', q1, q2, q3⟩ := buildL_sound h (us := z.cells) (by simp) (fun i b y hb hy => by
      rw [List.getElem?_map, Option.map_eq_some_iff] at hb
      obtain ⟨c, hc, rfl⟩ := hb
      rw [Array.getElem?_toList, hy] at hc
      simp only [Option.some.injEq] at hc; subst hc
      exact ⟨ofLeaf_rv _ _ _, by simp [ofLeaf_mb]⟩) hb
    have hbt : C.P.built T (ps.toList.map fun p => (p.1, a.eval p.2)) = some us' := by
      unfold buildTab at hz
      unfold Program.built
      split at hz
      · rename_i fs z' hu hz'
        simp only [Option.map_eq_some_iff] at hz
        obtain ⟨pls, hpl, hz⟩ := hz
        simp only [Prod.mk.injEq] at hz
        obtain ⟨rfl, rfl, rfl⟩ := hz
        have e : (fun i : Nat => (pls.toArray)[i]?) = placeF pls 0 := by funext i; simp [placeF]
        simp only [hi, hu, hiz, hpl, e]; exact q1
      · rename_i n e z' hu hz'
        split at hz
        · rename_i i he
          split at hz
          · rename_i hpos
            simp only [Option.some.injEq, Prod.mk.injEq] at hz
            obtain ⟨rfl, rfl, rfl⟩ := hz
            have e2 : (fun j : Nat => some (j * i.size, i.size)) = placeF [] i.size := by funext j; simp [placeF]; omega
            simp only [hi, hu, hiz, he, e2]; exact q1
          · cases hz
        · cases hz
      · cases hz
    refine ⟨_, .agg us', w, g, ?_, .inl rfl, ?_⟩
    · unfold execOp; simp only [ho]
      have e3 : (ps.map fun (x : Nat × Operand) => (x.1, a.eval x.2)).toList = ps.toList.map fun p => (p.1, a.eval p.2) := by simp
      simp only [Sem.run_bind, run_build w T _ us' (by rw [e3]; exact hbt), Result.andThen_ok, Sem.run_pure]
    · rw [hd]; refine put_dst h (.agg q2.symm (fun i b y hb hy => (q3 i b y hb hy).1)) (mbL_le fun b hb => ?_)
      obtain ⟨i, hi', rfl⟩ := List.getElem_of_mem hb
      exact (q3 i _ (us'[i]'(by omega)) (by simp) (by simp)).2
  · cases he
end
end Go.Ab
end
section
/- The abstract layer, part S: steps joined; codes over abstract states. -/
namespace Go.Ab
open Go.RowKit

section
variable {C : Env} {E : Entry} {st : ASt} {a : Act} {w w' : World} {g : Gh} {pol : Pol}

theorem eop_sound (h : Rel C E st a w g) {o : Oper} {st' : ASt} (he : eop C pol st o = some st') : StepOk C E a w o st' := by
  have he0 := he
  unfold eop at he
  split at he
  · rename_i x ho; exact assign_sound h ho he0
  · rename_i T ho; exact alloc_sound h ho he0
  · rename_i T x ho; exact box_sound h ho he0
  · rename_i T ps ho; exact build_sound h ho he0
  · rename_i T n ps ho; exact buildSlice_sound h ho he0
  · rename_i T l c ho; exact makeSlice_sound h ho he0
  · rename_i T p x ho; exact store_sound h ho he0
  · rename_i T x lo hi mx ho; exact slice_own_sound h ho he0
  · rename_i S D x ho; exact convert_sound h ho he0
  · rename_i args ats ho; exact append_sound h ho he0
  · cases he

theorem pop_step (h : Rel C E st a w g) {o : Oper} {v : AV} (hp : pop C st o = some v) : StepOk C E a w o (st.putO o.dst v) := by
  obtain ⟨x, h1, h2, h3⟩ := pop_sound h hp
  exact ⟨_, x, w, g, h3 w rfl, .inl rfl, RelX.put h o.dst h1 h2⟩
end

/-- Where a code stands: in which round of a loop over a function, and what may be taken for granted of the entry. -/
structure Lv where
  r : Option Nat
  ok : Entry → Prop
def fen (l : Lv) : Fence := { Fence.wide with round := l.r }

def lift (C : Env) (E : Entry) (Q : Exit → ASt → Prop) (e : Exit) (a : Act) (w : World) : Prop := ∃ st g, Q e st ∧ Rel C E st a w g
def liftK (C : Env) (E : Entry) (K : ASt → Prop) (a : Act) (w : World) : Prop := ∃ st g, K st ∧ Rel C E st a w g

/-- The code, from any frame that the state describes. -/
def AWp (C : Env) (l : Lv) (c : Code) (Q : Exit → ASt → Prop) (st : ASt) : Prop :=
  ∀ E a w g, l.ok E → Rel C E st a w g → c.wpIn (fen l) 0 C.P (lift C E Q) a w

def AThen (K : ASt → Prop) (Q : Exit → ASt → Prop) : Exit → ASt → Prop
  | .normal, st => K st
  | e, st => Q e st
def ABlock (id : Nat) (Q : Exit → ASt → Prop) : Exit → ASt → Prop
  | .exit id', st => if id' = id then Q .normal st else Q (.exit id') st
  | e, st => Q e st

theorem lift_then {C : Env} {E : Entry} {K : ASt → Prop} {Q : Exit → ASt → Prop} : lift C E (AThen K Q) = Exit.then (liftK C E K) (lift C E Q) := by
  funext e a w; cases e <;> rfl
theorem lift_block {C : Env} {E : Entry} {id : Nat} {Q : Exit → ASt → Prop} : lift C E (ABlock id Q) = Exit.inBlock id (lift C E Q) := by
  funext e a w
  cases e with
  | exit id' =>
    simp only [lift, ABlock, Exit.inBlock]
    split <;> rfl
  | _ => rfl

section
variable {C : Env} {l : Lv} {Q Q' : Exit → ASt → Prop} {st : ASt}

theorem AWp.mono {c : Code} (h : AWp C l c Q st) (hq : ∀ e st, Q e st → Q' e st) : AWp C l c Q' st :=
  fun E a w g hE hr => wpIn_mono (h E a w g hE hr) fun e _ _ ⟨st, g, h1, h2⟩ => ⟨st, g, hq e st h1, h2⟩

theorem AWp.seq {x y : Code} (h : AWp C l x (AThen (AWp C l y Q) Q) st) : AWp C l (.seq x y) Q st := fun E a w g hE hr =>
  wpIn_seq (wpIn_mono (h E a w g hE hr) fun e a w hh => by
    rw [lift_then] at hh
    cases e with
    | normal => obtain ⟨st, g, h1, h2⟩ := hh; exact h1 E a w g hE h2
    | _ => exact hh)
theorem AWp.block {id : Nat} {c : Code} (h : AWp C l c (ABlock id Q) st) : AWp C l (.block id c) Q st := fun E a w g hE hr =>
  wpIn_block (by rw [← lift_block]; exact h E a w g hE hr)
theorem AWp.cond {c : Operand} {x y : Code} {b : Bool} (hc : st.ev C c = some (.sc (.bool b))) (ht : b = true → AWp C l x Q st) (hf : b = false → AWp C l y Q st) : AWp C l (.cond c x y) Q st := fun E a w g hE hr => by
  have hv : a.eval c = .bool b := by
    have := (ev_sound hr hc).1
    generalize a.eval c = z at this
    cases this; rfl
  exact wpIn_cond_split hv (fun e => ht e E a w g hE hr) (fun e => hf e E a w g hE hr)

/-- What a guard asks for. -/
def guardA (ops : Array Oper) (st : ASt) (o : Oper) : Option Bool := match o.guard with
  | none => some true
  | some (j, want) => match (ops[j]?).bind (·.dst) with
    | some d => match get st.s d with
      | some (.sc (.bool b)) => some (b == want)
      | some (.sc (.tuple _)) => some false
      | _ => none
    | none => none

theorem guardA_sound {E : Entry} {a : Act} {w : World} {g : Gh} (h : Rel C E st a w g) {ops : Array Oper} {o : Oper} {b : Bool} (hg : guardA ops st o = some b) : Region.wanted o (yielded ops a.tmps) = b := by
  unfold guardA at hg
  unfold Region.wanted
  split at hg
  · rename_i hgn; simp only [Option.some.injEq] at hg; subst hg; rw [hgn]
  · rename_i j want hgn
    rw [hgn]
    split at hg
    · rename_i d hd
      simp only [yielded, hd, Option.bind_some]
      split at hg
      · rename_i b' hs
        obtain ⟨x, h1, h2⟩ := h.slots d _ hs
        cases h2
        simp only [Option.some.injEq] at hg; subst hg
        rw [h1]; cases b' <;> cases want <;> rfl
      · rename_i vs hs
        obtain ⟨x, h1, h2⟩ := h.slots d _ hs
        cases h2
        simp only [Option.some.injEq] at hg; subst hg
        rw [h1]; rfl
      · cases hg
    · cases hg

/-- One operation from a state, then K. -/
def AOp (C : Env) (l : Lv) (o : Oper) (K : ASt → Prop) (Q : Exit → ASt → Prop) (st : ASt) : Prop :=
  ∀ E a w g, l.ok E → Rel C E st a w g → o.wpIn (fen l) 0 C.P a w (liftK C E K) (lift C E Q)

def AOps (C : Env) (l : Lv) (ops : Array Oper) (Q : Exit → ASt → Prop) (is : List Nat) (st : ASt) : Prop :=
  ∀ E a w g, l.ok E → Rel C E st a w g → wpOpsIn (fen l) 0 C.P ops (lift C E Q) is a w

theorem AOps.region {id : Nat} {ops : Array Oper} (h : AOps C l ops Q (List.range ops.size) st) : AWp C l (.region id ops false) Q st :=
  fun E a w g hE hr => wpIn_region (h E a w g hE hr)
theorem AOps.nil {ops : Array Oper} (h : Q .normal st) : AOps C l ops Q [] st := fun _ _ _ g _ hr => ⟨st, g, h, hr⟩

theorem upon_mono {F : Fence} {n : Nat} {P : Program} {o : Oper} {a : Act} {K K' : Act → World → Prop} {Q : Exit → Act → World → Prop} {r : Result Next} (hK : ∀ a w, K a w → K' a w)
    (h : o.uponIn F n P a K Q r) : o.uponIn F n P a K' Q r := by
  unfold Oper.uponIn at *
  split at h
  · exact hK _ _ h
  · exact hK _ _ h
  · exact hK _ _ h
  · exact ⟨h.1, h.2.mono fun e w' he => by cases e <;> first | exact hK _ _ he | exact he⟩
  · exact ⟨h.1, h.2.mono fun v w' he => hK _ _ he⟩
  · exact ⟨h.1, h.2.mono fun e w' he => by cases e <;> first | exact hK _ _ he | exact he⟩
  · exact h
  · exact h

theorem AOps.cons {ops : Array Oper} {i : Nat} {is : List Nat} {o : Oper} {b : Bool} (ho : ops[i]? = some o) (hg : guardA ops st o = some b)
    (ht : b = true → AOp C l o (AOps C l ops Q is) Q st) (hf : b = false → AOps C l ops Q is (st.putO o.dst (.sc undef))) : AOps C l ops Q (i :: is) st := fun E a w g hE hr => by
  unfold wpOpsIn
  rw [ho]
  simp only
  rw [guardA_sound hr hg]
  cases b with
  | true =>
    obtain ⟨h1, h2⟩ := ht rfl E a w g hE hr
    exact ⟨h1, upon_mono (fun a w ⟨st, g, q1, q2⟩ => q1 E a w g hE q2) h2⟩
  | false => exact ⟨fun _ _ => trivial, hf rfl E _ w g hE (RelX.put hr o.dst (.sc undef) (by simp [AV.mb]))⟩

theorem AOp.step {o : Oper} {K : ASt → Prop} {st' : ASt} (h : ∀ E a w g, Rel C E st a w g → StepOk C E a w o st') (hk : K st') : AOp C l o K Q st := fun E a w g _ hr => by
  obtain ⟨n, y, w', g', h1, h2, h3⟩ := h E a w g hr
  have hy : o.semAt (fen l).round a.eval = execOp a.eval o := by
    refine Oper.semAt_eq _ _ _ fun c hc => ?_
    unfold execOp at h1
    simp only [hc, Sem.run_bind] at h1
    cases hres : (resolve a.eval c o.type).run C.P w with
    | ok d w2 =>
      simp only [hres, Result.andThen_ok, Sem.run_pure, Result.ok.injEq] at h1
      rcases h2 with rfl | ⟨rfl, _⟩ <;> simp at h1
    | halt r w2 => rw [hres] at h1; cases h1
  refine ⟨fun _ _ => trivial, ?_⟩
  rw [hy, h1]
  rcases h2 with rfl | ⟨rfl, rfl⟩
  · exact ⟨st', g', hk, h3⟩
  · exact ⟨st', g', hk, h3⟩
theorem AOp.pop {o : Oper} {K : ASt → Prop} {v : AV} (hp : Ab.pop C st o = some v) (hk : K (st.putO o.dst v)) : AOp C l o K Q st := .step (fun _ _ _ _ hr => pop_step hr hp) hk
theorem AOp.eop {pol : Pol} {o : Oper} {K : ASt → Prop} {st' : ASt} (he : Ab.eop C pol st o = some st') (hk : K st') : AOp C l o K Q st := .step (fun _ _ _ _ hr => eop_sound hr he) hk
theorem AOp.mono {o : Oper} {K K' : ASt → Prop} (h : AOp C l o K Q st) (hk : ∀ st, K st → K' st) : AOp C l o K' Q st := fun E a w g hE hr =>
  let ⟨h1, h2⟩ := h E a w g hE hr; ⟨h1, upon_mono (fun _ _ ⟨st, g, q1, q2⟩ => ⟨st, g, hk st q1, q2⟩) h2⟩
end

section
variable {C : Env} {l : Lv}
/-- A state that says less. -/
structure ASt.Le (st' st : ASt) : Prop where
  n : st'.n = st.n
  s : ∀ t v, get st'.s t = some v → get st.s t = some v
  r : ∀ k p, get st'.r k = some p → get st.r k = some p
  b : st'.b = st.b
  l : st'.l = st.l
theorem ASt.Le.rel {st' st : ASt} (h : st'.Le st) {E : Entry} {a : Act} {w : World} {g : Gh} (hr : Rel C E st a w g) : Rel C E st' a w g := by
  have := hr.less st'.s st'.r h.s h.r
  obtain ⟨n, s, r, b, l⟩ := st'
  obtain ⟨h1, h2, h3, h4, h5⟩ := h
  simp only at h1 h4 h5
  subst h1 h4 h5; exact this

theorem least {p : Nat → Prop} (h : ∃ n, p n) : ∃ n, p n ∧ ∀ m, p m → n ≤ m := by
  obtain ⟨n, hn⟩ := h
  induction n using Nat.strongRecOn with
  | _ n ih =>
    by_cases hx : ∃ m, m < n ∧ p m
    · obtain ⟨m, h1, h2⟩ := hx; exact ih m h1 h2
    · exact ⟨n, hn, fun m hm => Nat.le_of_not_lt fun hl => hx ⟨m, hl, hm⟩⟩

theorem AWp.loop {α : Type} {c : Code} {Q : Exit → ASt → Prop} {st : ASt} (S : α → ASt) (p : α → Prop) (μ : α → Nat) (x0 : α) (h0 : p x0) (hs : (S x0).Le st)
    (hr : ∀ x, p x → AWp C l c (AThen (fun st' => ∃ x', p x' ∧ μ x' < μ x ∧ (S x').Le st') Q) (S x)) : AWp C l (.loop c) Q st := fun E a w g hE hrel => by
  -- the measure: the least over the points that fit
  let fits : Act → World → Nat → Prop := fun a w n => ∃ x g, p x ∧ Rel C E (S x) a w g ∧ μ x = n
  have hI : ∀ a w, (∃ n, fits a w n) → ∃ n, fits a w n ∧ ∀ m, fits a w m → n ≤ m := fun a w h => least h
  let m : Act → World → Nat := fun a w => open Classical in if h : ∃ n, fits a w n then Classical.choose (hI a w h) else 0
  have hm : ∀ a w, (∃ n, fits a w n) → fits a w (m a w) ∧ ∀ k, fits a w k → m a w ≤ k := fun a w h => by
    simp only [m, h, dif_pos]; exact Classical.choose_spec (hI a w h)
  refine wpIn_loop (fun a w => ∃ n, fits a w n) m ⟨_, x0, g, h0, hs.rel hrel, rfl⟩ fun a w hf => ?_
  obtain ⟨⟨x, g, hp, hx, hmx⟩, hmin⟩ := hm a w hf
  refine wpIn_mono (hr x hp E a w g hE hx) fun e a' w' hh => ?_
  obtain ⟨st', g', q1, q2⟩ := hh
  cases e with
  | normal =>
    obtain ⟨x', hp', hlt, hle⟩ := q1
    have hf' : fits a' w' (μ x') := ⟨x', g', hp', hle.rel q2, rfl⟩
    refine ⟨⟨_, hf'⟩, ?_⟩
    have := (hm a' w' ⟨_, hf'⟩).2 _ hf'
    omega
  | exit id => exact ⟨st', g', q1, q2⟩
  | goto l => exact ⟨st', g', q1, q2⟩
  | ret => exact ⟨st', g', q1, q2⟩
  | panic ch => exact ⟨st', g', q1, q2⟩
  | outgrown => exact ⟨st', g', q1, q2⟩
end
end Go.Ab
end
section
/- The abstract layer, part T: calls: what a function is called with, and what comes back. -/
namespace Go.Ab
open Go.RowKit

mutual
/-- The rows of a function that has ended, under the caller's keys. -/
def shiftA (n : Nat) : AV → AV
  | .own k => .own (n + k)
  | .ep k i sz o => .ep (n + k) i sz o
  | .agg cs => .agg (shiftL n cs)
  | .tup vs => .tup (shiftL n vs)
  | .fn f x c => .fn f (shiftL n x) (shiftL n c)
  | v => v
def shiftL (n : Nat) : List AV → List AV
  | [] => []
  | a :: l => shiftA n a :: shiftL n l
end
theorem shiftL_map (n : Nat) : ∀ l, shiftL n l = l.map (shiftA n)
  | [] => rfl
  | a :: l => by simp [shiftL, shiftL_map n l]

theorem Rv.shift {w : World} {g g' : Gh} {n : Nat} {a : AV} {v : Value} (h : Rv w g a v) (hN : ∀ m, g.N m → g'.N m)
    (hk : ∀ k, a.hasOwn k = true → g'.κ (n + k) = g.κ k) (hc : ∀ b j, a.hasCel b j = true → g'.χ b j = g.χ b j) (hb : ∀ b, b < a.mb → g'.β b = g.β b) : Rv w g' (shiftA n a) v := by
  induction h with
  | sc v => exact .sc v
  | nil => exact .nil
  | sl h => exact .sl (h.mono fun m hm => ⟨hN m hm, rfl⟩)
  | slx h => exact .slx (h.mono fun m hm => ⟨hN m hm, rfl⟩)
  | agg hl _ ih =>
    simp only [shiftA, shiftL_map]
    refine .agg (by simpa using hl) fun i a v hi hv => ?_
    rw [List.getElem?_map, Option.map_eq_some_iff] at hi
    obtain ⟨a', hi, rfl⟩ := hi
    exact ih i a' v hi hv (fun k' hh => hk k' (by simp only [AV.hasOwn]; exact hasOwnL_of hi hh)) (fun b j hh => hc b j (by simp only [AV.hasCel]; exact hasCelL_of hi hh)) (fun b h => hb b (by have := mbL_get hi; simp only [AV.mb]; omega))
  | tup hl _ ih =>
    simp only [shiftA, shiftL_map]
    refine .tup (by simpa using hl) fun i a v hi hv => ?_
    rw [List.getElem?_map, Option.map_eq_some_iff] at hi
    obtain ⟨a', hi, rfl⟩ := hi
    exact ih i a' v hi hv (fun k' hh => hk k' (by simp only [AV.hasOwn]; exact hasOwnL_of hi hh)) (fun b j hh => hc b j (by simp only [AV.hasCel]; exact hasCelL_of hi hh)) (fun b h => hb b (by have := mbL_get hi; simp only [AV.mb]; omega))
  | own k' => simp only [shiftA]; rw [← hk k' (by simp [AV.hasOwn])]; exact .own _
  | ocl b j => simp only [shiftA]; rw [← hc b j (by simp [AV.hasCel])]; exact .ocl b j
  | bp b off => simp only [shiftA]; rw [← hb b (by simp [AV.mb])]; exact .bp b off
  | rp hn hh hs hall => exact .rp (hN _ hn) hh hs fun k a v hk' hv => (hall k a v hk' hv).mono fun m hm => ⟨hN m hm, rfl⟩
  | @ep k' i sz off b len cap h => simp only [shiftA]; exact .ep (len := len) (cap := cap) ((hk k' (by simp [AV.hasOwn])).trans h)
  | @ec b j i sz off m len cap h => exact .ec (len := len) (cap := cap) ((hc b j (by simp [AV.hasCel])).trans h)
  | @fn f first cap fs cs h1 h2 _ _ ih1 ih2 =>
    simp only [shiftA, shiftL_map]
    refine .fn (by simpa using h1) (by simpa using h2) (fun i a v hi hv => ?_) (fun i a v hi hv => ?_)
    · rw [List.getElem?_map, Option.map_eq_some_iff] at hi
      obtain ⟨a', hi, rfl⟩ := hi
      exact ih1 i a' v hi hv (fun k' hh => hk k' (by simp only [AV.hasOwn, Bool.or_eq_true]; exact .inl (hasOwnL_of hi hh))) (fun b j hh => hc b j (by simp only [AV.hasCel, Bool.or_eq_true]; exact .inl (hasCelL_of hi hh))) (fun b h => hb b (by have := mbL_get hi; simp only [AV.mb]; omega))
    · rw [List.getElem?_map, Option.map_eq_some_iff] at hi
      obtain ⟨a', hi, rfl⟩ := hi
      exact ih2 i a' v hi hv (fun k' hh => hk k' (by simp only [AV.hasOwn, Bool.or_eq_true]; exact .inr (hasOwnL_of hi hh))) (fun b j hh => hc b j (by simp only [AV.hasCel, Bool.or_eq_true]; exact .inr (hasCelL_of hi hh))) (fun b h => hb b (by have := mbL_get hi; simp only [AV.mb]; omega))
  | dead => exact .dead

mutual
theorem shift_mb (n : Nat) : ∀ (a : AV), (shiftA n a).mb = a.mb
  | .agg cs => by simp only [shiftA, AV.mb]; exact shiftL_mb n cs
  | .tup cs => by simp only [shiftA, AV.mb]; exact shiftL_mb n cs
  | .fn f x c => by simp only [shiftA, AV.mb, shiftL_mb n x, shiftL_mb n c]
  | .sc _ | .nil | .sl _ _ | .slx _ _ | .own _ | .bp _ _ | .rp _ | .dead | .ow _ _ | .ep _ _ _ _ | .ocl _ _ | .ec _ _ _ _ _ => by simp only [shiftA, AV.mb]
theorem shiftL_mb (n : Nat) : ∀ (l : List AV), mbL (shiftL n l) = mbL l
  | [] => rfl
  | a :: l => by simp only [shiftL, mbL, shift_mb n a, shiftL_mb n l]
end

mutual
/-- No word of a row in a box's cell. -/
def AV.noCel : AV → Bool
  | .ocl _ _ | .ec _ _ _ _ _ => false
  | .agg cs => noCelL cs
  | .tup vs => noCelL vs
  | .fn _ f c => noCelL f && noCelL c
  | _ => true
def noCelL : List AV → Bool
  | [] => true
  | a :: l => a.noCel && noCelL l
end
mutual
theorem noCel_hasCel (b j : Nat) : ∀ (a : AV), a.noCel = true → a.hasCel b j = false
  | .sc _, _ | .nil, _ | .sl _ _, _ | .slx _ _, _ | .bp _ _, _ | .rp _, _ | .dead, _ | .own _, _ | .ep _ _ _ _, _ | .ow _ _, _ => rfl
  | .agg cs, h => by simp only [AV.noCel] at h; simp only [AV.hasCel]; exact noCelL_hasCel b j cs h
  | .tup cs, h => by simp only [AV.noCel] at h; simp only [AV.hasCel]; exact noCelL_hasCel b j cs h
  | .fn _ f c, h => by simp only [AV.noCel, Bool.and_eq_true] at h; simp only [AV.hasCel, Bool.or_eq_false_iff]; exact ⟨noCelL_hasCel b j f h.1, noCelL_hasCel b j c h.2⟩
  | .ocl _ _, h | .ec _ _ _ _ _, h => by simp [AV.noCel] at h
theorem noCelL_hasCel (b j : Nat) : ∀ (l : List AV), noCelL l = true → hasCelL b j l = false
  | [], _ => rfl
  | a :: l, h => by simp only [noCelL, Bool.and_eq_true] at h; simp only [hasCelL, Bool.or_eq_false_iff]; exact ⟨noCel_hasCel b j a h.1, noCelL_hasCel b j l h.2⟩
end

/-- How a call ends. -/
inductive AEnd where
  | ret
  | panic (v : Value)

def packV (vs : Array Value) : Value := if h : vs.size = 1 then vs[0] else .tuple vs
def EndIs : AEnd → Ending → Array Value → Prop
  | .ret, .returned v, vals => v = packV vals
  | .panic p, .panicked ch, vals => ch = [{ v := p, recovered := false }] ∧ vals = #[]
  | _, _, _ => False

/-- What a function does, over abstract states: 'st0' holds the arguments in its slots, and what rows and boxes it is given; R speaks of the results, which are slots of a state, too. -/
def goFn (P : Program) (f : FuncId) : Bool := match P.funcs[f]? with
  | some fn => fn.body.isSome && fn.name != "runtime.NumGoroutine"
  | none => false
def ACallP (C : Env) (P : Entry → Prop) (f : FuncId) (st0 : ASt) (R : AEnd → ASt → Prop) : Prop :=
  goFn C.P f = true ∧ ∀ E args w g, P E → Rel C E st0 ⟨args, []⟩ w g → CallsIn Fence.wide 0 C.P f args w fun e w' => ∃ ae vals st1 g1, EndIs ae e vals ∧ R ae st1 ∧ Rel C E st1 ⟨vals, []⟩ w' g1
def ACall (C : Env) (f : FuncId) (st0 : ASt) (R : AEnd → ASt → Prop) : Prop := ACallP C (fun _ => True) f st0 R
theorem ACallP.mono {C : Env} {P : Entry → Prop} {f : FuncId} {st0 : ASt} {R R' : AEnd → ASt → Prop} (h : ACallP C P f st0 R) (hr : ∀ ae st, R ae st → R' ae st) : ACallP C P f st0 R' :=
  ⟨h.1, fun E args w g hp hrel => (h.2 E args w g hp hrel).mono fun _ _ ⟨ae, vals, st1, g1, h1, h2, h3⟩ => ⟨ae, vals, st1, g1, h1, hr _ _ h2, h3⟩⟩
theorem ACall.mono {C : Env} {f : FuncId} {st0 : ASt} {R R' : AEnd → ASt → Prop} (h : ACall C f st0 R) (hr : ∀ ae st, R ae st → R' ae st) : ACall C f st0 R' := ACallP.mono h hr

/-- Returns in just one state. -/
def Ret (st : ASt) (ae : AEnd) (st' : ASt) : Prop := ae = .ret ∧ st' = st

def zipI {α : Type} : Nat → List α → List (Nat × α)
  | _, [] => []
  | i, a :: l => (i, a) :: zipI (i + 1) l
theorem get_zipI {α : Type} : ∀ (l : List α) (i t : Nat), get (zipI i l) t = if i ≤ t then l[t - i]? else none
  | [], i, t => by simp [zipI, get]
  | a :: l, i, t => by
    simp only [zipI, get]
    by_cases h : t = i
    · subst h; simp
    · simp only [h, if_false, get_zipI l (i + 1) t]
      by_cases h1 : i ≤ t
      · rw [if_pos (by omega), if_pos h1]
        have : t - i = (t - (i + 1)) + 1 := by omega
        rw [this, List.getElem?_cons_succ]
      · rw [if_neg (by omega), if_neg h1]

/-- An argument as the function sees it. -/
def argLeaf (hint : Option Nat) : AV → AV
  | .nil => match hint with
    | some sz => .sl sz []
    | none => .nil
  | .slx sz l => .sl sz l
  | v => v
def argLeaves : List (Option Nat) → List AV → List AV
  | _, [] => []
  | hs, v :: vs => argLeaf (hs.headD none) v :: argLeaves hs.tail vs
def argA (hs : List (Option Nat)) : AV → AV
  | .agg cs => .agg (argLeaves hs cs)
  | v => argLeaf (hs.headD none) v

theorem argLeaf_rv {w : World} {g : Gh} {h : Option Nat} {v : AV} {x : Value} (hv : Rv w g v x) : Rv w g (argLeaf h v) x ∧ (argLeaf h v).mb ≤ v.mb := by
  unfold argLeaf
  split
  · cases hv
    split
    · exact ⟨.sl (.nil _ _), by simp [AV.mb]⟩
    · exact ⟨.nil, Nat.le_refl _⟩
  · cases hv; rename_i h; exact ⟨.sl h, by simp [AV.mb]⟩
  · exact ⟨hv, Nat.le_refl _⟩
theorem argLeaves_len : ∀ (hs : List (Option Nat)) (cs : List AV), (argLeaves hs cs).length = cs.length
  | _, [] => rfl
  | hs, v :: vs => by simp [argLeaves, argLeaves_len]
theorem argLeaves_get : ∀ {hs : List (Option Nat)} {cs : List AV} {i : Nat} {u : AV}, (argLeaves hs cs)[i]? = some u → ∃ h v, cs[i]? = some v ∧ u = argLeaf h v
  | _, [], i, u, h => by simp [argLeaves] at h
  | hs, v :: vs, i, u, h => by
    simp only [argLeaves] at h
    cases i with
    | zero => simp at h; exact ⟨_, v, rfl, h.symm⟩
    | succ i => simp at h; simpa using argLeaves_get h
theorem argA_rv {w : World} {g : Gh} {hs : List (Option Nat)} {v : AV} {x : Value} (hv : Rv w g v x) : Rv w g (argA hs v) x ∧ (argA hs v).mb ≤ v.mb := by
  unfold argA
  split
  · rename_i cs
    cases hv
    rename_i vs hl hall
    refine ⟨.agg (by rw [argLeaves_len]; exact hl) fun i u y hu hy => ?_, ?_⟩
    · obtain ⟨h, v, hv, rfl⟩ := argLeaves_get hu
      exact (argLeaf_rv (hall i v y hv hy)).1
    · simp only [AV.mb]
      refine mbL_le fun u hu => ?_
      obtain ⟨i, hi, rfl⟩ := List.getElem_of_mem hu
      obtain ⟨h, v, hv, e⟩ := argLeaves_get (List.getElem?_eq_getElem hi)
      rw [e]
      have hb := mbL_get hv
      have hvlt : i < vs.size := by
        rw [argLeaves_len] at hi; omega
      exact Nat.le_trans (argLeaf_rv (hall i v vs[i] hv (by simp [hvlt]))).2 hb
  · exact argLeaf_rv hv

/-- The arguments, of which some are given away: the function's slots and rows, and the caller's keys that are gone. -/
def moveArgs (st : ASt) (mv : List Nat) : Nat → List AV → Option (List AV × List (Nat × (Nat × List AV)) × List Nat)
  | _, [] => some ([], [], [])
  | i, v :: vs => match moveArgs st mv (i + 1) vs with
    | some (as, rs, ks) => if mv.contains i then match v with
        | .own k => match get st.r k with
          | some p => if ks.contains k then none else some (.own i :: as, (i, p) :: rs, k :: ks)
          | none => none
        | _ => none
      else if v.noRef then some (v :: as, rs, ks) else none
    | none => none

end Go.Ab
end
section
/- The abstract layer, part U: the relation at a call's begin and end. -/
namespace Go.Ab
open Go.RowKit

theorem moveArgs_len {st : ASt} {mv : List Nat} : ∀ {vs : List AV} {i : Nat} {as : List AV} {rs : List (Nat × (Nat × List AV))} {ks : List Nat}, moveArgs st mv i vs = some (as, rs, ks) → as.length = vs.length
  | [], i, as, rs, ks, h => by simp only [moveArgs, Option.some.injEq, Prod.mk.injEq] at h; obtain ⟨rfl, _, _⟩ := h; rfl
  | v :: vs, i, as, rs, ks, h => by
    unfold moveArgs at h
    split at h
    · rename_i as' rs' ks' h'
      have ih := moveArgs_len h'
      split at h
      · split at h
        · split at h
          · split at h
            · cases h
            · simp only [Option.some.injEq, Prod.mk.injEq] at h; obtain ⟨rfl, _, _⟩ := h; simp [ih]
          · cases h
        · cases h
      · split at h
        · simp only [Option.some.injEq, Prod.mk.injEq] at h; obtain ⟨rfl, _, _⟩ := h; simp [ih]
        · cases h
    · cases h

theorem moveArgs_spec {st : ASt} {mv : List Nat} : ∀ {vs : List AV} {i : Nat} {as : List AV} {rs : List (Nat × (Nat × List AV))} {ks : List Nat}, moveArgs st mv i vs = some (as, rs, ks) →
    (∀ (t : Nat) (v' : AV), as[t]? = some v' → (vs[t]? = some v' ∧ v'.noRef = true) ∨ v' = .own (i + t)) ∧
    (∀ (key : Nat) (p : Nat × List AV), get rs key = some p → ∃ k, i ≤ key ∧ vs[key - i]? = some (.own k) ∧ get st.r k = some p ∧ k ∈ ks) ∧
    (∀ (key1 key2 : Nat) (p1 p2 : Nat × List AV) (k : Nat), get rs key1 = some p1 → get rs key2 = some p2 → vs[key1 - i]? = some (.own k) → vs[key2 - i]? = some (.own k) → key1 = key2)
  | [], i, as, rs, ks, h => by
    simp only [moveArgs, Option.some.injEq, Prod.mk.injEq] at h; obtain ⟨rfl, rfl, rfl⟩ := h
    exact ⟨fun t v' h => by simp at h, fun key p h => by simp [get] at h, fun key1 key2 p1 p2 k h => by simp [get] at h⟩
  | v :: vs, i, as, rs, ks, h => by
    unfold moveArgs at h
    split at h
    · rename_i as' rs' ks' h'
      obtain ⟨i1, i2, i3⟩ := moveArgs_spec h'
      have s1 : ∀ t v', (as')[t]? = some v' → ((v :: vs)[t + 1]? = some v' ∧ v'.noRef = true) ∨ v' = .own (i + (t + 1)) := fun t v' ht => by
        rcases i1 t v' ht with h | h
        · exact .inl (by simpa using h)
        · exact .inr (by rw [h]; congr 1; omega)
      have s2 : ∀ key p, get rs' key = some p → ∃ k, i < key ∧ (v :: vs)[key - i]? = some (.own k) ∧ get st.r k = some p ∧ k ∈ ks' := fun key p hk => by
        obtain ⟨k, h1, h2, h3, h4⟩ := i2 key p hk
        refine ⟨k, by omega, ?_, h3, h4⟩
        have : key - i = (key - (i + 1)) + 1 := by omega
        rw [this, List.getElem?_cons_succ]; exact h2
      have s3 : ∀ key1 key2 p1 p2 k, get rs' key1 = some p1 → get rs' key2 = some p2 → (v :: vs)[key1 - i]? = some (.own k) → (v :: vs)[key2 - i]? = some (.own k) → key1 = key2 := fun key1 key2 p1 p2 k h1 h2 h3 h4 => by
        obtain ⟨_, q1, _⟩ := i2 key1 p1 h1
        obtain ⟨_, q2, _⟩ := i2 key2 p2 h2
        have e1 : key1 - i = (key1 - (i + 1)) + 1 := by omega
        have e2 : key2 - i = (key2 - (i + 1)) + 1 := by omega
        rw [e1, List.getElem?_cons_succ] at h3
        rw [e2, List.getElem?_cons_succ] at h4
        exact i3 key1 key2 p1 p2 k h1 h2 h3 h4
      split at h
      · split at h
        · rename_i k
          split at h
          · rename_i p hp
            split at h
            · cases h
            · rename_i hnot
              simp only [Option.some.injEq, Prod.mk.injEq] at h; obtain ⟨rfl, rfl, rfl⟩ := h
              have hnot' : k ∉ ks' := by simpa using hnot
              refine ⟨fun t v' ht => ?_, fun key p' hk => ?_, fun key1 key2 p1 p2 k1 h1 h2 h3 h4 => ?_⟩
              · cases t with
                | zero => simp at ht; exact .inr (by rw [← ht]; rfl)
                | succ t => exact s1 t v' (by simpa using ht)
              · simp only [get] at hk
                by_cases e : key = i
                · subst e; simp only [if_true, Option.some.injEq] at hk; subst hk
                  exact ⟨k, Nat.le_refl _, by simp, hp, List.mem_cons_self⟩
                · simp only [e, if_false] at hk
                  obtain ⟨k', q1, q2, q3, q4⟩ := s2 key p' hk
                  exact ⟨k', by omega, q2, q3, List.mem_cons_of_mem _ q4⟩
              · simp only [get] at h1 h2
                by_cases e1 : key1 = i
                · subst e1
                  by_cases e2 : key2 = key1
                  · exact e2.symm
                  · simp only [e2, if_false] at h2
                    obtain ⟨k', q1, q2, q3, q4⟩ := s2 key2 p2 h2
                    rw [h4] at q2; simp only [Option.some.injEq, AV.own.injEq] at q2; subst q2
                    simp only [Nat.sub_self, List.getElem?_cons_zero, Option.some.injEq, AV.own.injEq] at h3; subst h3
                    exact absurd q4 hnot'
                · simp only [e1, if_false] at h1
                  by_cases e2 : key2 = i
                  · subst e2
                    obtain ⟨k', q1, q2, q3, q4⟩ := s2 key1 p1 h1
                    rw [h3] at q2; simp only [Option.some.injEq, AV.own.injEq] at q2; subst q2
                    simp only [Nat.sub_self, List.getElem?_cons_zero, Option.some.injEq, AV.own.injEq] at h4; subst h4
                    exact absurd q4 hnot'
                  · simp only [e2, if_false] at h2
                    exact s3 key1 key2 p1 p2 k1 h1 h2 h3 h4
          · cases h
        · cases h
      · split at h
        · rename_i hno
          simp only [Option.some.injEq, Prod.mk.injEq] at h; obtain ⟨rfl, rfl, rfl⟩ := h
          refine ⟨fun t v' ht => ?_, fun key p hk => ?_, s3⟩
          · cases t with
            | zero => simp at ht; subst ht; exact .inl ⟨rfl, hno⟩
            | succ t => exact s1 t v' (by simpa using ht)
          · obtain ⟨k, q1, q2⟩ := s2 key p hk
            exact ⟨k, by omega, q2⟩
        · cases h
    · cases h

def calleeSt (st : ASt) (as : List AV) (rs : List (Nat × (Nat × List AV))) (pass : Bool) : ASt := ⟨as.length, zipI 0 as, rs, if pass then st.b else [], if pass then st.l else []⟩
def calleeG (g : Gh) (xs : Array Value) : Gh := { g with κ := fun i => xs.getD i undef }
def calleeE (st0 : ASt) (w : World) (g0 : Gh) : Entry := { w0 := w, N0 := g0.N, F0 := fun m => ∃ x, live st0 g0 x = some m, β0 := g0.β, n0 := st0.b.length }

section
variable {C : Env} {E : Entry} {st : ASt} {a : Act} {w w' : World} {g : Gh}

theorem ownVal {k : Nat} {x : Value} (h : Rv w g (.own k) x) : x = g.κ k := by cases h; rfl

/-- What the function is given, in the caller's words. -/
theorem callee_live (_ : Rel C E st a w g) {mv : List Nat} {vs as : List AV} {rs : List (Nat × (Nat × List AV))} {ks : List Nat} (hm : moveArgs st mv 0 vs = some (as, rs, ks)) {pass : Bool}
    {xs : Array Value} (hx : xs.size = vs.length) (hv : ∀ (i : Nat) (v : AV) (x : Value), vs[i]? = some v → xs[i]? = some x → Rv w g v x) {y : Key} {m : Nat}
    (hl : live (calleeSt st as rs pass) (calleeG g xs) y = some m) :
    (∃ key k p, y = .row key ∧ get rs key = some p ∧ vs[key]? = some (.own k) ∧ k ∈ ks ∧ get st.r k = some p ∧ xs.getD key undef = g.κ k ∧ live st g (.row k) = some m) ∨ (pass = true ∧ live st g y = some m ∧ ∀ k, y ≠ .row k) := by
  obtain ⟨s1, s2, s3⟩ := moveArgs_spec hm
  cases y with
  | row key =>
    left
    simp only [live, calleeSt, calleeG] at hl
    by_cases hs : (get rs key).isSome = true
    · simp only [hs, if_true] at hl
      obtain ⟨p, hp⟩ := Option.isSome_iff_exists.1 hs
      obtain ⟨k, q1, q2, q3, q4⟩ := s2 key p hp
      rw [Nat.sub_zero] at q2
      have hkey : key < xs.size := by
        rw [hx]
        rcases Nat.lt_or_ge key vs.length with h | h
        · exact h
        · rw [List.getElem?_eq_none h] at q2; cases q2
      have e : xs.getD key undef = g.κ k := by
        have := ownVal (hv key _ xs[key] q2 (by simp [hkey]))
        simp [Array.getD, hkey, this]
      exact ⟨key, k, p, rfl, hp, q2, q4, q3, e, by rw [live_row q3, ← e]; exact hl⟩
    · simp only [hs, if_false, Bool.false_eq_true] at hl; cases hl
  | box b =>
    right
    cases pass with
    | true => exact ⟨rfl, hl, by simp⟩
    | false => simp [live, calleeSt] at hl
  | cel b j =>
    right
    cases pass with
    | true => exact ⟨rfl, hl, by simp⟩
    | false => simp [live, calleeSt, ASt.cellAt] at hl
  | lp i =>
    right
    cases pass with
    | true => exact ⟨rfl, hl, by simp⟩
    | false => simp [live, calleeSt] at hl

theorem callee_rel (h : Rel C E st a w g) {mv : List Nat} {vs as : List AV} {rs : List (Nat × (Nat × List AV))} {ks : List Nat} (hm : moveArgs st mv 0 vs = some (as, rs, ks)) {pass : Bool}
    {xs : Array Value} (hx : xs.size = vs.length) (hv : ∀ (i : Nat) (v : AV) (x : Value), vs[i]? = some v → xs[i]? = some x → Rv w g v x) (hb : mbL as ≤ (if pass then st.b else []).length) :
    Rel C (calleeE (calleeSt st as rs pass) w (calleeG g xs)) (calleeSt st as rs pass) ⟨xs, []⟩ w (calleeG g xs) := by
  obtain ⟨s1, s2, s3⟩ := moveArgs_spec hm
  have hlen := moveArgs_len hm
  have hkey : ∀ key p, get rs key = some p → ∃ k, vs[key]? = some (.own k) ∧ k ∈ ks ∧ get st.r k = some p ∧ xs.getD key undef = g.κ k := fun key p hp => by
    obtain ⟨k, q1, q2, q3, q4⟩ := s2 key p hp
    rw [Nat.sub_zero] at q2
    have hkey : key < xs.size := by
      rw [hx]
      rcases Nat.lt_or_ge key vs.length with h | h
      · exact h
      · rw [List.getElem?_eq_none h] at q2; cases q2
    have := ownVal (hv key _ xs[key] q2 (by simp [hkey]))
    exact ⟨k, q2, q4, q3, by simp [Array.getD, hkey, this]⟩
  have hlv := fun {y : Key} {m : Nat} => callee_live (y := y) (m := m) h hm (pass := pass) hx hv
  exact {
    size := by simp only [calleeSt]; rw [hx, hlen]
    slots := fun t v ht => by
      simp only [calleeSt, get_zipI, Nat.zero_le, if_true, Nat.sub_zero] at ht
      have htl : t < as.length := by
        rcases Nat.lt_or_ge t as.length with h | h
        · exact h
        · rw [List.getElem?_eq_none h] at ht; cases ht
      have htx : t < xs.size := by omega
      refine ⟨xs[t], by simp [htx], ?_⟩
      rcases s1 t v ht with ⟨q1, q2⟩ | rfl
      · exact (hv t v xs[t] q1 (by simp [htx])).mono (fun m hm => ⟨hm, rfl⟩) (fun k hk => by rw [noRef_hasOwn k v q2] at hk; cases hk) (fun b j hk => by rw [noRef_hasCel b j v q2] at hk; cases hk) (fun _ _ => rfl)
      · have := Rv.own (w := w) (g := calleeG g xs) (0 + t)
        have e : (calleeG g xs).κ (0 + t) = xs[t] := by simp [calleeG, Array.getD, htx]
        rw [e] at this; exact this
    bx := fun t v ht => by
      simp only [calleeSt, get_zipI, Nat.zero_le, if_true, Nat.sub_zero] at ht
      exact Nat.le_trans (mbL_get ht) hb
    rows := fun key p hp _ => by
      obtain ⟨k, _, _, q3, q4⟩ := hkey key p hp
      have := h.rows k p q3 (by simp)
      simp only [calleeG]; rw [q4]; exact this
    boxes := fun b cs hb _ => by
      cases pass with
      | true =>
        have hb' : st.b[b]? = some cs := hb
        exact (h.boxes b cs hb' (by simp)).kept (by have := live_box (g := g) hb'; simp [live] at this; exact this) (fun m hm => ⟨hm, rfl⟩) (fun _ => rfl) (fun _ _ => rfl) (Nat.le_refl _) rfl
      | false => simp [calleeSt] at hb
    crows := fun b j sz l hc _ => by
      cases pass with
      | true => exact h.crows b j sz l hc (by simp)
      | false => simp [calleeSt, ASt.cellAt] at hc
    disj := fun x y m hx1 hy1 => by
      rcases hlv hx1 with ⟨k1, c1, p1, rfl, q1, q2, q3, q4, q5, q6⟩ | ⟨_, q1, q2⟩
      · rcases hlv hy1 with ⟨k2, c2, p2, rfl, r1, r2, r3, r4, r5, r6⟩ | ⟨_, r1, r2⟩
        · have := h.disj _ _ m q6 r6
          simp only [Key.row.injEq] at this; subst this
          rw [s3 k1 k2 p1 p2 c1 q1 r1 (by simpa using q2) (by simpa using r2)]
        · exact absurd (h.disj _ _ m q6 r1).symm (r2 _)
      · rcases hlv hy1 with ⟨k2, c2, p2, rfl, r1, r2, r3, r4, r5, r6⟩ | ⟨_, r1, r2⟩
        · exact absurd (h.disj _ _ m q1 r6) (q2 _)
        · exact h.disj _ _ m q1 r1
    mine := fun x m hx1 => by
      have : ∃ z, live st g z = some m := by
        rcases hlv hx1 with ⟨_, c1, _, _, _, _, _, _, _, q6⟩ | ⟨_, q1, _⟩
        · exact ⟨_, q6⟩
        · exact ⟨_, q1⟩
      obtain ⟨z, hz⟩ := this
      obtain ⟨q1, _, q3⟩ := h.mine z m hz
      exact ⟨q1, .inl ⟨x, hx1⟩, q3⟩
    kept := fun _ _ _ => rfl
    stab := fun m hm => ⟨(h.stab m hm).1, .inl hm⟩
    stab0 := fun _ hm => hm
    beta := ⟨Nat.le_refl _, fun _ _ => rfl⟩
    os := rfl, tape := rfl, output := rfl
    grown := Nat.le_refl _
    glob := GA.none (h.glob.kept (fun m hm => ⟨hm, rfl⟩))
    lpc := fun i p hp _ => by
      cases pass with
      | true => exact h.lpc i p hp (by simp)
      | false => simp [calleeSt] at hp }

/-- What the caller still knows: no word of what it gave away. -/
def ASt.left (st : ASt) (ks : List Nat) (pass : Bool) : ASt :=
  { st with s := only (fun _ v => ks.all (fun k => !v.hasOwn k) && (!pass || v.noCel)) st.s, r := only (fun k _ => !ks.contains k) st.r }

theorem get_append {α : Type} : ∀ (l m : List (Nat × α)) (t : Nat), get (l ++ m) t = (get l t).or (get m t)
  | [], m, t => by simp [get]
  | (k, v) :: l, m, t => by simp only [List.cons_append, get]; split <;> simp [get_append l m t]
theorem get_shift {α : Type} (n : Nat) : ∀ (l : List (Nat × α)) (t : Nat), get (l.map fun p => (n + p.1, p.2)) t = if n ≤ t then get l (t - n) else none
  | [], t => by simp [get]
  | (k, v) :: l, t => by
    simp only [List.map_cons, get, get_shift n l t]
    by_cases h : n ≤ t
    · simp only [h, if_true]
      by_cases e : t = n + k
      · subst e; simp
      · have : t - n ≠ k := by omega
        simp [e, this]
    · simp only [h, if_false]
      have : t ≠ n + k := by omega
      simp [this]

/-- The state after a call: the rows that came back, under keys from n on, and the boxes. -/
def ASt.back (st : ASt) (pass : Bool) (n : Nat) (st1 : ASt) : ASt :=
  let st2 := st1.r.foldl (fun s p => s.kill (n + p.1)) st
  { st2 with r := (st1.r.map fun p => (n + p.1, p.2)) ++ st2.r, b := if pass then st1.b else st.b, l := if pass then st1.l else st.l }

theorem killAll_spec (n : Nat) : ∀ (rs : List (Nat × (Nat × List AV))) (st : ASt), let st2 := rs.foldl (fun s p => s.kill (n + p.1)) st
    st2.n = st.n ∧ st2.b = st.b ∧ (∀ t v, get st2.s t = some v → get st.s t = some v ∧ ∀ k p, get rs k = some p → v.hasOwn (n + k) = false) ∧
    (∀ k p, get st2.r k = some p → get st.r k = some p ∧ ∀ k' p', get rs k' = some p' → k ≠ n + k')
  | [], st => ⟨rfl, rfl, fun t v h => ⟨h, fun k p h => by simp [get] at h⟩, fun k p h => ⟨h, fun k' p' h => by simp [get] at h⟩⟩
  | (k0, p0) :: rs, st => by
    obtain ⟨h1, h2, h3, h4⟩ := killAll_spec n rs (st.kill (n + k0))
    refine ⟨h1, h2, fun t v ht => ?_, fun k p hk => ?_⟩
    · obtain ⟨q1, q2⟩ := h3 t v ht
      refine ⟨(get_only q1).1, fun k p hk => ?_⟩
      simp only [get] at hk
      by_cases e : k = k0
      · subst e; exact kill_no q1
      · simp only [e, if_false] at hk; exact q2 k p hk
    · obtain ⟨q1, q2⟩ := h4 k p hk
      simp only [ASt.kill, get_del] at q1
      split at q1
      · cases q1
      · rename_i hne
        refine ⟨q1, fun k' p' hk' => ?_⟩
        simp only [get] at hk'
        by_cases e : k' = k0
        · subst e; exact hne
        · simp only [e, if_false] at hk'; exact q2 k' p' hk'

def backG (g : Gh) (pass : Bool) (n : Nat) (st1 : ASt) (g1 : Gh) : Gh :=
  { N := g1.N, β := if pass then g1.β else g.β, χ := if pass then g1.χ else g.χ, κ := fun k => if n ≤ k ∧ (get st1.r (k - n)).isSome then g1.κ (k - n) else g.κ k }
end
end Go.Ab
end
section
/- The abstract layer, part V: after a call. -/
namespace Go.Ab
open Go.RowKit

section
variable {C : Env} {E : Entry} {st st1 : ASt} {a : Act} {w w' : World} {g g1 : Gh}

theorem back_live {ks : List Nat} {pass : Bool} {n : Nat} {x : Key} {m : Nat} (hl : live ((st.left ks pass).back pass n st1) (backG g pass n st1 g1) x = some m) :
    (∃ k, x = .row (n + k) ∧ live st1 g1 (.row k) = some m) ∨ (pass = true ∧ (∀ k, x ≠ .row k) ∧ live st1 g1 x = some m) ∨
    (live st g x = some m ∧ (∀ k, x = .row k → k ∉ ks) ∧ (pass = true → ∃ k, x = .row k)) := by
  obtain ⟨k1, k2, k3, k4⟩ := killAll_spec n st1.r (st.left ks pass)
  cases x with
  | row k =>
    by_cases hk : n ≤ k ∧ (get st1.r (k - n)).isSome = true
    · left
      refine ⟨k - n, by congr 1; omega, ?_⟩
      simp only [live, ASt.back, backG, hk, and_self, if_true] at hl ⊢
      split at hl
      · exact hl
      · cases hl
    · right; right
      simp only [live, ASt.back, backG, hk, if_false] at hl
      split at hl
      · rename_i hs
        rw [get_append, get_shift] at hs
        have hnone : (if n ≤ k then get st1.r (k - n) else none) = none := by
          by_cases h1 : n ≤ k
          · simp only [h1, true_and, if_true] at hk ⊢; simpa using hk
          · simp [h1]
        rw [hnone, Option.none_or] at hs
        obtain ⟨p, hp⟩ := Option.isSome_iff_exists.1 hs
        obtain ⟨q1, q2⟩ := get_only (k4 k p hp).1
        have q3 : k ∉ ks := by simpa using q2
        refine ⟨by simp [live, q1, hl], fun k' e => by simp only [Key.row.injEq] at e; exact e ▸ q3, fun _ => ⟨k, rfl⟩⟩
      · cases hl
  | box b =>
    cases pass with
    | true => exact .inr (.inl ⟨rfl, by simp, hl⟩)
    | false => exact .inr (.inr ⟨hl, by simp, by simp⟩)
  | cel b j =>
    cases pass with
    | true => exact .inr (.inl ⟨rfl, by simp, hl⟩)
    | false => exact .inr (.inr ⟨hl, by simp, by simp⟩)
  | lp i =>
    cases pass with
    | true => exact .inr (.inl ⟨rfl, by simp, hl⟩)
    | false => exact .inr (.inr ⟨hl, by simp, by simp⟩)

theorem back_rel (h : Rel C E st a w g) {mv : List Nat} {vs as : List AV} {rs : List (Nat × (Nat × List AV))} {ks : List Nat} (hm : moveArgs st mv 0 vs = some (as, rs, ks)) {pass : Bool}
    {xs vals : Array Value} (hx : xs.size = vs.length) (hv : ∀ (i : Nat) (v : AV) (x : Value), vs[i]? = some v → xs[i]? = some x → Rv w g v x)
    (h1 : Rel C (calleeE (calleeSt st as rs pass) w (calleeG g xs)) st1 ⟨vals, []⟩ w' g1) (n : Nat) :
    Rel C E ((st.left ks pass).back pass n st1) a w' (backG g pass n st1 g1) := by
  obtain ⟨k1, k2, k3, k4⟩ := killAll_spec n st1.r (st.left ks pass)
  have hF : ∀ m, (calleeE (calleeSt st as rs pass) w (calleeG g xs)).F0 m → (∃ k, k ∈ ks ∧ live st g (.row k) = some m) ∨ (pass = true ∧ ∃ y, (∀ k, y ≠ .row k) ∧ live st g y = some m) := fun m ⟨y, hy⟩ => by
    rcases callee_live h hm (pass := pass) hx hv hy with ⟨_, k, _, _, _, _, q4, _, _, q6⟩ | ⟨q0, q1, q2⟩
    · exact .inl ⟨k, q4, q6⟩
    · exact .inr ⟨q0, y, q2, q1⟩
  have hFz : ∀ m, (calleeE (calleeSt st as rs pass) w (calleeG g xs)).F0 m → ∃ z, live st g z = some m := fun m hm => by
    rcases hF m hm with ⟨k, _, q⟩ | ⟨_, y, _, q⟩
    · exact ⟨_, q⟩
    · exact ⟨_, q⟩
  have hFr : ∀ k m, k ∉ ks → live st g (.row k) = some m → ¬ (calleeE (calleeSt st as rs pass) w (calleeG g xs)).F0 m := fun k m hk hl hf => by
    rcases hF m hf with ⟨k', q1, q2⟩ | ⟨_, y, q1, q2⟩
    · have := h.disj _ _ m hl q2; simp only [Key.row.injEq] at this; exact hk (this ▸ q1)
    · exact q1 k (h.disj _ _ m q2 hl)
  have hFb : pass = false → ∀ x m, (∀ k, x ≠ .row k) → live st g x = some m → ¬ (calleeE (calleeSt st as rs pass) w (calleeG g xs)).F0 m := fun hp x m hx hl hf => by
    rcases hF m hf with ⟨k', q1, q2⟩ | ⟨q0, _⟩
    · exact hx k' (h.disj _ _ m hl q2)
    · rw [hp] at q0; cases q0
  have hsame : ∀ m, m < w.heap.size → ¬ (calleeE (calleeSt st as rs pass) w (calleeG g xs)).F0 m → w'.heap[m]? = w.heap[m]? := h1.kept
  have hN : ∀ m, g.N m → g1.N m ∧ w'.heap[m]? = w.heap[m]? := fun m hm => ⟨h1.stab0 m hm, hsame m (h.stab m hm).1 (fun hf => by
    obtain ⟨z, hz⟩ := hFz m hf; exact (h.mine z m hz).1 hm)⟩
  have hN' : ∀ m, g.N m → (backG g pass n st1 g1).N m ∧ w'.heap[m]? = w.heap[m]? := hN
  have hβ : ∀ b, b < st.b.length → (backG g pass n st1 g1).β b = g.β b := fun b hb => by
    cases pass with
    | true => exact h1.beta.2 b hb
    | false => rfl
  have hlen : st.b.length ≤ ((st.left ks pass).back pass n st1).b.length := by
    cases pass with
    | true => exact h1.beta.1
    | false => exact Nat.le_refl _
  have hbs : ∀ m, E.w0.heap.size ≤ m ∨ E.F0 m → True := fun _ _ => trivial
  have hup : ∀ m, ((calleeE (calleeSt st as rs pass) w (calleeG g xs)).F0 m ∨ w.heap.size ≤ m) → E.F0 m ∨ E.w0.heap.size ≤ m := fun m hm => by
    rcases hm with hm | hm
    · obtain ⟨z, hz⟩ := hFz m hm; exact (h.mine z m hz).2.1
    · exact .inr (Nat.le_trans h.grown hm)
  have hold : ∀ x m, live st g x = some m → (∀ k, x = .row k → k ∉ ks) → (pass = true → ∃ k, x = .row k) → ¬ (calleeE (calleeSt st as rs pass) w (calleeG g xs)).F0 m := fun x m hl q1 q2 => by
    cases x with
    | row k => exact hFr k m (q1 k rfl) hl
    | box b =>
      cases hp : pass with
      | true => obtain ⟨k, hk⟩ := q2 hp; cases hk
      | false => exact hp ▸ hFb hp _ m (by simp) hl
    | cel b j =>
      cases hp : pass with
      | true => obtain ⟨k, hk⟩ := q2 hp; cases hk
      | false => exact hp ▸ hFb hp _ m (by simp) hl
    | lp i =>
      cases hp : pass with
      | true => obtain ⟨k, hk⟩ := q2 hp; cases hk
      | false => exact hp ▸ hFb hp _ m (by simp) hl
  have holdN : ∀ x m, live st g x = some m → ¬ (calleeE (calleeSt st as rs pass) w (calleeG g xs)).F0 m → ¬ g1.N m := fun x m hl hf hn => by
    obtain ⟨q1, _, q3⟩ := h.mine x m hl
    rcases (h1.stab m hn).2 with h | h | h
    · exact q1 h
    · exact hf h
    · exact absurd q3 (Nat.not_lt.2 h)
  have hnew : ∀ x m, live st1 g1 x = some m → ((calleeE (calleeSt st as rs pass) w (calleeG g xs)).F0 m ∨ w.heap.size ≤ m) ∧ ¬ g1.N m ∧ m < w'.heap.size := fun x m hl => by
    obtain ⟨q1, q2, q3⟩ := h1.mine x m hl; exact ⟨q2, q1, q3⟩
  have hclash : ∀ x y m, live st1 g1 y = some m → live st g x = some m → (∀ k, x = .row k → k ∉ ks) → (pass = true → ∃ k, x = .row k) → False := fun x y m hy hl q1 q2 => by
    rcases (hnew y m hy).1 with h2 | h2
    · exact hold x m hl q1 q2 h2
    · exact absurd (h.mine x m hl).2.2 (Nat.not_lt.2 h2)
  have hgot : ∀ k p, get ((st.left ks pass).back pass n st1).r k = some p → (n ≤ k ∧ get st1.r (k - n) = some p) ∨ (¬ (n ≤ k ∧ (get st1.r (k - n)).isSome = true) ∧ get st.r k = some p ∧ k ∉ ks) := fun k p hk => by
    simp only [ASt.back] at hk
    rw [get_append, get_shift] at hk
    by_cases h2 : n ≤ k
    · simp only [h2, if_true, true_and] at hk ⊢
      cases h3 : get st1.r (k - n) with
      | some q => rw [h3] at hk; exact .inl hk
      | none =>
        rw [h3, Option.none_or] at hk
        obtain ⟨q1, q2⟩ := get_only (k4 k p hk).1
        exact .inr ⟨by simp, q1, by simpa using q2⟩
    · simp only [h2, if_false, Option.none_or, false_and] at hk ⊢
      obtain ⟨q1, q2⟩ := get_only (k4 k p hk).1
      exact .inr ⟨by simp, q1, by simpa using q2⟩
  exact {
    size := by
      have : ((st.left ks pass).back pass n st1).n = st.n := k1
      rw [this]; exact h.size
    slots := fun t v ht => by
      obtain ⟨q1, q2⟩ := k3 t v ht
      obtain ⟨q3, q4⟩ := get_only q1
      simp only [Bool.and_eq_true, Bool.or_eq_true, Bool.not_eq_true'] at q4
      obtain ⟨x, e1, e2⟩ := h.slots t v q3
      refine ⟨x, e1, e2.mono hN' (fun k hk => ?_) (fun b j hk => ?_) (fun b hb => hβ b (Nat.lt_of_lt_of_le hb (h.bx t v q3)))⟩
      · simp only [backG]
        rw [if_neg]
        rintro ⟨h2, h3⟩
        obtain ⟨p, hp⟩ := Option.isSome_iff_exists.1 h3
        have := q2 _ p hp
        have e : n + (k - n) = k := by omega
        rw [e, hk] at this; cases this
      · rcases q4.2 with hp | hc
        · simp [backG, hp]
        · rw [noCel_hasCel b j v hc] at hk; cases hk
    bx := fun t v ht => by
      obtain ⟨q1, _⟩ := k3 t v ht
      exact Nat.le_trans (h.bx t v (get_only q1).1) hlen
    rows := fun k p hk _ => by
      rcases hgot k p hk with ⟨q1, q2⟩ | ⟨q1, q2, q3⟩
      · have e : (backG g pass n st1 g1).κ k = g1.κ (k - n) := by simp [backG, q1, q2]
        rw [e]; exact h1.rows _ p q2 (by simp)
      · have e : (backG g pass n st1 g1).κ k = g.κ k := by simp only [backG]; rw [if_neg q1]
        rw [e]
        exact (h.rows k p q2 (by simp)).kept hN' fun m hm => by
          have hl : live st g (.row k) = some m := by rw [live_row q2]; exact hm
          exact hsame m (h.mine _ m hl).2.2 (hFr k m q3 hl)
    boxes := fun b cs hb _ => by
      cases hp : pass with
      | true =>
        subst hp
        have hb' : st1.b[b]? = some cs := hb
        exact (h1.boxes b cs hb' (by simp)).kept (by have := live_box (g := g1) hb'; simp [live] at this; exact this) (fun m hm => ⟨hm, rfl⟩) (fun _ => rfl) (fun _ _ => rfl) (Nat.le_refl _) rfl
      | false =>
        subst hp
        have hb2 : st.b[b]? = some cs := by
          simpa [ASt.back, ASt.left] using hb
        have hlv := live_box (g := g) hb2
        have hlt : b < st.b.length := by simp [live] at hlv; exact hlv
        exact (h.boxes b cs hb2 (by simp)).kept hlt hN' (fun _ => rfl) (fun _ _ => rfl) (by exact Nat.le_refl _) (hsame _ (h.mine _ _ hlv).2.2 (hFb rfl _ _ (by simp) hlv))
    crows := fun b j sz l hc _ => by
      cases hp : pass with
      | true =>
        subst hp
        exact h1.crows b j sz l hc (by simp)
      | false =>
        subst hp
        have hc2 : st.cellAt b j = some (.ow sz l) := hc
        exact (h.crows b j sz l hc2 (by simp)).kept hN' fun m hm => by
          have hl : live st g (.cel b j) = some m := by rw [live_cel hc2]; exact hm
          exact hsame m (h.mine _ m hl).2.2 (hFb rfl _ m (by simp) hl)
    disj := fun x y m hx1 hy1 => by
      rcases back_live hx1 with ⟨k, rfl, q1⟩ | ⟨q0, q1, q2⟩ | ⟨q1, q2, q3⟩
      · rcases back_live hy1 with ⟨k', rfl, r1⟩ | ⟨r0, r1, r2⟩ | ⟨r1, r2, r3⟩
        · have := h1.disj _ _ m q1 r1; simp only [Key.row.injEq] at this; rw [this]
        · exact absurd (h1.disj _ _ m q1 r2).symm (r1 k)
        · exact (hclash y _ m q1 r1 r2 r3).elim
      · rcases back_live hy1 with ⟨k', rfl, r1⟩ | ⟨r0, r1, r2⟩ | ⟨r1, r2, r3⟩
        · exact absurd (h1.disj _ _ m q2 r1) (q1 k')
        · exact h1.disj _ _ m q2 r2
        · exact (hclash y _ m q2 r1 r2 r3).elim
      · rcases back_live hy1 with ⟨k', rfl, r1⟩ | ⟨r0, r1, r2⟩ | ⟨r1, r2, r3⟩
        · exact (hclash x _ m r1 q1 q2 q3).elim
        · exact (hclash x _ m r2 q1 q2 q3).elim
        · exact h.disj x y m q1 r1
    mine := fun x m hx1 => by
      rcases back_live hx1 with ⟨k, rfl, q1⟩ | ⟨_, _, q2⟩ | ⟨q1, q2, q3⟩
      · obtain ⟨r1, r2, r3⟩ := hnew _ m q1; exact ⟨r2, hup m r1, r3⟩
      · obtain ⟨r1, r2, r3⟩ := hnew _ m q2; exact ⟨r2, hup m r1, r3⟩
      · obtain ⟨_, r2, r3⟩ := h.mine x m q1
        exact ⟨holdN x m q1 (hold x m q1 q2 q3), r2, Nat.lt_of_lt_of_le r3 h1.grown⟩
    kept := fun m hm hf => (hsame m (Nat.lt_of_lt_of_le hm h.grown) (fun hf' => by
      rcases hup m (.inl hf') with h2 | h2
      · exact hf h2
      · exact absurd hm (Nat.not_lt.2 h2))).trans (h.kept m hm hf)
    stab := fun m hm => by
      obtain ⟨q1, q2⟩ := h1.stab m hm
      refine ⟨q1, ?_⟩
      rcases q2 with q2 | q2
      · exact (h.stab m q2).2
      · exact .inr (hup m q2)
    stab0 := fun m hm => (hN m (h.stab0 m hm)).1
    beta := ⟨Nat.le_trans h.beta.1 hlen, fun b hb => (hβ b (Nat.lt_of_lt_of_le hb h.beta.1)).trans (h.beta.2 b hb)⟩
    os := h1.os.trans h.os
    tape := h1.tape.trans h.tape
    output := h1.output.trans h.output
    grown := Nat.le_trans h.grown h1.grown
    glob := ⟨fun i cs hi => (h1.glob.1 i cs hi).kept (fun m hm => ⟨hm, rfl⟩), h.glob.2.kept hN'⟩
    lpc := fun i p hp _ => by
      cases hps : pass with
      | true => subst hps; exact h1.lpc i p hp (by simp)
      | false =>
        subst hps
        have hp2 : st.l[i]? = some p := hp
        have hl : live st g (.lp i) = some p.1 := live_lp hp2
        exact (hsame p.1 (h.mine _ _ hl).2.2 (hFb rfl _ _ (by simp) hl)).trans (h.lpc i p hp2 (by simp)) }
end
end Go.Ab
end
