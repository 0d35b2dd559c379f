/- The abstract layer and its machine: what Go code does to lists, proved once over any program. -/
import Derived.Test.YtfokbedokggilaaDoorK8
import Derived.Carry
import Derived.OpenShut
set_option linter.all false
section
/- The abstract layer, part Cl: a law's row closed: what parameters read as, what variables hold, what is left behind. -/
namespace Go.Ab
open Go.RowKit Go.ChangeShapes Go.WideShapes

section
variable {H : Type} {enc : TypeId × Value → H} {P : Program}

theorem trodAll_stay (hl : laidOutB P = true) {W W' : World} (hb : Below W.heap.size W W') : ∀ {ts : List TypeId} {vs : List Value} {ds : List (DataW H)} {ps : List MemPlace}, (∀ t ∈ ts, P.readableRec t = true ∧ t < P.types.size) →
    DataW.TrodAll enc P W 0 (fun _ => true) true ts vs ds ps → (∀ x ∈ ps, x.block < W.heap.size) → DataW.TrodAll enc P W' 0 (fun b => decide (b < W.heap.size)) true ts vs ds ps
  | [], _, _, _, _, h, _ => by
    obtain ⟨rfl, rfl, rfl⟩ := trodAll_nil h
    rfl
  | t :: ts, _, _, _, ht, h, hp => by
    obtain ⟨v, vs, d, ds, p, q, rfl, rfl, rfl, h1, h2⟩ := trodAll_cons h
    obtain ⟨q1, q2⟩ := ht t List.mem_cons_self
    exact ⟨p, q, Below.trod hl q1 q2 h1 hb (fun x hx => hp x (List.mem_append_left _ hx)), trodAll_stay hl hb (fun t ht' => ht t (List.mem_cons_of_mem _ ht')) h2 (fun x hx => hp x (List.mem_append_right _ hx)), rfl⟩

theorem trodAll_len : ∀ {ts : List TypeId} {vs : List Value} {ds : List (DataW H)} {ps : List MemPlace} {W : World} {b : Nat} {sp : Nat → Bool} {hd : Bool}, DataW.TrodAll enc P W b sp hd ts vs ds ps → ds.length = ts.length
  | [], _, _, _, _, _, _, _, h => by
    obtain ⟨rfl, rfl, rfl⟩ := trodAll_nil h; rfl
  | t :: ts, _, _, _, _, _, _, _, h => by
    obtain ⟨v, vs, d, ds, p, q, rfl, rfl, rfl, h1, h2⟩ := trodAll_cons h
    simp only [List.length_cons, trodAll_len h2]

/-- The law's: true, and all reads as it did. -/
theorem post_true {tb : TypeId} (hl : laidOutB P = true) {f : Func} {s : ChangeSpec} (hv : s.vars = []) (hfn : ∀ ds : List (DataW H), ds.length = f.params.toList.length → s.fn H ds = { results := [.lit (.bool true)], args := ds })
    (hread : (f.params.toList.all fun t => P.readableRec t && decide (t < P.types.size)) = true) (hr : f.resultTypes = #[tb]) (htb : P.underlying tb = some .bool)
    {W W' : World} {args : Array Value} {ds gs : List (DataW H)} {before : List MemPlace} (hW : DataW.Whole enc P f.params.toList s.vars false W args.toList ds gs before) (hg : W.grownBy W' none) :
    s.post enc P f false true false false W args (.bool true) W' := by
  have hb : Below W.heap.size W W' := ⟨hg.os, hg.tape, hg.output, hg.size, fun k hk => hg.block k hk (by simp)⟩
  have hlt : ∀ p ∈ before, p.block < W.heap.size := fun p hp => by simpa using hW.lt p hp
  have hW' := hW
  obtain ⟨p, q, hA, hV, rfl, _, _⟩ := hW
  rw [hv] at hV
  obtain ⟨rfl, rfl⟩ := trodVars_none hV
  have hds := trodAll_len hA
  have hf := hfn ds hds
  simp only [List.append_nil] at hlt hW'
  refine ⟨ds, [], p, [], p, [], hW', ?_, ?_, ?_, Below.frame hb _, fun h => by cases h⟩
  · rw [List.append_nil, hf, hr]
    refine ⟨[], [], ⟨1, ?_⟩, rfl, rfl⟩
    show DataW.trod enc P W' _ _ _ 1 tb (Value.bool true).cells.toList = _
    simp [DataW.trod, htb, Value.cells]
  · rw [List.append_nil, hf]
    exact trodAll_stay hl hb (fun t ht => by simpa using List.all_eq_true.1 hread t ht) hA hlt
  · rw [List.append_nil, hf, hv]
    rfl
end

/-! Readers: what the cells of a type read as. -/
def ShC (W : World) (l : List AV) (cs : List Value) : Prop := l.length = cs.length ∧ ∀ (k : Nat) (a : AV) (v : Value), l[k]? = some a → cs[k]? = some v → Sh W (fun m => m < W.heap.size) a v

theorem ShC.nil {W : World} : ShC W [] [] := ⟨rfl, fun k a v h => by simp at h⟩
theorem ShC.one {W : World} {a : AV} {v : Value} (h : Sh W (fun m => m < W.heap.size) a v) : ShC W [a] [v] := ⟨rfl, fun k b u hb hu => by
  cases k with
  | zero => simp at hb hu; subst hb hu; exact h
  | succ k => simp at hb⟩
theorem ShC.append {W : World} {l l' : List AV} {cs cs' : List Value} (h : ShC W l cs) (h' : ShC W l' cs') : ShC W (l ++ l') (cs ++ cs') := ⟨by rw [List.length_append, List.length_append, h.1, h'.1], fun k a v ha hv => by
  by_cases hk : k < l.length
  · rw [List.getElem?_append_left hk] at ha
    rw [List.getElem?_append_left (by rw [← h.1]; exact hk)] at hv
    exact h.2 k a v ha hv
  · rw [List.getElem?_append_right (by omega)] at ha
    rw [List.getElem?_append_right (by rw [← h.1]; omega), ← h.1] at hv
    exact h'.2 _ a v ha hv⟩

/-- Type t reads as g a, for an a that passes. -/
structure Rd (P : Program) (t : TypeId) {α : Type} (g : α → AV) (ok : α → Prop) : Prop where
  rd : ∀ {H : Type} (enc : TypeId × Value → H) (W : World) (fuel : Nat) (cs : List Value) (x : DataW H × List MemPlace), DataW.trod enc P W 0 (fun _ => true) true fuel t cs = some x → ∃ a, ok a ∧ ShC W (g a).cells cs

theorem Rd.map {P : Program} {t : TypeId} {α β : Type} {g : α → AV} {ok : α → Prop} {g' : β → AV} {ok' : β → Prop} (h : Rd P t g ok) (φ : α → β) (hg : ∀ a, ok a → (g a) = g' (φ a)) (hk : ∀ a, ok a → ok' (φ a)) : Rd P t g' ok' :=
  ⟨fun enc W fuel cs x hx => let ⟨a, h1, h2⟩ := h.rd enc W fuel cs x hx; ⟨φ a, hk a h1, by rw [← hg a h1]; exact h2⟩⟩

theorem Rd.int {P : Program} {t : TypeId} {k : IntKind} (ht : P.underlying t = some (.int k)) : Rd P t (fun n => .sc (.int k n)) (fun n => k.min ≤ n ∧ n ≤ k.max) :=
  ⟨fun enc W fuel cs x hx => by
    obtain ⟨n, rfl, _, hw⟩ := DataW.trod_int ht hx
    simp only [Lit.wf, Bool.and_eq_true, decide_eq_true_eq] at hw
    exact ⟨n, hw, .one (.sc _ rfl)⟩⟩
theorem Rd.bool {P : Program} {t : TypeId} (ht : P.underlying t = some .bool) : Rd P t (fun b => .sc (.bool b)) (fun _ => True) :=
  ⟨fun enc W fuel cs x hx => by
    obtain ⟨n, rfl, _⟩ := DataW.trod_bool ht hx
    exact ⟨n, trivial, .one (.sc _ rfl)⟩⟩
theorem Rd.str {P : Program} {t : TypeId} (ht : P.underlying t = some .string) : Rd P t (fun s => .sc (.string s)) (fun s => s.size ≤ 9223372036854775807) :=
  ⟨fun enc W fuel cs x hx => by
    obtain ⟨s, rfl, _, hs⟩ := DataW.trod_string ht hx
    exact ⟨s, hs, .one (.sc _ rfl)⟩⟩

theorem add_add (a : Addr) (i j : Nat) (h : a.spot = none) : (a.add i).add j = ⟨a.block, a.off + i + j, none⟩ := by
  cases a with
  | mk b o s =>
    simp only at h; subst h
    unfold Addr.add
    by_cases hi : i = 0 <;> by_cases hj : j = 0 <;> simp [hi, hj]

theorem choose_list {α : Type} {Q : Nat → α → Prop} : ∀ (n : Nat), (∀ i, i < n → ∃ a, Q i a) → ∃ l : List α, l.length = n ∧ ∀ i a, l[i]? = some a → Q i a
  | 0, _ => ⟨[], rfl, fun i a h => by simp at h⟩
  | n + 1, h => by
    obtain ⟨l, h1, h2⟩ := choose_list n fun i hi => h i (by omega)
    obtain ⟨a, ha⟩ := h n (by omega)
    refine ⟨l ++ [a], by simp [h1], fun i b hb => ?_⟩
    by_cases hi : i < n
    · rw [List.getElem?_append_left (by omega)] at hb; exact h2 i b hb
    · rw [List.getElem?_append_right (by omega)] at hb
      have : i = n := by
        rcases Nat.eq_or_lt_of_le (Nat.le_of_not_lt hi) with h | h
        · exact h.symm
        · rw [List.getElem?_eq_none (by simp; omega)] at hb; cases hb
      subst this
      simp [h1] at hb; subst hb; exact ha

theorem flatten_get {α : Type} {l : List (List α)} {sz : Nat} (hs : ∀ a ∈ l, a.length = sz) : ∀ (i j : Nat), j < sz → (l.flatten)[i * sz + j]? = (l[i]?).bind (·[j]?) := by
  induction l with
  | nil => intro i j _; simp
  | cons a l ih =>
    intro i j hj
    have ha := hs a List.mem_cons_self
    cases i with
    | zero => simp only [List.flatten_cons, Nat.zero_mul, Nat.zero_add, List.getElem?_cons_zero, Option.bind_some]; rw [List.getElem?_append_left (by omega)]
    | succ i =>
      simp only [List.flatten_cons, List.getElem?_cons_succ]
      rw [List.getElem?_append_right (by rw [ha, Nat.succ_mul]; omega), ← ih (fun b hb => hs b (List.mem_cons_of_mem _ hb)) i j hj, ha]
      congr 1
      rw [Nat.succ_mul]; omega

theorem cell_block {w : World} {b o : Nat} {v : Value} (h : w.cell? ⟨b, o, none⟩ = some v) : ∃ c T fr, w.heap[b]? = some (.cells c T fr) ∧ c[o]? = some v := by
  unfold World.cell? at h
  split at h
  · rename_i c T fr hh; simp at h; exact ⟨c, T, fr, hh, h⟩
  · cases h
theorem cell_spot {w : World} {a : Addr} {v : Value} (h : w.cell? a = some v) : a.spot = none := by
  unfold World.cell? at h
  split at h
  · split at h
    · cases h
    · rename_i hs; simpa using hs
  · cases h

theorem Rd.slice {P : Program} {t e : TypeId} {sz : Nat} {α : Type} {g : α → AV} {ok : α → Prop} (ht : P.underlying t = some (.slice e)) (hsz : P.cellsOf e = sz) (h0 : 0 < sz) (hlen : ∀ a, ok a → (g a).cells.length = sz) (r : Rd P e g ok) :
    Rd P t (fun l : List α => .sl sz (l.map g)) (fun l => (∀ a ∈ l, ok a) ∧ l.length ≤ 9223372036854775807) :=
  ⟨fun enc W fuel cs x hx => by
    rcases DataW.trod_slice ht hx with ⟨rfl, _⟩ | ⟨a, len, cap, elems, rest, n, _, rfl, _, _, hlc, hcm, hel, hE, hR, _⟩
    · exact ⟨[], ⟨fun a h => by simp at h, by simp⟩, .one (.nil _ _)⟩
    · rw [hsz] at hE hR
      -- the elements
      have hsome : ∀ i, i < len → ∃ y, ok y ∧ ∃ cs, W.cells? 0 (a.add (i * sz)) sz = some cs ∧ ShC W (g y).cells cs := fun i hi => by
        have h1 := hE i hi
        obtain ⟨y, hy⟩ : ∃ y, elems[i]? = some y := ⟨_, List.getElem?_eq_getElem (by omega)⟩
        rw [hy, Option.bind_eq_some_iff] at h1
        obtain ⟨cs, h2, h3⟩ := h1
        obtain ⟨z, hz, hs⟩ := r.rd enc W _ _ _ h3
        exact ⟨z, hz, cs, h2, hs⟩
      obtain ⟨l, hl, hq⟩ := choose_list len hsome
      have hokl : ∀ y ∈ l, ok y := fun y hy => by
        obtain ⟨i, hi⟩ := List.getElem?_of_mem hy
        exact (hq i y hi).1
      refine ⟨l, ⟨hokl, by rw [hl]; unfold maxLen at hcm; omega⟩, .one ?_⟩
      by_cases hc0 : cap = 0
      · have : len = 0 := by omega
        subst this
        have : l = [] := List.eq_nil_of_length_eq_zero hl
        subst this; subst hc0
        exact .nil _ _
      · -- the first cell
        have hfirst : ∃ cs, W.cells? 0 a sz = some cs := by
          by_cases hl0 : len = 0
          · subst hl0
            obtain ⟨h1, h2⟩ := hR rfl
            have h3 := h2 0 (by omega)
            obtain ⟨y, hy⟩ : ∃ y, rest[0]? = some y := ⟨_, List.getElem?_eq_getElem (by omega)⟩
            rw [hy, Option.bind_eq_some_iff] at h3
            obtain ⟨cs, h4, _⟩ := h3
            exact ⟨cs, by simpa [Addr.add] using h4⟩
          · obtain ⟨y, _, cs, h4, _⟩ := hsome 0 (by omega)
            exact ⟨cs, by simpa [Addr.add] using h4⟩
        obtain ⟨cs0, hcs0⟩ := hfirst
        obtain ⟨_, hl0, hcell0⟩ := World.cells?_some hcs0
        have hc00 := hcell0 0 h0
        obtain ⟨v0, hv0⟩ : ∃ v, cs0[0]? = some v := ⟨_, List.getElem?_eq_getElem (by omega)⟩
        rw [hv0] at hc00
        have hadd0 : a.add 0 = a := by simp [Addr.add]
        rw [hadd0] at hc00
        have hsp := cell_spot hc00
        obtain ⟨b, off, sp⟩ := a
        simp only at hsp; subst hsp
        obtain ⟨c, T, fr, hb, hcv⟩ := cell_block hc00
        have hcell : ∀ o, W.cell? ⟨b, o, none⟩ = c[o]? := fun o => by simp [World.cell?, hb]
        have hbs : b < W.heap.size := by
          rcases Nat.lt_or_ge b W.heap.size with h | h
          · exact h
          · rw [Array.getElem?_eq_none h] at hb; cases hb
        have hEl : ∀ i y, l[i]? = some y → ∀ j, j < sz → ∃ u v, (g y).cells[j]? = some u ∧ c[off + i * sz + j]? = some v ∧ Sh W (fun m => m < W.heap.size) u v := fun i y hi j hj => by
          obtain ⟨hoky, cs, hcs, hS1, hS2⟩ := hq i y hi
          obtain ⟨_, hcl, hcc⟩ := World.cells?_some hcs
          have h1 := hcc j hj
          rw [add_add _ _ _ rfl] at h1
          simp only [hcell] at h1
          obtain ⟨v, hv⟩ : ∃ v, cs[j]? = some v := ⟨_, List.getElem?_eq_getElem (by omega)⟩
          obtain ⟨u, hu⟩ : ∃ u, (g y).cells[j]? = some u := ⟨_, List.getElem?_eq_getElem (by rw [hS1, hcl]; exact hj)⟩
          exact ⟨u, v, hu, by rw [h1, hv], hS2 j u v hu hv⟩
        have hkey := Sh.sl (w := W) (N := fun m => m < W.heap.size) sz (l.map g) b off cap c T fr hbs hb (fun u hu => by
            obtain ⟨y, hy, rfl⟩ := List.mem_map.1 hu
            exact hlen y (hokl y hy)) (by
            rw [List.length_map]
            by_cases hl0 : l.length = 0
            · rw [hl0]
              have hlt : off < c.size := by
                rcases Nat.lt_or_ge off c.size with h | h
                · exact h
                · rw [Array.getElem?_eq_none h] at hcv; cases hcv
              omega
            · obtain ⟨y, hy⟩ : ∃ y, l[l.length - 1]? = some y := ⟨_, List.getElem?_eq_getElem (by omega)⟩
              obtain ⟨u, v, _, h2, _⟩ := hEl _ y hy (sz - 1) (by omega)
              have hlt : off + (l.length - 1) * sz + (sz - 1) < c.size := by
                rcases Nat.lt_or_ge (off + (l.length - 1) * sz + (sz - 1)) c.size with h | h
                · exact h
                · rw [Array.getElem?_eq_none h] at h2; cases h2
              have : l.length * sz = (l.length - 1) * sz + sz := by
                conv => lhs; rw [show l.length = (l.length - 1) + 1 by omega, Nat.succ_mul]
              omega) (by rw [List.length_map, hl]; exact hlc) (fun k u v hu hv => by
            have hfl : (List.map g l).flatMap AV.cells = (l.map fun y => (g y).cells).flatten := by
              rw [List.flatMap_def, List.map_map]; rfl
            rw [hfl] at hu
            have hk : k = (k / sz) * sz + k % sz := by rw [Nat.mul_comm]; exact (Nat.div_add_mod k sz).symm
            have hj : k % sz < sz := Nat.mod_lt _ h0
            rw [hk, flatten_get (sz := sz) (fun a ha => by
              obtain ⟨y, hy, rfl⟩ := List.mem_map.1 ha
              exact hlen y (hokl y hy)) _ _ hj, List.getElem?_map, Option.bind_eq_some_iff] at hu
            obtain ⟨cl, h1, h2⟩ := hu
            obtain ⟨y, hy, rfl⟩ := Option.map_eq_some_iff.1 h1
            obtain ⟨u', v', q1, q2, q3⟩ := hEl _ y hy _ hj
            rw [q1] at h2
            rw [hk, ← Nat.add_assoc, q2] at hv
            cases h2; cases hv
            exact q3)
        rw [List.length_map, hl] at hkey
        exact hkey⟩

/-- Fields, one behind the other. -/
structure RdF (P : Program) (ts : List TypeId) {α : Type} (h : α → List AV) (ok : α → Prop) : Prop where
  rd : ∀ {H : Type} (enc : TypeId × Value → H) (W : World) (fuel : Nat) (css : List (List Value)), css.length = ts.length → (∀ (i : Nat) (t : TypeId) (cs : List Value), ts[i]? = some t → css[i]? = some cs → ∃ x : DataW H × List MemPlace, DataW.trod enc P W 0 (fun _ => true) true fuel t cs = some x) → ∃ a, ok a ∧ ShC W (h a) css.flatten
theorem RdF.nil {P : Program} : RdF P [] (fun _ : Unit => []) (fun _ => True) := ⟨fun enc W fuel css hl _ => by
  have : css = [] := List.eq_nil_of_length_eq_zero hl
  subst this; exact ⟨(), trivial, .nil⟩⟩
theorem RdF.cons {P : Program} {t : TypeId} {ts : List TypeId} {α β : Type} {g : α → AV} {ok : α → Prop} {h : β → List AV} {ok' : β → Prop} (r : Rd P t g ok) (rs : RdF P ts h ok') : RdF P (t :: ts) (fun p : α × β => (g p.1).cells ++ h p.2) (fun p => ok p.1 ∧ ok' p.2) := ⟨fun enc W fuel css hl hx => by
  cases css with
  | nil => simp at hl
  | cons cs css =>
    obtain ⟨x, h1⟩ := hx 0 t cs rfl rfl
    obtain ⟨a, ha, hs⟩ := r.rd enc W _ _ _ h1
    obtain ⟨b, hb, hs'⟩ := rs.rd enc W fuel css (by simpa using hl) fun i t cs hi hc => hx (i + 1) t cs hi hc
    exact ⟨(a, b), ⟨ha, hb⟩, hs.append hs'⟩⟩

theorem isVar_lt {P : Program} {t : TypeId} (h : isVar P t = true) : t < P.types.size := by
  unfold isVar at h; simp only [Bool.and_eq_true, decide_eq_true_eq] at h; exact h.1
theorem cut_flatten {α : Type} : ∀ (ns : List Nat) (cs : List α), cs.length = ns.sum → ((List.range ns.length).map fun i => (cs.drop ((ns.take i).sum)).take (ns.getD i 0)).flatten = cs
  | [], cs, h => by simp at h; subst h; simp
  | n :: ns, cs, h => by
    rw [List.sum_cons] at h
    rw [List.length_cons, List.range_succ_eq_map, List.map_cons, List.flatten_cons, List.map_map]
    have h1 := cut_flatten ns (cs.drop n) (by rw [List.length_drop]; omega)
    have h2 : ((fun i => (cs.drop (((n :: ns).take i).sum)).take ((n :: ns).getD i 0)) ∘ Nat.succ) = fun i => ((cs.drop n).drop ((ns.take i).sum)).take (ns.getD i 0) := by
      funext i
      simp only [Function.comp, List.take_succ_cons, List.sum_cons, List.getD_cons_succ, List.drop_drop]
    rw [h2, h1]
    simp only [List.take_zero, List.sum_nil, List.drop_zero, List.getD_cons_zero]
    exact List.take_append_drop n cs

theorem Rd.struct {P : Program} {t : TypeId} {fs : Array Field} {α : Type} {h : α → List AV} {ok : α → Prop} (hl : laidOutB P = true) (hv : isVar P t = true) (ht : P.underlying t = some (.struct fs)) (r : RdF P (fs.toList.map (·.type)) h ok) : Rd P t (fun a => .agg (h a)) ok :=
  ⟨fun enc W fuel cs x hx => by
    obtain ⟨xs, n, _, _, hlen, hxl, hf⟩ := DataW.trod_struct ht hx
    unfold laidOutB at hl
    simp only [Bool.and_eq_true, List.all_eq_true, List.mem_range] at hl
    have hfine := hl.1.1 t (isVar_lt hv)
    unfold rowFine at hfine
    rw [ht] at hfine
    simp only [hv, Bool.not_true, Bool.false_or, Bool.and_eq_true, List.all_eq_true, beq_iff_eq, List.mem_range] at hfine
    obtain ⟨⟨_, hsum⟩, hoff⟩ := hfine
    have hcs := cut_flatten (fs.toList.map fun f => P.cellsOf f.type) cs (by rw [hlen, hsum])
    rw [List.length_map] at hcs
    obtain ⟨a, ha, hs⟩ := r.rd enc W n ((List.range fs.toList.length).map fun i => (cs.drop (((fs.toList.map fun f => P.cellsOf f.type).take i).sum)).take ((fs.toList.map fun f => P.cellsOf f.type).getD i 0)) (by simp) (fun i t' c hi hc => by
      rw [List.getElem?_map, Option.map_eq_some_iff] at hi
      obtain ⟨f, hf1, rfl⟩ := hi
      have hilt : i < fs.toList.length := by
        rcases Nat.lt_or_ge i fs.toList.length with h | h
        · exact h
        · rw [List.getElem?_eq_none h] at hf1; cases hf1
      rw [List.getElem?_map, List.getElem?_range hilt] at hc
      simp only [Option.map_some, Option.some.injEq] at hc
      have ho := hoff i hilt
      rw [hf1] at ho
      simp only [beq_iff_eq] at ho
      have h1 := hf i f (by simpa using hf1)
      have e1 : (List.map (fun f => P.cellsOf f.type) fs.toList).getD i 0 = P.cellsOf f.type := by
        rw [List.getD_eq_getElem?_getD, List.getElem?_map, hf1]; rfl
      rw [e1, ← List.map_take, ← ho] at hc
      rw [← hc, h1]
      exact ⟨_, List.getElem?_eq_getElem (by rw [hxl]; simpa using hilt)⟩)
    rw [hcs] at hs
    exact ⟨a, ha, hs⟩⟩

/-- A parameter. -/
theorem Rd.param {P : Program} {t : TypeId} {α : Type} {g : α → AV} {ok : α → Prop} (r : Rd P t g ok) {H : Type} {enc : TypeId × Value → H} {W : World} {base : Nat} {v : Value} {d : DataW H} {p : List MemPlace} (h : DataW.Trod enc P W 0 (fun _ => true) true t v d p) (hval : Value.okWide P W .any base t v)
    (hg : ∀ a, ok a → match P.underlying t with
      | some (.struct _) | some (.array _ _) => ∃ cs, g a = .agg cs
      | _ => (g a).cells = [g a]) : ∃ a, ok a ∧ Rv W (gInit W) (g a) v ∧ (g a).mb = 0 := by
  obtain ⟨fuel, h⟩ := h
  obtain ⟨a, ha, hs⟩ := r.rd enc W _ _ _ h
  refine ⟨a, ha, ?_⟩
  have hga := hg a ha
  unfold Value.okWide at hval
  split at hga
  · rename_i fs e
    obtain ⟨cs, e1⟩ := hga
    rw [e] at hval
    obtain ⟨vs, rfl, _, _⟩ := hval
    rw [e1] at hs ⊢
    refine ⟨.agg (by simpa [AV.cells, Value.cells] using hs.1) fun i u x hu hx => ?_, ?_⟩
    · exact Sh.rv (g := gInit W) (hs.2 i u x hu (by simpa [Value.cells] using hx))
    · have : ∀ l : List AV, (∀ u ∈ l, u.mb = 0) → mbL l = 0 := fun l hl => by
        induction l with
        | nil => rfl
        | cons u l ih => simp only [mbL, hl u List.mem_cons_self, ih fun v hv => hl v (List.mem_cons_of_mem _ hv)]; rfl
      refine this cs fun u hu => ?_
      obtain ⟨i, hi⟩ := List.getElem?_of_mem hu
      have hlt : i < cs.length := by
        rcases Nat.lt_or_ge i cs.length with h | h
        · exact h
        · rw [List.getElem?_eq_none h] at hi; cases hi
      have hlen := hs.1
      simp only [AV.cells] at hlen
      exact (hs.2 i u _ hi (List.getElem?_eq_getElem (by rw [← hlen]; exact hlt))).mb0
  · rename_i n' e' e
    obtain ⟨cs, e1⟩ := hga
    rw [e] at hval
    obtain ⟨vs, rfl, _, _⟩ := hval
    rw [e1] at hs ⊢
    refine ⟨.agg (by simpa [AV.cells, Value.cells] using hs.1) fun i u x hu hx => ?_, ?_⟩
    · exact Sh.rv (g := gInit W) (hs.2 i u x hu (by simpa [Value.cells] using hx))
    · have : ∀ l : List AV, (∀ u ∈ l, u.mb = 0) → mbL l = 0 := fun l hl => by
        induction l with
        | nil => rfl
        | cons u l ih => simp only [mbL, hl u List.mem_cons_self, ih fun v hv => hl v (List.mem_cons_of_mem _ hv)]; rfl
      refine this cs fun u hu => ?_
      obtain ⟨i, hi⟩ := List.getElem?_of_mem hu
      have hlt : i < cs.length := by
        rcases Nat.lt_or_ge i cs.length with h | h
        · exact h
        · rw [List.getElem?_eq_none h] at hi; cases hi
      have hlen := hs.1
      simp only [AV.cells] at hlen
      exact (hs.2 i u _ hi (List.getElem?_eq_getElem (by rw [← hlen]; exact hlt))).mb0
  · rename_i h1 h2
    rw [hga] at hs
    have hv : v.cells = #[v] := by
      cases v with
      | agg cs =>
        exfalso
        split at hval
        · rename_i e; exact h1 _ e
        · rename_i e; exact h2 _ _ e
        · unfold Cell.okWide at hval
          split at hval <;> first | exact hval | (unfold Cell.ok at hval; split at hval <;> first | exact hval | rename_i e _ _; cases e) | skip
          all_goals (first | (rename_i e; cases e; done) | (rename_i e _; cases e; done) | simp_all)
      | _ => rfl
    rw [hv] at hs
    have hsh := hs.2 0 (g a) v rfl rfl
    exact ⟨Sh.rv (g := gInit W) hsh, hsh.mb0⟩

/-! Variables that are laid. -/
mutual
def flatV {H : Type} : DataW H → Option (List Value)
  | .lit (.int k n) => some [.int k n]
  | .lit (.bool b) => some [.bool b]
  | .lit (.string bs) => some [.string ⟨bs.toArray⟩]
  | .agg xs => flatVs xs
  | _ => none
def flatVs {H : Type} : List (DataW H) → Option (List Value)
  | [] => some []
  | x :: xs => match flatV x, flatVs xs with
    | some a, some b => some (a ++ b)
    | _, _ => none
end
theorem flatVs_get {H : Type} : ∀ {xs : List (DataW H)} {vs : List Value}, flatVs xs = some vs → ∃ css : List (List Value), css.length = xs.length ∧ css.flatten = vs ∧ ∀ (i : Nat) (x : DataW H) (c : List Value), xs[i]? = some x → css[i]? = some c → flatV x = some c
  | [], vs, h => by simp only [flatVs, Option.some.injEq] at h; subst h; exact ⟨[], rfl, rfl, fun i x c h => by simp at h⟩
  | x :: xs, vs, h => by
    simp only [flatVs] at h
    split at h
    · rename_i a b h1 h2
      simp only [Option.some.injEq] at h; subst h
      obtain ⟨css, q1, q2, q3⟩ := flatVs_get h2
      refine ⟨a :: css, by simp [q1], by simp [q2], fun i y c hy hc => ?_⟩
      cases i with
      | zero => simp at hy hc; subst hy hc; exact h1
      | succ i => exact q3 i y c (by simpa using hy) (by simpa using hc)
    · cases h

theorem lists_eq {α : Type} {a b : List (List α)} (hl : a.length = b.length) (h : ∀ (i : Nat) (x y : List α), a[i]? = some x → b[i]? = some y → x = y) : a = b := by
  refine List.ext_getElem? fun i => ?_
  rcases Nat.lt_or_ge i a.length with hi | hi
  · have h1 := List.getElem?_eq_getElem hi
    have h2 := List.getElem?_eq_getElem (show i < b.length by omega)
    rw [h1, h2, h i _ _ h1 h2]
  · rw [List.getElem?_eq_none hi, List.getElem?_eq_none (by omega)]

theorem cells_flat {H : Type} {enc : TypeId × Value → H} {P : Program} {W : World} {sp : Nat → Bool} {hd : Bool} (hl : laidOutB P = true) : ∀ (fuel : Nat) (t : TypeId) (cs : List Value) (x : DataW H × List MemPlace), isVar P t = true → DataW.trod enc P W 0 sp hd fuel t cs = some x → ∀ vs, flatV x.1 = some vs → cs = vs := by
  have hfine : ∀ t, isVar P t = true → rowFine P t = true := fun t ht => by
    have := hl
    unfold laidOutB at this
    simp only [Bool.and_eq_true, List.all_eq_true, List.mem_range] at this
    exact this.1.1 t (isVar_lt ht)
  intro fuel
  induction fuel with
  | zero => intro t cs x _ h; simp [DataW.trod] at h
  | succ fuel ih =>
    intro t cs x hv h vs hf
    have h0 := hfine t hv
    unfold rowFine at h0
    cases ht : P.underlying t with
    | none => simp [DataW.trod, ht] at h
    | some td =>
      cases td with
      | bool => obtain ⟨b, rfl, rfl⟩ := DataW.trod_bool ht h; simpa [flatV] using hf
      | int k => obtain ⟨n, rfl, rfl, _⟩ := DataW.trod_int ht h; simpa [flatV] using hf
      | string => obtain ⟨s, rfl, rfl, _⟩ := DataW.trod_string ht h; simpa [flatV] using hf
      | struct fs =>
        obtain ⟨xs, n, e, rfl, hlen, hxl, hfs⟩ := DataW.trod_struct ht h
        cases e
        rw [ht] at h0
        simp only [hv, Bool.not_true, Bool.false_or, Bool.and_eq_true, List.all_eq_true, beq_iff_eq, List.mem_range] at h0
        obtain ⟨⟨hvs, hsum⟩, hoff⟩ := h0
        obtain ⟨css, q1, q2, q3⟩ := flatVs_get (show flatVs (xs.map (·.1)) = some vs from hf)
        have hcs := cut_flatten (fs.toList.map fun f => P.cellsOf f.type) cs (by rw [hlen, hsum])
        rw [List.length_map] at hcs
        rw [← hcs, ← q2]
        congr 1
        refine lists_eq (by rw [List.length_map, List.length_range, q1, List.length_map, hxl]; simp) fun i a b ha hb => ?_
        have hilt : i < fs.toList.length := by
          rcases Nat.lt_or_ge i fs.toList.length with h | h
          · exact h
          · rw [List.getElem?_eq_none (by simpa using h)] at ha; cases ha
        rw [List.getElem?_map, List.getElem?_range hilt] at ha
        simp only [Option.map_some, Option.some.injEq] at ha
        have hf1 := List.getElem?_eq_getElem hilt
        have ho := hoff i hilt
        rw [hf1] at ho
        simp only [beq_iff_eq] at ho
        have e1 : (List.map (fun f => P.cellsOf f.type) fs.toList).getD i 0 = P.cellsOf fs.toList[i].type := by
          rw [List.getD_eq_getElem?_getD, List.getElem?_map, hf1]; rfl
        rw [e1, ← List.map_take, ← ho] at ha
        have h1 := hfs i _ (by rw [← Array.getElem?_toList]; exact hf1)
        obtain ⟨y, hy⟩ : ∃ y, xs[i]? = some y := ⟨_, List.getElem?_eq_getElem (by rw [hxl]; simpa using hilt)⟩
        rw [hy] at h1
        rw [← ha]
        exact ih _ _ _ (hvs _ (List.getElem_mem hilt)) h1 b (q3 i y.1 b (by rw [List.getElem?_map, hy]; rfl) hb)
      | array n e =>
        obtain ⟨xs, m, eq, rfl, hlen, hxl, hfs⟩ := DataW.trod_array ht h
        cases eq
        rw [ht] at h0
        simp only [hv, Bool.not_true, Bool.false_or, Bool.and_eq_true, beq_iff_eq] at h0
        obtain ⟨hve, hsum⟩ := h0
        obtain ⟨css, q1, q2, q3⟩ := flatVs_get (show flatVs (xs.map (·.1)) = some vs from hf)
        have hrs : ∀ m, (List.replicate m (P.cellsOf e)).sum = m * P.cellsOf e := fun m => by
          induction m with
          | zero => simp
          | succ m ih => rw [List.replicate_succ, List.sum_cons, ih, Nat.succ_mul, Nat.add_comm]
        have hcs := cut_flatten (List.replicate n (P.cellsOf e)) cs (by rw [hlen, hsum, hrs])
        rw [List.length_replicate] at hcs
        rw [← hcs, ← q2]
        congr 1
        refine lists_eq (by rw [List.length_map, List.length_range, q1, List.length_map, hxl]) fun i a b ha hb => ?_
        have hilt : i < n := by
          rcases Nat.lt_or_ge i n with h | h
          · exact h
          · rw [List.getElem?_eq_none (by simpa using h)] at ha; cases ha
        rw [List.getElem?_map, List.getElem?_range hilt] at ha
        simp only [Option.map_some, Option.some.injEq, List.take_replicate, hrs, Nat.min_eq_left (Nat.le_of_lt hilt)] at ha
        have e1 : (List.replicate n (P.cellsOf e)).getD i 0 = P.cellsOf e := by
          rw [List.getD_eq_getElem?_getD, List.getElem?_replicate, if_pos hilt]; rfl
        rw [e1] at ha
        have h1 := hfs i hilt
        obtain ⟨y, hy⟩ : ∃ y, xs[i]? = some y := ⟨_, List.getElem?_eq_getElem (by rw [hxl]; exact hilt)⟩
        rw [hy] at h1
        rw [← ha]
        exact ih _ _ _ hve h1 b (q3 i y.1 b (by rw [List.getElem?_map, hy]; rfl) hb)
      | _ =>
        exfalso
        unfold DataW.trod at h
        rw [ht] at h
        repeat' first
          | (cases h; done)
          | (cases h; cases hf; done)
          | (injections; done)
          | (rw [Option.map_eq_some_iff] at h; obtain ⟨y, h1, rfl⟩ := h; cases hf; done)
          | (rw [Option.bind_eq_some_iff] at h; obtain ⟨y, h1, h⟩ := h)
          | (dsimp only at h; rw [Option.bind_eq_some_iff] at h; obtain ⟨y, h1, h⟩ := h)
          | (split at h)
          | (change (if _ then _ else _) = _ at h; split at h)

theorem glob_of_laid {P : Program} (hl : laidOutB P = true) {W : World} {laid : List (String × DataW Unit)} (h : laidMetH P laid W) (hh : (laid.filter fun x => x.2.handleName?.isSome) = []) {name : String} {d : DataW Unit} {i : Nat} {t : TypeId} {vs : List Value} (hm : (name, d) ∈ laid)
    (hn : P.globalNamed name = some i) (ht : (P.globals[i]?).map (·.type) = some t) (hv : isVar P t = true) (hf : flatV d = some vs) (hone : ∀ v ∈ vs, v.oneCell' = true) : GlobR W (gInit W) i (vs.map AV.sc) := by
  unfold laidMetH at h
  rw [hh] at h
  obtain ⟨ps, hL, _, _⟩ := h
  have key : ∀ (laid : List (String × DataW Unit)) (ps : List MemPlace), DataW.LaidVars P W laid ps → (name, d) ∈ laid → ∃ cs fuel p, W.var? P name = some cs ∧ DataW.trod (fun _ => ()) P W 0 (fun _ => true) false fuel t cs.toList = some (d, p) := by
    intro laid
    induction laid with
    | nil => intro ps _ hm; simp at hm
    | cons x r ih =>
      intro ps hL hm
      obtain ⟨n, d'⟩ := x
      obtain ⟨g, t', cs, fuel, p, q, h1, h2, h3, h4, h5, _⟩ := hL
      rcases List.mem_cons.1 hm with e | hm
      · cases e
        obtain rfl : i = g := Option.some.inj (hn.symm.trans h1)
        obtain rfl : t = t' := Option.some.inj (ht.symm.trans h2)
        exact ⟨cs, fuel, p, h3, h4⟩
      · exact ih q h5 hm
  obtain ⟨cs, fuel, p, h3, h4⟩ := key laid ps hL hm
  have hcs := cells_flat hl fuel t cs.toList _ hv h4 vs hf
  unfold World.var? at h3
  rw [hn] at h3
  simp only [Option.bind_some] at h3
  split at h3
  · rename_i c T fr hheap
    simp only [Option.some.injEq] at h3; subst h3
    refine ⟨?_, c, T, fr, hheap, ?_, fun k a v ha hv' => ?_⟩
    · show i < W.heap.size
      rcases Nat.lt_or_ge i W.heap.size with h | h
      · exact h
      · rw [Array.getElem?_eq_none h] at hheap; cases hheap
    · rw [List.length_map, ← hcs]; simp
    · rw [List.getElem?_map, Option.map_eq_some_iff] at ha
      obtain ⟨u, hu, rfl⟩ := ha
      have : c.toList[k]? = some v := by simpa using hv'
      rw [hcs] at this
      rw [this] at hu; cases hu
      exact .sc _ (hone _ (List.mem_of_getElem? this))
  · cases h3
end Go.Ab
end
section
/- The abstract layer, part Bi: bits as numbers. -/
namespace Go.Ab

theorem toNat_ofInt {w : Nat} {x : Int} (h0 : 0 ≤ x) (h1 : x < 2 ^ w) : (BitVec.ofInt w x).toNat = x.toNat := by
  rw [BitVec.toNat_ofInt]
  congr 1
  rw [Int.emod_eq_of_lt h0 (by exact_mod_cast h1)]

theorem wrap_id {k : IntKind} {x : Int} (h0 : 0 ≤ x) (h1 : x < 2 ^ (k.bits - 1)) : k.wrap x = x := by
  have hb : (2 : Int) ^ (k.bits - 1) ≤ 2 ^ k.bits := by cases k <;> decide
  have hm : x % (2 ^ k.bits : Int) = x := Int.emod_eq_of_lt h0 (by omega)
  unfold IntKind.wrap
  simp only [hm]
  have : ¬ (x ≥ (2 ^ (k.bits - 1) : Int)) := by omega
  simp [this]
theorem wrap_idU {x : Int} (h0 : 0 ≤ x) (h1 : x < 256) : IntKind.u8.wrap x = x := wrapU8 h0 (by omega)

theorem iand_mask {k : IntKind} {x : Int} {m : Nat} (h0 : 0 ≤ x) (h1 : x < 2 ^ k.bits) (hm : m ≤ k.bits - 1) : iand k x (2 ^ m - 1) = x % 2 ^ m := by
  have hb : (2 : Int) ^ m ≤ 2 ^ (k.bits - 1) := by exact_mod_cast Nat.pow_le_pow_right (by decide) hm
  have hb2 : (2 : Int) ^ (k.bits - 1) ≤ 2 ^ k.bits := by cases k <;> decide
  have hp : (0 : Int) < 2 ^ m := Int.pow_pos (by decide)
  have e : ((2 : Int) ^ m - 1).toNat = 2 ^ m - 1 := by
    have : (2 : Int) ^ m = ((2 ^ m : Nat) : Int) := by norm_cast
    omega
  unfold iand
  rw [BitVec.toNat_and, toNat_ofInt h0 h1, toNat_ofInt (by omega) (by omega), e, Nat.and_two_pow_sub_one_eq_mod]
  have hx : ((x.toNat % 2 ^ m : Nat) : Int) = x % 2 ^ m := by
    rw [Int.natCast_emod, Int.toNat_of_nonneg h0]; norm_cast
  rw [hx]
  exact wrap_id (Int.emod_nonneg _ (by omega)) (by have := Int.emod_lt_of_pos x hp; omega)

theorem ior_add {k : IntKind} {a b : Int} {i : Nat} (ha : 0 ≤ a) (hb : 0 ≤ b) (hb1 : b < 2 ^ i) (hs : a * 2 ^ i + b < 2 ^ (k.bits - 1)) : ior k (a * 2 ^ i) b = a * 2 ^ i + b := by
  have hb2 : (2 : Int) ^ (k.bits - 1) ≤ 2 ^ k.bits := by cases k <;> decide
  have hp : (0 : Int) < 2 ^ i := Int.pow_pos (by decide)
  have hai : 0 ≤ a * 2 ^ i := Int.mul_nonneg ha (by omega)
  unfold ior
  rw [BitVec.toNat_or, toNat_ofInt hai (by omega), toNat_ofInt hb (by omega)]
  have e1 : (a * 2 ^ i).toNat = a.toNat <<< i := by
    rw [Nat.shiftLeft_eq]
    have : a * 2 ^ i = ((a.toNat * 2 ^ i : Nat) : Int) := by
      rw [Int.natCast_mul, Int.toNat_of_nonneg ha]; norm_cast
    omega
  have e2 : b.toNat < 2 ^ i := by
    have : (2 : Int) ^ i = ((2 ^ i : Nat) : Int) := by norm_cast
    omega
  rw [e1, ← Nat.shiftLeft_add_eq_or_of_lt e2, ← e1]
  have e3 : (((a * 2 ^ i).toNat + b.toNat : Nat) : Int) = a * 2 ^ i + b := by omega
  rw [e3]
  exact wrap_id (by omega) hs
theorem ior_comm (k : IntKind) (a b : Int) : ior k a b = ior k b a := by unfold ior; rw [BitVec.or_comm]
end Go.Ab
end
section
/- The abstract layer, part Lg: rules for boxes and rows. -/
namespace Go.Ab

def allC (b j : Nat) : List (Nat × AV) → Bool
  | [] => true
  | p :: s => if p.2.hasCel b j then false else allC b j s
def allK (k : Nat) : List (Nat × AV) → Bool
  | [] => true
  | p :: s => if p.2.hasOwn k then false else allK k s
theorem only_true {α : Type} {p : Nat → α → Bool} {l : List (Nat × α)} (hp : ∀ x ∈ l, p x.1 x.2 = true) : only p l = l := by
  unfold only bad
  have : l.filter (fun x => !p x.1 x.2) = [] := by
    rw [List.filter_eq_nil_iff]; intro x hx; simp [hp x hx]
  rw [this]; simp
theorem allC_mem {b j : Nat} : ∀ {s : List (Nat × AV)}, allC b j s = true → ∀ x ∈ s, (!x.2.hasCel b j) = true
  | [], _, x, hx => by cases hx
  | p :: s, h, x, hx => by
    unfold allC at h
    split at h
    · cases h
    · rename_i hn
      rcases List.mem_cons.1 hx with rfl | hx
      · simpa using hn
      · exact allC_mem h x hx
theorem allK_mem {k : Nat} : ∀ {s : List (Nat × AV)}, allK k s = true → ∀ x ∈ s, (!x.2.hasOwn k) = true
  | [], _, x, hx => by cases hx
  | p :: s, h, x, hx => by
    unfold allK at h
    split at h
    · cases h
    · rename_i hn
      rcases List.mem_cons.1 hx with rfl | hx
      · simpa using hn
      · exact allK_mem h x hx
def onlyCB (b j : Nat) (s : List (Nat × AV)) : Bool → List (Nat × AV)
  | true => s
  | false => s.filter fun x => !(bad (fun _ v => !v.hasCel b j) s).contains x.1
def onlyKB (k : Nat) (s : List (Nat × AV)) : Bool → List (Nat × AV)
  | true => s
  | false => s.filter fun x => !(bad (fun _ v => !v.hasOwn k) s).contains x.1
theorem only_cel (b j : Nat) (s : List (Nat × AV)) : only (fun _ v => !v.hasCel b j) s = onlyCB b j s (allC b j s) := by
  cases h : allC b j s with
  | true => exact only_true fun x hx => allC_mem h x hx
  | false => rfl
theorem only_own (k : Nat) (s : List (Nat × AV)) : only (fun _ v => !v.hasOwn k) s = onlyKB k s (allK k s) := by
  cases h : allK k s with
  | true => exact only_true fun x hx => allK_mem h x hx
  | false => rfl

/-- Boxes. -/
theorem ax : (∀ k n, (Value.int k n).oneCell' = true) ∧ (∀ b, (Value.bool b).oneCell' = true) ∧ (∀ s, (Value.string s).oneCell' = true) ∧ (type_of% @ASt.leaves.eq_def) ∧ (∀ (st : ASt) k n, st.oneLeaf (.sc (.int k n)) = true) ∧ (∀ (st : ASt) b, st.oneLeaf (.sc (.bool b)) = true) ∧ (∀ (st : ASt) s, st.oneLeaf (.sc (.string s)) = true) ∧ (∀ (st : ASt) n l, st.oneLeaf (.sl n l) = true) ∧ (∀ (st : ASt) n l, st.oneLeaf (.slx n l) = true) ∧ (∀ (st : ASt), st.oneLeaf .nil = true) ∧ (∀ (st : ASt) b o, st.oneLeaf (.bp b o) = true) ∧ (∀ (st : ASt) f x c, st.oneLeaf (.fn f x c) = true) ∧
    (∀ (st : ASt) k, st.oneLeaf (.own k) = (get st.r k).isSome) ∧ (type_of% @ASt.adoptL.eq_1) ∧ (type_of% @ASt.adoptL.eq_2) ∧ (type_of% @ASt.adopt.eq_def) ∧ (type_of% @ASt.newB.eq_def) ∧ (type_of% @ASt.setC.eq_def) ∧ (type_of% @setCell.eq_def) ∧ (type_of% @AV.leafOk.eq_def) ∧ (type_of% @ASt.storeL.eq_1) ∧ (type_of% @ASt.storeL.eq_2) ∧ (type_of% @isCel.eq_def) ∧ (type_of% @ASt.cellAt.eq_def) ∧ (type_of% @ASt.deadC.eq_def) ∧ (type_of% @only_cel) ∧ (type_of% @only_own) ∧
    (∀ b j s, onlyCB b j s true = s) ∧ (∀ k s, onlyKB k s true = s) ∧ (∀ b j, allC b j [] = true) ∧ (∀ b j p s, allC b j (p :: s) = if p.2.hasCel b j then false else allC b j s) ∧ (∀ k, allK k [] = true) ∧ (∀ k p s, allK k (p :: s) = if p.2.hasOwn k then false else allK k s) ∧
    (∀ b j v, (AV.sc v).hasCel b j = false) ∧ (∀ b j, AV.nil.hasCel b j = false) ∧ (∀ b j n l, (AV.sl n l).hasCel b j = false) ∧ (∀ b j n l, (AV.slx n l).hasCel b j = false) ∧ (∀ b j k o, (AV.bp k o).hasCel b j = false) ∧ (∀ b j c, (AV.rp c).hasCel b j = false) ∧ (∀ b j k, (AV.own k).hasCel b j = false) ∧ (∀ b j k i n o, (AV.ep k i n o).hasCel b j = false) ∧ (∀ b j b' j', (AV.ocl b' j').hasCel b j = (b' == b && j' == j)) ∧ (∀ b j b' j' i n o, (AV.ec b' j' i n o).hasCel b j = (b' == b && j' == j)) ∧ (∀ b j cs, (AV.agg cs).hasCel b j = hasCelL b j cs) ∧ (∀ b j cs, (AV.tup cs).hasCel b j = hasCelL b j cs) ∧ (∀ b j f x c, (AV.fn f x c).hasCel b j = (hasCelL b j x || hasCelL b j c)) ∧ (type_of% @hasCelL.eq_1) ∧ (type_of% @hasCelL.eq_2) ∧
    (∀ k v, (AV.sc v).hasOwn k = false) ∧ (∀ k, AV.nil.hasOwn k = false) ∧ (∀ k n l, (AV.sl n l).hasOwn k = false) ∧ (∀ k n l, (AV.slx n l).hasOwn k = false) ∧ (∀ k b o, (AV.bp b o).hasOwn k = false) ∧ (∀ k c, (AV.rp c).hasOwn k = false) ∧ (∀ k k', (AV.own k').hasOwn k = (k' == k)) ∧ (∀ k k' i n o, (AV.ep k' i n o).hasOwn k = (k' == k)) ∧ (∀ k b j, (AV.ocl b j).hasOwn k = false) ∧ (∀ k b j i n o, (AV.ec b j i n o).hasOwn k = false) ∧ (∀ k cs, (AV.agg cs).hasOwn k = hasOwnL k cs) ∧ (∀ k cs, (AV.tup cs).hasOwn k = hasOwnL k cs) ∧ (∀ k f x c, (AV.fn f x c).hasOwn k = (hasOwnL k x || hasOwnL k c)) ∧ (type_of% @hasOwnL.eq_1) ∧ (type_of% @hasOwnL.eq_2) ∧
    (type_of% @ldCells.eq_1) ∧ (∀ b j v r, ldCells b j (AV.sc v :: r) = .sc v :: ldCells b (j + 1) r) ∧ (∀ b j r, ldCells b j (AV.nil :: r) = .nil :: ldCells b (j + 1) r) ∧ (∀ b j n l r, ldCells b j (AV.sl n l :: r) = .sl n l :: ldCells b (j + 1) r) ∧ (∀ b j n l r, ldCells b j (AV.ow n l :: r) = .ocl b j :: ldCells b (j + 1) r) ∧ (∀ b j k o r, ldCells b j (AV.bp k o :: r) = .bp k o :: ldCells b (j + 1) r) ∧ (∀ b j f x c r, ldCells b j (AV.fn f x c :: r) = .fn f x c :: ldCells b (j + 1) r) :=
  ⟨fun _ _ => rfl, fun _ => rfl, fun _ => rfl, @ASt.leaves.eq_def, fun _ _ _ => rfl, fun _ _ => rfl, fun _ _ => rfl, fun _ _ _ => rfl, fun _ _ _ => rfl, fun _ => rfl, fun _ _ _ => rfl, fun _ _ _ _ => rfl, fun _ _ => rfl, @ASt.adoptL.eq_1, @ASt.adoptL.eq_2, @ASt.adopt.eq_def, @ASt.newB.eq_def, @ASt.setC.eq_def, @setCell.eq_def, @AV.leafOk.eq_def, @ASt.storeL.eq_1, @ASt.storeL.eq_2, @isCel.eq_def, @ASt.cellAt.eq_def, @ASt.deadC.eq_def, @only_cel, @only_own,
    fun _ _ _ => rfl, fun _ _ => rfl, fun _ _ => rfl, fun _ _ _ _ => rfl, fun _ => rfl, fun _ _ _ => rfl,
    fun _ _ _ => rfl, fun _ _ => rfl, fun _ _ _ _ => rfl, fun _ _ _ _ => rfl, fun _ _ _ _ => rfl, fun _ _ _ => rfl, fun _ _ _ => rfl, fun _ _ _ _ _ _ => rfl, fun _ _ _ _ => rfl, fun _ _ _ _ _ _ _ => rfl, fun _ _ _ => rfl, fun _ _ _ => rfl, fun _ _ _ _ _ => rfl, @hasCelL.eq_1, @hasCelL.eq_2,
    fun _ _ => rfl, fun _ => rfl, fun _ _ _ => rfl, fun _ _ _ => rfl, fun _ _ _ => rfl, fun _ _ => rfl, fun _ _ => rfl, fun _ _ _ _ _ => rfl, fun _ _ _ => rfl, fun _ _ _ _ _ _ => rfl, fun _ _ => rfl, fun _ _ => rfl, fun _ _ _ _ => rfl, @hasOwnL.eq_1, @hasOwnL.eq_2,
    @ldCells.eq_1, fun _ _ _ _ => rfl, fun _ _ _ => rfl, fun _ _ _ _ _ => rfl, fun _ _ _ _ _ => rfl, fun _ _ _ _ _ => rfl, fun _ _ _ _ _ _ => rfl⟩
end Go.Ab
end
