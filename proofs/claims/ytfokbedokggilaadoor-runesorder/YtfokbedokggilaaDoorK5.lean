/- The abstract layer and its machine: what Go code does to lists, proved once over any program. -/
import Derived.Test.YtfokbedokggilaaDoorK4
import Derived.RangeFuncLeaves
import Derived.RangeFuncRecord
set_option linter.all false
section
/- The abstract layer, part Z: functions from their bodies. -/
namespace Go.Ab
open Go.RowKit

section
variable {C : Env} {E : Entry} {st st1 : ASt} {a : Act} {w w' : World} {g g1 : Gh}

/-- The same memory under another frame's temporaries. -/
theorem RelX.acts {X : Option Key} (h : RelX C E X st a w g) {s' : List (Nat × AV)} {vals : Array Value} (hs : ∀ t v, get s' t = some v → ∃ x, vals[t]? = some x ∧ Rv w g v x ∧ v.mb ≤ st.b.length) :
    RelX C E X { n := vals.size, s := s', r := st.r, b := st.b, l := st.l } ⟨vals, []⟩ w g := {
  size := rfl
  slots := fun t v ht => let ⟨x, h1, h2, _⟩ := hs t v ht; ⟨x, h1, h2⟩
  bx := fun t v ht => let ⟨_, _, _, h3⟩ := hs t v ht; h3
  rows := h.rows, boxes := h.boxes, crows := h.crows, disj := h.disj, mine := h.mine, kept := h.kept, stab := h.stab, stab0 := h.stab0, beta := h.beta,
  os := h.os, tape := h.tape, output := h.output, grown := h.grown, glob := h.glob.none, lpc := h.lpc }

theorem Rel.takeC (h : Rel C E st a w g) {i b j sz : Nat} {l : List AV} (hi : get st.s i = some (.ocl b j)) (hcell : st.cellAt b j = some (.ow sz l)) (k : Nat) :
    Rel C E (((st.deadC b j).newR k sz l).put i (.own k)) a w (g.setK k (g.χ b j)) := by
  have hrk := h.crows b j _ _ hcell (by simp)
  have hlv : live st g (.cel b j) = (g.χ b j).ownBlock := live_cel hcell
  have hlenb : (st.deadC b j).b.length = st.b.length := setCell_len _ _ _ _
  have hlv2 : ∀ X m, live (st.deadC b j) g X = some m → live st g X = some m ∧ X ≠ .cel b j := by
    intro X m hX
    cases X with
    | row k => exact ⟨hX, by simp⟩
    | box b' => simp only [live, hlenb] at hX ⊢; exact ⟨hX, by simp⟩
    | lp i => exact ⟨hX, by simp⟩
    | cel b' j' =>
      have hX' : live (st.setC b j .dead) g (.cel b' j') = some m := hX
      simp only [live, cellAt_setC] at hX' ⊢
      by_cases e : b' = b ∧ j' = j
      · simp [e, hcell] at hX'
      · simp only [e, if_false] at hX'; exact ⟨hX', by simpa using e⟩
  have h3k : Rel C E { st with s := only (fun _ v => !v.hasCel b j) st.s } a w g := h.killC b j
  have hcs : ∃ cs0, st.b[b]? = some cs0 := ⟨st.b[b]'(cellAt_lt hcell), by simp⟩
  obtain ⟨e, xs, ho, _⟩ := hrk.2
  have hsl : ∃ ad len cap, g.χ b j = .slice ad len cap := by
    rcases ho.2 with ⟨q1, _⟩ | ⟨_, _, _, q1, _⟩
    · exact ⟨_, _, _, q1⟩
    · exact ⟨_, _, _, q1⟩
  have h3 : Rel C E (st.deadC b j) a w g := by
    refine Rel.recell (st := { st with s := only (fun _ v => !v.hasCel b j) st.s }) h3k (b := b) (j := j) (old := .ow sz l) hcell (by simp) (fun y hy => ?_)
    obtain ⟨cs0, hcs⟩ := hcs
    obtain ⟨c', T', q1, q2, q3⟩ := h.boxes b cs0 hcs (by simp)
    have hcj : cs0[j]? = some (.ow sz l) := by simpa [ASt.cellAt, hcs] using hcell
    rw [cell_at q1] at hy
    have hq := q3 j _ y hcj hy
    simp only [CellV] at hq
    obtain ⟨ad, len, cap, e1⟩ := hsl
    exact ⟨.dead, rfl, by rw [hq, e1]; rfl, by simp [AV.mb]⟩
  have h4 : Rel C E ((st.deadC b j).kill k) a w g := h3.kill k
  have h5 := RelX.newRow (st := (st.deadC b j).kill k) (k := k) h4 (.inl rfl) (fun t u ht => kill_no ht) hrk (fun m hm => by
    have hlm : live st g (.cel b j) = some m := by rw [hlv]; exact hm
    obtain ⟨q1, q2, _⟩ := h.mine _ m hlm
    exact ⟨q1, q2, fun Y _ hY => (hlv2 Y m (live_kill hY).1).2 (h.disj _ _ m (hlv2 Y m (live_kill hY).1).1 hlm)⟩)
  have hv : Rv w (g.setK k (g.χ b j)) (.own k) (g.χ b j) := by
    have := Rv.own (w := w) (g := g.setK k (g.χ b j)) k
    simp only [Gh.setK, if_true] at this; exact this
  have h6 := RelX.put h5 (some i) hv (by simp [AV.mb])
  obtain ⟨x, e1, e2⟩ := h.slots i _ hi
  have e3 : x = g.χ b j := by cases e2; rfl
  have e4 : a.put (some i) (g.χ b j) = a := by
    unfold Act.put
    have : a.tmps.setIfInBounds i (g.χ b j) = a.tmps := by
      apply Array.ext_getElem?
      intro t
      by_cases ht : i = t
      · subst ht
        rw [Array.getElem?_setIfInBounds_self_of_lt (by
          rcases Nat.lt_or_ge i a.tmps.size with h | h
          · exact h
          · rw [Array.getElem?_eq_none h] at e1; cases e1), e1, e3]
      · rw [Array.getElem?_setIfInBounds_ne ht]
    simp only [this]
  rw [e4] at h6
  exact h6

/-- A result that is a row: under a key of its own. -/
def retRow (st : ASt) (i : Nat) : ASt := match get st.s i with
  | some (.own k) => if k < 100000 then match get st.r k with
      | some (sz, l) => st.ren k (100000 + i) sz l
      | none => st
    else st
  | some (.ocl b j) => match st.cellAt b j with
    | some (.ow sz l) => ((st.deadC b j).newR (100000 + i) sz l).put i (.own (100000 + i))
    | _ => st
  | _ => st
theorem retRow_sound (h : Rel C E st a w g) (i : Nat) : ∃ g', Rel C E (retRow st i) a w g' := by
  unfold retRow
  split
  · rename_i k hk
    split
    · rename_i hlt
      split
      · rename_i sz l hr; exact ⟨_, h.ren (by omega) hr⟩
      · exact ⟨g, h⟩
    · exact ⟨g, h⟩
  · rename_i b j hk
    split
    · rename_i sz l hc; exact ⟨_, Rel.takeC h hk hc _⟩
    · exact ⟨g, h⟩
  · exact ⟨g, h⟩
theorem retRow_len (i : Nat) : (retRow st i).b.length = st.b.length := by
  unfold retRow
  split
  · split
    · split <;> rfl
    · rfl
  · split
    · rename_i b j _ _ sz l _
      have : (((st.deadC b j).newR (100000 + i) sz l).put i (.own (100000 + i))).b.length = (st.deadC b j).b.length := by
        unfold ASt.put; split <;> rfl
      rw [this]; exact setCell_len _ _ _ _
    · rfl
  · rfl

theorem retRows_sound : ∀ (is : List Nat) {st : ASt} {g : Gh}, Rel C E st a w g → ∃ g', Rel C E (is.foldl retRow st) a w g'
  | [], _, g, h => ⟨g, h⟩
  | i :: is, _, _, h => let ⟨_, h'⟩ := retRow_sound h i; retRows_sound is h'

/-- Only the boxes that were there. -/
def ASt.trim (st : ASt) (nb : Nat) : ASt :=
  if st.b.length ≤ nb then st
  else if st.s.all (fun p => decide (p.2.mb ≤ nb)) && (st.b.take nb).all (fun cs => decide (mbL cs ≤ nb)) then { st with b := st.b.take nb } else st

theorem all_get {p : AV → Bool} : ∀ {l : List (Nat × AV)} {t : Nat} {v : AV}, l.all (fun q => p q.2) = true → get l t = some v → p v = true := fun {l t v} h hg => by
  have := List.all_eq_true.1 h _ (get_mem hg); exact this

theorem trim_rel (h : Rel C E st a w g) {nb : Nat} (hE : E.n0 ≤ nb) : Rel C E (st.trim nb) a w g := by
  unfold ASt.trim
  split
  · exact h
  · rename_i hlen
    split
    · rename_i hc
      simp only [Bool.and_eq_true] at hc
      obtain ⟨c1, c2⟩ := hc
      have hl : (st.b.take nb).length = nb := by rw [List.length_take]; omega
      have hcell : ∀ b j, (({ st with b := st.b.take nb } : ASt)).cellAt b j = if b < nb then st.cellAt b j else none := fun b j => by
        simp only [ASt.cellAt, List.getElem?_take]; split <;> rfl
      have hlv : ∀ x m, live { st with b := st.b.take nb } g x = some m → live st g x = some m := fun x m hx => by
        cases x with
        | row k => exact hx
        | box b =>
          simp only [live, hl] at hx ⊢
          split at hx
          · rename_i hb; rw [if_pos (by omega)]; exact hx
          · cases hx
        | cel b j =>
          simp only [live, hcell] at hx ⊢
          by_cases hb : b < nb
          · simp only [hb, if_true] at hx; exact hx
          · simp [hb] at hx
        | lp i => exact hx
      exact {
        size := h.size, slots := h.slots
        bx := fun t v ht => by rw [hl]; exact of_decide_eq_true (all_get (p := fun v => decide (v.mb ≤ nb)) c1 ht)
        rows := h.rows
        boxes := fun b cs hb _ => by
          simp only [List.getElem?_take] at hb
          split at hb
          · rename_i hb'
            obtain ⟨c, T, q1, q2, q3⟩ := h.boxes b cs hb (by simp)
            refine ⟨c, T, q1, q2, fun j u x hu hx => ?_⟩
            have := q3 j u x hu hx
            have hmb : u.mb ≤ nb := by
              have hm : cs ∈ st.b.take nb := List.mem_of_getElem? (by rw [List.getElem?_take, if_pos hb']; exact hb)
              exact Nat.le_trans (mbL_get hu) (of_decide_eq_true (List.all_eq_true.1 c2 cs hm))
            cases u <;> simp only [CellV] at this ⊢ <;> first | exact this | exact ⟨this.1, this.2.1, this.2.2.1, by rw [hl]; exact hmb⟩
          · cases hb
        crows := fun b j sz l hc _ => by
          rw [hcell] at hc
          split at hc
          · exact h.crows b j sz l hc (by simp)
          · cases hc
        disj := fun x y m hx hy => h.disj x y m (hlv x m hx) (hlv y m hy)
        mine := fun x m hx => h.mine x m (hlv x m hx)
        kept := h.kept, stab := h.stab, stab0 := h.stab0
        beta := ⟨by rw [hl]; exact hE, h.beta.2⟩
        os := h.os, tape := h.tape, output := h.output, grown := h.grown, glob := h.glob, lpc := h.lpc }
    · exact h

def resL (C : Env) (st : ASt) : List ResultVar → Option (List AV)
  | [] => some []
  | .tmp t :: rs => match get st.s t, resL C st rs with
    | some v, some vs => some (v :: vs)
    | _, _ => none
  | .cell t T :: rs => match (get st.s t).bind (st.ld C T), resL C st rs with
    | some v, some vs => some (v :: vs)
    | _, _ => none

/-- The state of the results. -/
def retSt (nb : Nat) (st : ASt) (vs : List AV) : ASt :=
  let st1 := (List.range vs.length).foldl retRow ⟨vs.length, zipI 0 vs, st.r, st.b, st.l⟩
  let own := ownsL (st1.s.map (·.2))
  { st1 with r := only (fun k _ => own.contains k) st1.r }.trim nb

theorem ld_ptr {T : TypeId} {v u : AV} {x : Value} (h : Rel C E st a w g) (hv : Rv w g v x) (hl : st.ld C T v = some u) : ∃ ad, x = .pointer (some ad) := by
  unfold ASt.ld at hl
  split at hl
  · simp only [Option.map_eq_some_iff] at hl
    obtain ⟨as, hr, _⟩ := hl
    obtain ⟨m, o, xs, rfl, _⟩ := range_sound h hv hr
    exact ⟨_, rfl⟩
  · simp only [Option.bind_eq_some_iff] at hl
    obtain ⟨as, hr, hu⟩ := hl
    obtain ⟨m, o, xs, rfl, _⟩ := range_sound h hv hr
    exact ⟨_, rfl⟩
  · cases hl

def resOne (tmps : Array Value) : ResultVar → Sem Value
  | .tmp t => pure (tmps.getD t undef)
  | .cell b t => do loadVar t (← asAddr (tmps.getD b undef))

theorem resL_sound (h : Rel C E st a w g) : ∀ {rs : List ResultVar} {vs : List AV}, resL C st rs = some vs → ∃ xs : List Value,
    (rs.mapM (resOne a.tmps)).run C.P w = .ok xs w ∧ xs.length = vs.length ∧ ∀ (i : Nat) (v : AV) (x : Value), vs[i]? = some v → xs[i]? = some x → Rv w g v x ∧ v.mb ≤ st.b.length
  | [], vs, hr => by simp only [resL, Option.some.injEq] at hr; subst hr; exact ⟨[], by simp, rfl, fun i v x hv => by simp at hv⟩
  | .tmp t :: rs, vs, hr => by
    unfold resL at hr
    split at hr
    · rename_i v us h1 h2
      simp only [Option.some.injEq] at hr; subst hr
      obtain ⟨xs, q1, q2, q3⟩ := resL_sound h h2
      obtain ⟨x, e1, e2⟩ := h.slots t v h1
      refine ⟨x :: xs, ?_, by simp [q2], fun i u y hu hy => ?_⟩
      · have e : a.tmps.getD t undef = x := by simp [Array.getD_eq_getD_getElem?, e1]
        simp only [List.mapM_cons, resOne, Sem.run_bind, Sem.run_pure, Result.andThen_ok, q1, e]
      · cases i with
        | zero => simp at hu hy; subst hu hy; exact ⟨e2, h.bx t _ h1⟩
        | succ i => exact q3 i u y (by simpa using hu) (by simpa using hy)
    · cases hr
  | .cell t T :: rs, vs, hr => by
    unfold resL at hr
    split at hr
    · rename_i v us h1 h2
      simp only [Option.some.injEq] at hr; subst hr
      obtain ⟨xs, q1, q2, q3⟩ := resL_sound h h2
      obtain ⟨p, hp, hld⟩ := Option.bind_eq_some_iff.1 h1
      obtain ⟨x, e1, e2⟩ := h.slots t p hp
      obtain ⟨y, f1, f2, f3⟩ := ld_sound h e2 hld
      obtain ⟨ad, rfl⟩ := ld_ptr h e2 hld
      refine ⟨y :: xs, ?_, by simp [q2], fun i u z hu hz => ?_⟩
      · have e : a.tmps.getD t undef = .pointer (some ad) := by simp [Array.getD_eq_getD_getElem?, e1]
        have f4 := f3 w rfl
        simp only [Instr.loadAt, Instr.sureAddr, Sem.run_bind, Sem.run_pure, Result.andThen_ok] at f4
        have g1 : (asAddr (.pointer (some ad))).run C.P w = .ok ad w := rfl
        simp only [List.mapM_cons, resOne, Sem.run_bind, Sem.run_pure, Result.andThen_ok, q1, e, g1, f4]
      · cases i with
        | zero => simp at hu hz; subst hu hz; exact ⟨f1, f2⟩
        | succ i => exact q3 i u z (by simpa using hu) (by simpa using hz)
    · cases hr

theorem Sh.weak {w w' : World} {N : Nat → Prop} {D : Nat} (hD : ∀ m, m ≠ D → w'.heap[m]? = w.heap[m]?) (hc : ∀ c T fr, w.heap[D]? ≠ some (.cells c T fr)) {v : AV} {x : Value} (h : Sh w N v x) : Sh w' N v x := by
  induction h with
  | sc v hv => exact .sc v hv
  | nil sz ad => exact .nil sz ad
  | sl sz l b off cap c T fr hb hh hu hs hcap _ ih => exact .sl sz l b off cap c T fr hb ((hD b (fun e => hc c T fr (e ▸ hh))).trans hh) hu hs hcap ih
theorem Rv.weak {w w' : World} {g : Gh} {D : Nat} (hD : ∀ m, m ≠ D → w'.heap[m]? = w.heap[m]?) (hc : ∀ c T fr, w.heap[D]? ≠ some (.cells c T fr)) {v : AV} {x : Value} (h : Rv w g v x) : Rv w' g v x := by
  induction h with
  | sc v => exact .sc v
  | nil => exact .nil
  | sl h => exact .sl (h.weak hD hc)
  | slx h => exact .slx (h.weak hD hc)
  | agg hl _ ih => exact .agg hl ih
  | tup hl _ ih => exact .tup hl ih
  | own k => exact .own k
  | ocl b j => exact .ocl b j
  | bp b off => exact .bp b off
  | rp hn hh hs hall => exact .rp hn ((hD _ (fun e => hc _ _ _ (e ▸ hh))).trans hh) hs fun k a v hk hv => (hall k a v hk hv).weak hD hc
  | @ep k i sz off b len cap h => exact .ep (len := len) (cap := cap) h
  | @ec b j i sz off m len cap h => exact .ec (len := len) (cap := cap) h
  | fn h1 h2 _ _ ih1 ih2 => exact .fn h1 h2 ih1 ih2
  | dead => exact .dead

/-- A mark is taken up: no deferred call was there. -/
theorem Rel.unmark (h : Rel C E st a w g) {d : Deferred} {ds : List Deferred} (ha : a.defers = d :: ds) : ∃ D w', d.target = .collected D ∧ (Instr.takeDeferred D).run C.P w = .ok [] w' ∧ Rel C E st { a with defers := ds } w' g := by
  obtain ⟨Ds, q1, q2, q3⟩ := h.glob.2
  rw [ha] at q1
  cases Ds with
  | nil => cases q1
  | cons D Ds =>
    simp only [List.map_cons, List.cons.injEq] at q1
    obtain ⟨rfl, rfl⟩ := q1
    obtain ⟨p1, p2, p3⟩ := q3 D List.mem_cons_self
    rw [List.nodup_cons] at q2
    let w' := w.putObj D (.deferred none)
    have hD : ∀ m, m ≠ D → w'.heap[m]? = w.heap[m]? := fun m hm => World.putObj_heap_other hm
    have hc : ∀ c T fr, w.heap[D]? ≠ some (.cells c T fr) := fun c T fr e => by rw [p3] at e; cases e
    have hlive : ∀ x m, live st g x = some m → m ≠ D := fun x m hx e => (h.mine x m hx).1 (e ▸ p1)
    refine ⟨D, w', rfl, run_takeDeferred p3, {
      size := h.size
      slots := fun t v ht => let ⟨x, e1, e2⟩ := h.slots t v ht; ⟨x, e1, e2.weak hD hc⟩
      bx := h.bx
      rows := fun k p hk _ => by
        obtain ⟨h0, e, xs, ho, hu, hx⟩ := h.rows k p hk (by simp)
        refine ⟨h0, e, xs, ⟨ho.1, ?_⟩, hu, fun k a x h1 h2 => (hx k a x h1 h2).weak hD hc⟩
        rcases ho.2 with h2 | ⟨m, cap, cur, h1, h2, h3, h4⟩
        · exact .inl h2
        · exact .inr ⟨m, cap, cur, h1, h2, (hD m (fun e => hc _ _ _ (e ▸ h3))).trans h3, h4⟩
      boxes := fun b cs hb _ => by
        obtain ⟨c, T, r1, r2, r3⟩ := h.boxes b cs hb (by simp)
        refine ⟨c, T, (hD _ (fun e => hc _ _ _ (e ▸ r1))).trans r1, r2, fun j u x hu hx => ?_⟩
        have := r3 j u x hu hx
        cases u <;> simp only [CellV] at this ⊢ <;> first | exact this | exact ⟨this.1.weak hD hc, this.2⟩
      crows := fun b j sz l hcell _ => by
        obtain ⟨h0, e, xs, ho, hu, hx⟩ := h.crows b j sz l hcell (by simp)
        refine ⟨h0, e, xs, ⟨ho.1, ?_⟩, hu, fun k a x h1 h2 => (hx k a x h1 h2).weak hD hc⟩
        rcases ho.2 with h2 | ⟨m, cap, cur, h1, h2, h3, h4⟩
        · exact .inl h2
        · exact .inr ⟨m, cap, cur, h1, h2, (hD m (fun e => hc _ _ _ (e ▸ h3))).trans h3, h4⟩
      disj := h.disj
      mine := fun x m hx => by have := h.mine x m hx; simpa [w'] using this
      kept := fun m hm hf => (hD m (by omega)).trans (h.kept m hm hf)
      stab := fun m hm => by have := h.stab m hm; simpa [w'] using this
      stab0 := h.stab0, beta := h.beta, os := h.os, tape := h.tape, output := h.output
      grown := by simpa [w'] using h.grown
      glob := ⟨fun i cs hi => by
        obtain ⟨h0, c, T, fr, r1, r2, r3⟩ := h.glob.1 i cs hi
        exact ⟨h0, c, T, fr, (hD i (fun e => hc _ _ _ (e ▸ r1))).trans r1, r2, fun k a v ha hv => (r3 k a v ha hv).weak hD hc⟩,
        Ds, rfl, q2.2, fun D' hD' => let ⟨s1, s2, s3⟩ := q3 D' (List.mem_cons_of_mem _ hD'); ⟨s1, s2, (hD D' (fun e => q2.1 (e ▸ hD'))).trans s3⟩⟩
      lpc := fun i p hp _ => (hD p.1 (hlive _ _ (live_lp hp))).trans (h.lpc i p hp (by simp)) }⟩

/-- All marks are taken up. -/
theorem leave_marks {F : Fence} {n : Nat} {fn : Func} {R : Ending → World → Prop} {u : FrameMode} (hu : u ≠ .run) : ∀ (ds : List Deferred) {a : Act} {w : World}, a.defers = ds → Rel C E st a w g →
    (∀ w', Rel C E st { a with defers := [] } w' g → LeavesIn F n C.P fn a.tmps R [] u w') → LeavesInM F n C.P fn a.tmps R ds u w
  | [], a, w, ha, h, hk => by
    have : a = { a with defers := [] } := by cases a; simp only at ha; rw [ha]
    rw [this] at h
    exact hk w h
  | d :: ds, a, w, ha, h, hk => by
    obtain ⟨D, w', h1, h2, h3⟩ := h.unmark ha
    exact ⟨hu, .inl ⟨D, w', h1, h2, leave_marks hu ds (a := { a with defers := ds }) rfl h3 hk⟩⟩

def bodyQ (C : Env) (fn : Func) (nb : Nat) (R : AEnd → ASt → Prop) : Exit → ASt → Prop
  | .normal, st | .ret, st => match resL C st fn.results.toList with
    | some vs => R .ret (retSt nb st vs)
    | none => False
  | .panic ch, st => ∃ p, ch = [{ v := p, recovered := false }] ∧ R (.panic p) { st with n := 0, s := [], r := [] }
  | _, _ => False

theorem body_ret (h : Rel C E st a w g) {fn : Func} {nb : Nat} (hE : E.n0 ≤ nb) {R : AEnd → ASt → Prop} {vs : List AV} (hr : resL C st fn.results.toList = some vs) (hR : R .ret (retSt nb st vs)) :
    ∃ v, (results fn a.tmps).run C.P w = .ok v w ∧ ∃ ae vals st1 g1, EndIs ae (.returned v) vals ∧ R ae st1 ∧ Rel C E st1 ⟨vals, []⟩ w g1 := by
  obtain ⟨xs, q1, q2, q3⟩ := resL_sound h hr
  have hrun : (results fn a.tmps).run C.P w = .ok (packV xs.toArray) w := by
    have e : results fn a.tmps = (do let vs ← fn.results.mapM (resOne a.tmps); pure (packV vs)) := by
      unfold results
      congr
    rw [e, Array.mapM_eq_mapM_toList]
    simp only [Sem.run_bind, Sem.run_map, q1, Result.andThen_ok, Sem.run_pure]
  have h1 := RelX.acts (s' := zipI 0 vs) (vals := xs.toArray) h (fun t v ht => by
    rw [get_zipI] at ht
    simp only [Nat.zero_le, if_true, Nat.sub_zero] at ht
    have : t < xs.length := by
      rcases Nat.lt_or_ge t vs.length with h | h
      · omega
      · rw [List.getElem?_eq_none h] at ht; cases ht
    exact ⟨xs[t], by simp [this], q3 t v xs[t] ht (by simp [this])⟩)
  have e : xs.toArray.size = vs.length := by simpa using q2
  rw [e] at h1
  obtain ⟨g', h2⟩ := retRows_sound (List.range vs.length) h1
  refine ⟨_, hrun, .ret, xs.toArray, _, g', rfl, hR, ?_⟩
  exact trim_rel (h2.less _ _ (fun _ _ ht => ht) (fun _ _ hk => (get_only hk).1)) hE

theorem ACallP.of_body {P : Entry → Prop} {f : FuncId} {fn : Func} {c : Code} {st0 : ASt} {R : AEnd → ASt → Prop} (hf : C.P.funcs[f]? = some fn) (hb : fn.body = some c) (hname : (fn.name != "runtime.NumGoroutine") = true) (hn : st0.n ≤ fn.ntmps)
    (h : AWp C ⟨none, fun E => P E ∧ E.n0 ≤ st0.b.length⟩ c (bodyQ C fn st0.b.length R) { st0 with n := fn.ntmps }) : ACallP C P f st0 R := by
  refine ⟨by simp [goFn, hf, hb, hname], fun E args w g hP hrel => ?_⟩
  refine callsIn_of_wp_marks hf hb trivial ?_
  have hsz : args.size = st0.n := hrel.size
  have h1 : Rel C E { st0 with n := fn.ntmps } { tmps := args ++ Array.replicate (fn.ntmps - args.size) undef, defers := [] } w g := {
    size := by simp; omega
    slots := fun t v ht => by
      obtain ⟨x, e1, e2⟩ := hrel.slots t v ht
      refine ⟨x, ?_, e2⟩
      rw [Array.getElem?_append_left (by
        rcases Nat.lt_or_ge t args.size with h | h
        · exact h
        · rw [Array.getElem?_eq_none h] at e1; cases e1)]
      exact e1
    bx := hrel.bx, rows := hrel.rows, boxes := hrel.boxes, crows := hrel.crows, disj := hrel.disj, mine := hrel.mine, kept := hrel.kept, stab := hrel.stab, stab0 := hrel.stab0, beta := hrel.beta,
    os := hrel.os, tape := hrel.tape, output := hrel.output, grown := hrel.grown, glob := hrel.glob, lpc := hrel.lpc }
  have hE : E.n0 ≤ st0.b.length := hrel.beta.1
  refine wpIn_mono (h E _ w g ⟨hP, hE⟩ h1) fun e a' w' hh => ?_
  obtain ⟨st, g', hq, hr⟩ := hh
  cases e with
  | normal =>
    simp only [bodyQ] at hq
    split at hq
    · rename_i vs hvs; exact leave_marks (by simp) _ rfl hr fun w2 h2 => body_ret h2 hE hvs hq
    · exact hq.elim
  | ret =>
    simp only [bodyQ] at hq
    split at hq
    · rename_i vs hvs; exact leave_marks (by simp) _ rfl hr fun w2 h2 => body_ret h2 hE hvs hq
    · exact hq.elim
  | panic ch =>
    obtain ⟨p, rfl, hR⟩ := hq
    refine leave_marks (by simp) _ rfl hr fun w2 h2 => ?_
    exact ⟨.panic p, #[], _, g', ⟨rfl, rfl⟩, hR, (RelX.acts (s' := []) (vals := #[]) h2 (fun t v ht => by simp [get] at ht)).less [] [] (fun t v ht => by simp [get] at ht) (fun t v ht => by simp [get] at ht)⟩
  | exit id => exact hq.elim
  | goto l => exact hq.elim
  | outgrown => exact hq.elim
end
end Go.Ab
end
