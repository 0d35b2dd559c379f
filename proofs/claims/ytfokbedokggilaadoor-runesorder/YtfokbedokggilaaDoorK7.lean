/- The abstract layer and its machine: what Go code does to lists, proved once over any program. -/
import Derived.Test.YtfokbedokggilaaDoorK6
import Derived.RangeFuncOwn
set_option linter.all false
section
/- The abstract layer, part La: loops over functions: records, rounds, the statement. -/
namespace Go.Ab
open Go.RowKit

theorem heap_alloc_old' (w : World) (o : Obj) (m : Nat) (hm : m < w.heap.size) : (w.alloc o).heap[m]? = w.heap[m]? := by
  exact Go.heap_alloc_old w o hm

section
variable {C : Env} {E : Entry} {st st1 : ASt} {a : Act} {w w' : World} {g g1 : Gh}

/-- The record of a loop is written. -/
theorem Rel.lpSet (h : Rel C E st a w g) {i l : Nat} {o : Obj} (hi : st.l[i]? = some (l, o)) (o' : Obj) : Rel C E { st with l := st.l.set i (l, o') } a (w.putObj l o') g := by
  have hlv : live st g (.lp i) = some l := live_lp hi
  have hlt : l < w.heap.size := (h.mine _ l hlv).2.2
  have hi' : i < st.l.length := by
    rcases Nat.lt_or_ge i st.l.length with h | h
    · exact h
    · rw [List.getElem?_eq_none h] at hi; cases hi
  have ht : RelX C E (some (.lp i)) st a (w.putObj l o') g := RelX.touch h (.lp i) (.inl rfl) (by rw [hlv]; exact grownBy_putObj' w l o')
  have hget : ∀ j, (st.l.set i (l, o'))[j]? = if j = i then some (l, o') else st.l[j]? := fun j => by
    by_cases e : j = i
    · subst e; rw [List.getElem?_set_self hi']; simp
    · rw [List.getElem?_set_ne (Ne.symm e)]; simp [e]
  have hl : ∀ x m, live { st with l := st.l.set i (l, o') } g x = some m → live st g x = some m := by
    intro x m hx
    cases x with
    | row k => exact hx
    | box b => exact hx
    | cel b j => exact hx
    | lp j =>
      simp only [live, hget] at hx ⊢
      by_cases e : j = i
      · subst e; simp only [if_true, Option.map_some] at hx; rw [hi]; exact hx
      · simp only [e, if_false] at hx; exact hx
  exact {
    size := ht.size, slots := ht.slots, bx := ht.bx
    rows := fun k p hk _ => ht.rows k p hk (by simp)
    boxes := fun b cs hb _ => ht.boxes b cs hb (by simp)
    crows := fun b j sz l hc _ => ht.crows b j sz l hc (by simp)
    disj := fun x y m hx hy => ht.disj x y m (hl x m hx) (hl y m hy)
    mine := fun x m hx => ht.mine x m (hl x m hx)
    kept := ht.kept, stab := ht.stab, stab0 := ht.stab0, beta := ht.beta, os := ht.os, tape := ht.tape, output := ht.output, grown := ht.grown, glob := ht.glob
    lpc := fun j p hp _ => by
      simp only [hget] at hp
      by_cases e : j = i
      · subst e; simp only [if_true, Option.some.injEq] at hp; subst hp
        exact World.putObj_heap_same hlt
      · simp only [e, if_false] at hp; exact ht.lpc j p hp (by simpa using fun e' => e e'.symm) }

/-- A loop is entered: the block for deferred calls, and the record. -/
theorem Rel.enterLoop (h : Rel C E st a w g) (r : Loop) :
    Rel C E { st with l := st.l ++ [(w.heap.size + 1, .loop r)] } { a with defers := [{ target := .collected w.heap.size, args := #[] }] ++ a.defers } ((w.alloc (.deferred (some []))).alloc (.loop r)) { g with N := fun m => g.N m ∨ m = w.heap.size } := by
  let w1 := w.alloc (.deferred (some []))
  let w2 := w1.alloc (.loop r)
  have hs1 : w1.heap.size = w.heap.size + 1 := by simp [w1]
  have hs2 : w2.heap.size = w.heap.size + 2 := by simp [w2, hs1]
  have hold : ∀ m, m < w.heap.size → w2.heap[m]? = w.heap[m]? := fun m hm => by
    exact (heap_alloc_old' w1 _ m (by omega)).trans (heap_alloc_old' w _ m hm)
  have hD : w2.heap[w.heap.size]? = some (.deferred (some [])) := by
    exact (heap_alloc_old' w1 _ _ (by omega)).trans (heap_alloc_new w _)
  have hL : w2.heap[w.heap.size + 1]? = some (.loop r) := by
    have := heap_alloc_new w1 (.loop r); rw [hs1] at this; exact this
  have hg : w.grownBy w2 none := ⟨rfl, rfl, rfl, by omega, fun k hk _ => hold k hk⟩
  have h1 := h.freshSh hg (show w.heap.size < w2.heap.size by omega)
  have hget : ∀ j, (st.l ++ [(w.heap.size + 1, Obj.loop r)])[j]? = if j = st.l.length then some (w.heap.size + 1, .loop r) else st.l[j]? := fun j => by
    by_cases e : j = st.l.length
    · subst e; simp
    · simp only [e, if_false]
      rcases Nat.lt_or_ge j st.l.length with h | h
      · rw [List.getElem?_append_left h]
      · rw [List.getElem?_eq_none (by simp; omega), List.getElem?_eq_none h]
  have hl : ∀ x m, live { st with l := st.l ++ [(w.heap.size + 1, Obj.loop r)] } { g with N := fun m => g.N m ∨ m = w.heap.size } x = some m → (x = .lp st.l.length ∧ m = w.heap.size + 1) ∨ (x ≠ .lp st.l.length ∧ live st { g with N := fun m => g.N m ∨ m = w.heap.size } x = some m) := by
    intro x m hx
    cases x with
    | row k => exact .inr ⟨by simp, hx⟩
    | box b => exact .inr ⟨by simp, hx⟩
    | cel b j => exact .inr ⟨by simp, hx⟩
    | lp j =>
      simp only [live, hget] at hx ⊢
      by_cases e : j = st.l.length
      · subst e; simp only [if_true, Option.map_some, Option.some.injEq] at hx; exact .inl ⟨rfl, hx.symm⟩
      · simp only [e, if_false] at hx; exact .inr ⟨by simpa using e, hx⟩
  have hlt : ∀ x m, live st { g with N := fun m => g.N m ∨ m = w.heap.size } x = some m → m < w.heap.size := fun x m hx => (h.mine x m (by cases x <;> exact hx)).2.2
  exact {
    size := h1.size, slots := h1.slots, bx := h1.bx, rows := h1.rows, boxes := h1.boxes, crows := h1.crows
    disj := fun x y m hx hy => by
      rcases hl x m hx with ⟨rfl, e1⟩ | ⟨n1, e1⟩
      · rcases hl y m hy with ⟨rfl, _⟩ | ⟨_, e2⟩
        · rfl
        · have := hlt y m e2; omega
      · rcases hl y m hy with ⟨rfl, e2⟩ | ⟨_, e2⟩
        · have := hlt x m e1; omega
        · exact h1.disj x y m e1 e2
    mine := fun x m hx => by
      rcases hl x m hx with ⟨rfl, e1⟩ | ⟨_, e1⟩
      · refine ⟨fun hn => ?_, .inr (by have := h.grown; omega), by show m < w2.heap.size; omega⟩
        rcases hn with hn | hn
        · have := (h.stab m hn).1; omega
        · omega
      · exact h1.mine x m e1
    kept := h1.kept, stab := h1.stab, stab0 := h1.stab0, beta := h1.beta, os := h1.os, tape := h1.tape, output := h1.output, grown := h1.grown
    glob := ⟨h1.glob.1, by
      obtain ⟨Ds, q1, q2, q3⟩ := h1.glob.2
      refine ⟨w.heap.size :: Ds, by simp [q1], ?_, fun D hDm => ?_⟩
      · rw [List.nodup_cons]; refine ⟨fun hin => ?_, q2⟩
        obtain ⟨Ds0, p1, p2, p3⟩ := h.glob.2
        have e : Ds = Ds0 := by
          have : Ds.map (fun D => ({ target := .collected D, args := #[] } : Deferred)) = Ds0.map (fun D => ({ target := .collected D, args := #[] } : Deferred)) := q1.symm.trans p1
          exact (List.map_inj_right (fun x y hxy => by simpa using hxy)).1 this
        have := (h.stab _ (p3 _ (e ▸ hin)).1).1
        omega
      · rcases List.mem_cons.1 hDm with rfl | hDm
        · exact ⟨.inr rfl, h.grown, hD⟩
        · exact q3 D hDm⟩
    lpc := fun j p hp _ => by
      simp only [hget] at hp
      by_cases e : j = st.l.length
      · simp only [e, if_true, Option.some.injEq] at hp; subst hp; exact hL
      · simp only [e, if_false] at hp; exact h1.lpc j p hp (by simp) }
end
end Go.Ab
end
section
/- The abstract layer, part Lb: rounds, yield, and the statement. -/
namespace Go.Ab
open Go.RowKit

/-- What an outer frame's temporaries hold, for whoever runs inside its loop. -/
def SlotsOk (s : List (Nat × AV)) (tmps : Array Value) (nb : Nat) (E : Entry) : Prop :=
  nb ≤ E.n0 ∧ ∃ g0 : Gh, (∀ m, g0.N m → E.N0 m ∧ m < E.w0.heap.size ∧ ¬ E.F0 m) ∧ (∀ b, b < nb → E.β0 b = g0.β b) ∧
    ∀ t v, get s t = some v → v.noRef = true ∧ v.mb ≤ nb ∧ ∃ x, tmps[t]? = some x ∧ Rv E.w0 g0 v x

section
variable {C : Env} {E : Entry} {st st1 : ASt} {a : Act} {w w' : World} {g g1 : Gh}

theorem SlotsOk.now {s : List (Nat × AV)} {tmps : Array Value} {nb : Nat} (h : SlotsOk s tmps nb E) (hr : Rel C E st a w g) {t : Nat} {v : AV} (ht : get s t = some v) :
    v.noRef = true ∧ v.mb ≤ st.b.length ∧ ∃ x, tmps[t]? = some x ∧ Rv w g v x := by
  obtain ⟨h0, g0, h1, h2, h3⟩ := h
  obtain ⟨q1, q2, x, q3, q4⟩ := h3 t v ht
  have hb := hr.beta
  refine ⟨q1, by omega, x, q3, q4.mono (fun m hm => ?_) (fun k hk => by rw [noRef_hasOwn k v q1] at hk; cases hk) (fun b j hk => by rw [noRef_hasCel b j v q1] at hk; cases hk) (fun b hlt => ?_)⟩
  · obtain ⟨p1, p2, p3⟩ := h1 m hm
    exact ⟨hr.stab0 m p1, hr.kept m p2 p3⟩
  · rw [← h2 b (by omega)]; exact hb.2 b (by omega)

/-- Inside a call from the round's frame it is so, too. -/
theorem SlotsOk.inner {s : List (Nat × AV)} {tmps : Array Value} {nb : Nat} (h : SlotsOk s tmps nb E) (hr : Rel C E st a w g) {E0 : Entry} (hw : E0.w0 = w) (hN : ∀ m, g.N m → E0.N0 m ∧ ¬ E0.F0 m) (hn : nb ≤ E0.n0) (hβ : ∀ b, b < nb → E0.β0 b = g.β b) : SlotsOk s tmps nb E0 := by
  refine ⟨hn, g, fun m hm => ?_, fun b hb => hβ b hb, fun t v ht => ?_⟩
  · exact ⟨(hN m hm).1, by rw [hw]; exact (hr.stab m hm).1, (hN m hm).2⟩
  · obtain ⟨q1, _, x, q3, q4⟩ := h.now hr ht
    obtain ⟨_, _, _, _, h3⟩ := h
    exact ⟨q1, (h3 t v ht).2.1, x, q3, by rw [hw]; exact q4⟩

/-- What a call of yield does: record number i. -/
def AYield (C : Env) (P : Entry → Prop) (i : Nat) (st0 : ASt) (R : AEnd → ASt → Prop) : Prop :=
  ∀ l r, st0.l[i]? = some (l, .loop r) → r.params.size = st0.n ∧ ∀ E args w g, P E → Rel C E st0 ⟨args, []⟩ w g →
    RoundIn Fence.wide 0 C.P l r.fn ((r.params.zip args).foldl (fun tmps (t, a) => tmps.setIfInBounds t a) r.tmps) r.assign r.body w fun e w' =>
      ∃ vals st1 g1, EndIs .ret e vals ∧ R .ret st1 ∧ Rel C E st1 ⟨vals, []⟩ w' g1

theorem moveArgs_nil (st : ASt) : ∀ (vs : List AV) (i : Nat), noRefL vs = true → moveArgs st [] i vs = some (vs, [], [])
  | [], _, _ => rfl
  | v :: vs, i, h => by
    simp only [noRefL, Bool.and_eq_true] at h
    simp only [moveArgs, moveArgs_nil st vs (i + 1) h.2, List.contains_nil, Bool.false_eq_true, if_false, h.1, if_true]

theorem callee_slots {s : List (Nat × AV)} {tmps : Array Value} {nb : Nat} (h : SlotsOk s tmps nb E) (hr : Rel C E st a w g) {as : List AV} {xs : Array Value} :
    SlotsOk s tmps nb (calleeE (calleeSt st as [] true) w (calleeG g xs)) := by
  refine h.inner hr rfl (fun m hm => ⟨hm, fun ⟨x, hx⟩ => ?_⟩) ?_ (fun b _ => rfl)
  · have : live st g x = some m := by
      cases x with
      | row k => simp [live, calleeSt, get] at hx
      | box b => exact hx
      | cel b j => exact hx
      | lp i => exact hx
    exact (hr.mine x m this).1 hm
  · have := hr.beta.1
    have h0 := h.1
    show nb ≤ st.b.length
    omega

/-- A call of yield. -/
theorem AOp.yield {lv : Lv} {s : List (Nat × AV)} {tmps : Array Value} {nb : Nat} (hP : ∀ E, lv.ok E → SlotsOk s tmps nb E) {o : Oper} {f : Operand} {args : Array Operand} {Ts : Array TypeId} {K : ASt → Prop} {Q : Exit → ASt → Prop} {i l : Nat} {r : Loop} {vs : List AV} {R : AEnd → ASt → Prop}
    (ho : o.op = .call { callee := .value f, args := args, argTypes := Ts }) (hf : st.ev C f = some (.fn (.yield l) [] [])) (hargs : evL C st args.toList = some vs) (hno : noRefL vs = true) (hi : st.l[i]? = some (l, .loop r))
    (hy : AYield C (SlotsOk s tmps nb) i (calleeSt st vs [] true) R) (hk : ∀ st1, R .ret st1 → match st.after [] true o.dst st1 with
      | some st2 => K st2
      | none => False) : AOp C lv o K Q st := fun E a w g hE hr => by
  have hm := moveArgs_nil st vs 0 hno
  obtain ⟨l1, l2, l3⟩ := evL_sound hr hargs
  obtain ⟨hps, hround⟩ := hy l r hi
  generalize hxs : (args.toList.map a.eval).toArray = xs
  have hx : xs.size = vs.length := by rw [← hxs]; simp [l1]
  have hv : ∀ (i : Nat) (v : AV) (x : Value), vs[i]? = some v → xs[i]? = some x → Rv w g v x := fun i v x h1 h2 => l2 i v x h1 (by rw [← hxs] at h2; simpa using h2)
  have h0 := callee_rel hr hm (pass := true) hx hv l3
  have hS := callee_slots (as := vs) (xs := xs) (hP E hE) hr
  have hfv : a.eval f = .func (.yield l) #[] #[] := by
    have := (ev_sound hr hf).1
    generalize a.eval f = z at this
    cases this
    rename_i fs cs q1 q2 q3 q4
    have e1 : fs = #[] := Array.eq_empty_of_size_eq_zero (by simpa using q1.symm)
    have e2 : cs = #[] := Array.eq_empty_of_size_eq_zero (by first | simpa using q3.symm | simpa using q2.symm)
    rw [e1, e2]
  have hheap : w.heap[l]? = some (.loop r) := hr.lpc i _ hi (by simp)
  have hsz : xs.size = r.params.size := by rw [hps, hx]; rfl
  have hrun : (o.semAt (fen lv).round a.eval).run C.P w = .ok (.round l r.fn ((r.params.zip xs).foldl (fun tmps (t, a) => tmps.setIfInBounds t a) r.tmps) r.assign r.body) w := by
    rw [Oper.semAt_eq _ _ _ (by simp [ho])]
    unfold execOp
    have e0 : (args.toList.map a.eval).toArray = args.map a.eval := by apply Array.ext'; simp
    simp only [ho, resolve, hfv, Deferred.ofValue, Sem.run_bind, Sem.run_pure, Result.andThen_ok, invoke]
    have e : #[] ++ args.map a.eval = xs := by rw [← hxs, e0]; simp
    rw [e]
    exact run_yield hheap hsz
  refine ⟨fun _ _ => trivial, ?_⟩
  rw [hrun, Oper.uponIn_round]
  refine ⟨fun hh => by simp [fen, Fence.wide] at hh, ?_⟩
  have hc : RoundIn (fen lv) (0 - 1) C.P l r.fn _ r.assign r.body w _ := hround _ xs w _ hS h0
  refine hc.mono fun e w' he => ?_
  obtain ⟨vals, st1, g1, q1, q2, q3⟩ := he
  cases e with
  | returned v =>
    simp only [EndIs] at q1; subst q1
    have hn := hk st1 q2
    split at hn
    · rename_i st2 ha
      obtain ⟨g2, hrel⟩ := after_rel hr hm hx hv q3 ha
      exact ⟨st2, g2, hn, hrel⟩
    · exact hn.elim
  | panicked ch => exact q1.elim
  | outgrown => exact q1.elim

end
end Go.Ab
end
section
/- The abstract layer, part Lc: rounds from their bodies; the statement. -/
namespace Go.Ab
open Go.RowKit

def putL : ASt → List Nat → List AV → ASt
  | st, p :: ps, v :: vs => putL (st.put p v) ps vs
  | st, _, _ => st

def roundSt (nb i l : Nat) (r : Loop) (b : Bool) (st : ASt) : ASt := ASt.trim { n := 1, s := [(0, .sc (.bool b))], r := [], b := st.b, l := st.l.set i (l, .loop r) } nb

/-- What a round's end is to come to. -/
def roundQ (i l : Nat) (r : Loop) (nb : Nat) (R : AEnd → ASt → Prop) : Exit → ASt → Prop
  | .normal, st => st.l[i]? = some (l, .loop { r with state := .busy }) ∧ R .ret (roundSt nb i l { r with state := .ready, pending := none } true st)
  | .ret, st => st.l[i]? = some (l, .loop { r with state := .busy }) ∧ R .ret (roundSt nb i l { r with state := .done, pending := some .ret } false st)
  | .exit id, st => st.l[i]? = some (l, .loop { r with state := .busy }) ∧ R .ret (roundSt nb i l { r with state := .done, pending := some (.exit id) } false st)
  | .goto t, st => st.l[i]? = some (l, .loop { r with state := .busy }) ∧ R .ret (roundSt nb i l { r with state := .done, pending := some (.goto t) } false st)
  | _, _ => False

section
variable {C : Env} {E : Entry} {st st1 : ASt} {a : Act} {w w' : World} {g g1 : Gh}

theorem putL_sound : ∀ {ps : List Nat} {vs : List AV} {xs : List Value} {st : ASt} {a : Act}, Rel C E st a w g → vs.length = xs.length → (∀ (i : Nat) (v : AV) (x : Value), vs[i]? = some v → xs[i]? = some x → Rv w g v x ∧ v.mb ≤ st.b.length) →
    Rel C E (putL st ps vs) { a with tmps := (ps.zip xs).foldl (fun t (p : Nat × Value) => t.setIfInBounds p.1 p.2) a.tmps } w g
  | [], vs, xs, st, a, h, _, _ => by simpa [putL] using h
  | p :: ps, [], xs, st, a, h, hl, _ => by
    have : xs = [] := List.eq_nil_of_length_eq_zero (by simpa using hl.symm)
    subst this; simpa [putL] using h
  | p :: ps, v :: vs, [], st, a, h, hl, _ => by simp at hl
  | p :: ps, v :: vs, x :: xs, st, a, h, hl, hv => by
    have h1 := RelX.put h (some p) (hv 0 v x rfl rfl).1 (hv 0 v x rfl rfl).2
    have hb : (st.putO (some p) v).b = st.b := by show (st.put p v).b = st.b; unfold ASt.put; split <;> rfl
    have h2 := putL_sound (ps := ps) (vs := vs) (xs := xs) h1 (by simpa using hl) (fun i u y hu hy => by rw [hb]; exact hv (i + 1) u y (by simpa using hu) (by simpa using hy))
    simpa [putL, Act.put, ASt.putO] using h2

theorem round_end (h : Rel C E st a w g) {i l nb : Nat} {r : Loop} (hi : st.l[i]? = some (l, .loop r)) (hE : E.n0 ≤ nb) (jump : Option Code) {R : AEnd → ASt → Prop}
    (hR : R .ret (roundSt nb i l { r with state := if jump.isNone then .ready else .done, pending := jump } jump.isNone st)) :
    ∃ v w', (Instr.endRound l jump).run C.P w = .ok v w' ∧ ∃ vals st1 g1, EndIs .ret (.returned v) vals ∧ R .ret st1 ∧ Rel C E st1 ⟨vals, []⟩ w' g1 := by
  refine ⟨_, _, run_endRound jump (h.lpc i _ hi (by simp)), #[.bool jump.isNone], _, g, rfl, hR, ?_⟩
  have h1 := h.lpSet hi (.loop { r with state := if jump.isNone then .ready else .done, pending := jump })
  have h2 := RelX.acts (s' := [(0, .sc (.bool jump.isNone))]) (vals := #[.bool jump.isNone]) h1 (fun t v ht => by
    simp only [get] at ht
    split at ht
    · rename_i e; subst e
      simp only [Option.some.injEq] at ht; subst ht
      exact ⟨_, rfl, .sc _, by simp [AV.mb]⟩
    · cases ht)
  exact trim_rel (h2.less _ [] (fun _ _ ht => ht) (fun _ _ hk => by simp [get] at hk)) hE

theorem AYield.of_body {s : List (Nat × AV)} {nb i l : Nat} {r : Loop} {vs : List AV} {bs : List (List AV)} {ls : List (Nat × Obj)} {R : AEnd → ASt → Prop} {ps : List Nat} (hl : ls[i]? = some (l, .loop r)) (hst : r.state = .ready)
    (hps : r.params.toList = ps) (hlen : ps.length = vs.length)
    (h : AWp C ⟨some l, fun E => SlotsOk s r.tmps nb E ∧ E.n0 ≤ bs.length⟩ r.assign (AThen (fun st1 => st1.l[i]? = some (l, .loop r) ∧
      AWp C ⟨some l, fun E => SlotsOk s r.tmps nb E ∧ E.n0 ≤ bs.length⟩ r.body (roundQ i l r bs.length R) { st1 with l := st1.l.set i (l, .loop { r with state := .busy }) }) (fun _ _ => False))
      (putL ⟨r.tmps.size, s, [], bs, ls⟩ ps vs)) : AYield C (SlotsOk s r.tmps nb) i ⟨vs.length, zipI 0 vs, [], bs, ls⟩ R := by
  intro l' r' hl'
  rw [hl] at hl'
  simp only [Option.some.injEq, Prod.mk.injEq, Obj.loop.injEq] at hl'
  obtain ⟨rfl, rfl⟩ := hl'
  have hsz : r.params.size = vs.length := by rw [← hlen, ← hps]; simp
  refine ⟨hsz, fun E args w g hP hrel => ?_⟩
  have hE : E.n0 ≤ bs.length := hrel.beta.1
  have hargs : args.size = vs.length := hrel.size
  have h0 : Rel C E ⟨r.tmps.size, s, [], bs, ls⟩ ⟨r.tmps, []⟩ w g :=
    (RelX.acts (s' := s) (vals := r.tmps) hrel (fun t v ht => by
      obtain ⟨_, q2, x, q3, q4⟩ := hP.now hrel ht
      exact ⟨x, q3, q4, q2⟩)).less s [] (fun _ _ ht => ht) (fun _ _ hk => by simp [get] at hk)
  have h1 := putL_sound (ps := ps) (vs := vs) (xs := args.toList) h0 (by simp [hargs]) (fun j v x hv hx => by
    have hj : get (zipI 0 vs) j = some v := by rw [get_zipI]; simpa using hv
    obtain ⟨y, e1, e2⟩ := hrel.slots j v hj
    have e3 : y = x := by
      rw [Array.getElem?_toList] at hx; rw [hx] at e1; exact (Option.some.inj e1).symm
    exact ⟨e3 ▸ e2, hrel.bx j v hj⟩)
  have et : (r.params.zip args).foldl (fun tmps (t, a) => tmps.setIfInBounds t a) r.tmps = (ps.zip args.toList).foldl (fun t (p : Nat × Value) => t.setIfInBounds p.1 p.2) r.tmps := by
    rw [← Array.foldl_toList, Array.toList_zip, hps]
  rw [et]
  refine roundIn_of_wpIn trivial ?_
  refine wpIn_mono (h E _ w g ⟨hP, hE⟩ h1) fun e a1 w1 hh => ?_
  obtain ⟨st1, g1, q1, q2⟩ := hh
  cases e with
  | normal =>
    obtain ⟨hi, hb⟩ := q1
    refine ⟨_, run_beginRound (q2.lpc i _ hi (by simp)) hst, ?_⟩
    have q3 := q2.lpSet hi (.loop { r with state := .busy })
    refine wpIn_mono (hb E a1 _ g1 ⟨hP, hE⟩ q3) fun e2 a2 w2 hh2 => ?_
    obtain ⟨st2, g2, p1, p2⟩ := hh2
    cases e2 with
    | normal => exact round_end p2 p1.1 hE none p1.2
    | ret => exact round_end p2 p1.1 hE (some .ret) p1.2
    | exit id => exact round_end p2 p1.1 hE (some (.exit id)) p1.2
    | goto t => exact round_end p2 p1.1 hE (some (.goto t)) p1.2
    | panic ch => exact p1.elim
    | outgrown => exact p1.elim
  | exit id => exact q1.elim
  | goto t => exact q1.elim
  | ret => exact q1.elim
  | panic ch => exact q1.elim
  | outgrown => exact q1.elim

theorem Rel.lpDrop {l0 l1 : List (Nat × Obj)} (h : Rel C E { st with l := l0 ++ l1 } a w g) : Rel C E { st with l := l0 } a w g := by
  have hg : ∀ {j : Nat} {p : Nat × Obj}, l0[j]? = some p → (l0 ++ l1)[j]? = some p := fun {j p} hj => by
    rw [List.getElem?_append_left (by
      rcases Nat.lt_or_ge j l0.length with h | h
      · exact h
      · rw [List.getElem?_eq_none h] at hj; cases hj)]
    exact hj
  have hl : ∀ x m, live { st with l := l0 } g x = some m → live { st with l := l0 ++ l1 } g x = some m := fun x m hx => by
    cases x with
    | row k => exact hx
    | box b => exact hx
    | cel b j => exact hx
    | lp j =>
      simp only [live, Option.map_eq_some_iff] at hx ⊢
      obtain ⟨p, h1, h2⟩ := hx
      exact ⟨p, hg h1, h2⟩
  exact {
    size := h.size, slots := h.slots, bx := h.bx, rows := h.rows, boxes := h.boxes, crows := h.crows
    disj := fun x y m hx hy => h.disj x y m (hl x m hx) (hl y m hy)
    mine := fun x m hx => h.mine x m (hl x m hx)
    kept := h.kept, stab := h.stab, stab0 := h.stab0, beta := h.beta, os := h.os, tape := h.tape, output := h.output, grown := h.grown, glob := h.glob
    lpc := fun j p hp hne => h.lpc j p (hg hp) hne }

def noRefS (s : List (Nat × AV)) : List (Nat × AV) := only (fun _ v => v.noRef) s

/-- The state behind a loop over a function. -/
def ASt.behind (st st1 : ASt) : ASt := ASt.trim { ((st.left [] true).back true 0 { st1 with s := [], r := [] }) with l := st.l } st.b.length

theorem AWp.rangeFunc {ok : Entry → Prop} {f : Operand} {ps : Array Tmp} {assign body : Code} {Q : Exit → ASt → Prop} {gf : FuncId} {cap : List AV} (hf : st.ev C f = some (.fn (.func gf) [] cap)) (hno : noRefL cap = true)
    (hcall : ∀ (l : Nat) (r : Loop), r.state = .ready → r.pending = none → r.params = ps → r.assign = assign → r.body = body → r.tmps.size = st.n →
      ∃ R, ACallP C (SlotsOk (noRefS st.s) r.tmps st.b.length) gf ⟨cap.length + 1, zipI 0 (.fn (.yield l) [] [] :: cap), [], st.b, st.l ++ [(l, .loop r)]⟩ R ∧
        ∀ ae st1, R ae st1 → ae = .ret ∧ ∃ r1 : Loop, st1.l = st.l ++ [(l, .loop r1)] ∧ r1.state ≠ .busy ∧ match r1.pending with
          | none => Q .normal (st.behind st1)
          | some c => AWp C ⟨none, ok⟩ c Q (st.behind st1)) : AWp C ⟨none, ok⟩ (.rangeFunc f ps assign body) Q st := fun E a w g hE hr => by
  refine wpIn_rangeFunc fun fn _ => ?_
  obtain ⟨r, hrec⟩ : ∃ r : Loop, r = { state := .ready, pending := none, fn, tmps := a.tmps, params := ps, assign, body, defers := w.heap.size } := ⟨_, rfl⟩
  obtain ⟨R, ⟨hgo, hc⟩, hR⟩ := hcall (w.heap.size + 1) r (by rw [hrec]) (by rw [hrec]) (by rw [hrec]) (by rw [hrec]) (by rw [hrec]) (by rw [hrec]; exact hr.size)
  have hr1 := hr.enterLoop r
  have hfv := ev_sound hr1 (x := f) (v := .fn (.func gf) [] cap) (by cases f <;> exact hf)
  generalize hz : a.eval f = z at hfv
  have hz' : Act.eval { a with defers := [{ target := .collected w.heap.size, args := #[] }] ++ a.defers } f = z := by rw [← hz]; cases f <;> rfl
  rw [hz'] at hfv
  obtain ⟨capv, e0, ecap, hcv⟩ : ∃ capv : Array Value, z = .func (.func gf) #[] capv ∧ cap.length = capv.size ∧ ∀ (i : Nat) (v : AV) (x : Value), cap[i]? = some v → capv[i]? = some x → Rv ((w.alloc (.deferred (some []))).alloc (.loop r)) { g with N := fun m => g.N m ∨ m = w.heap.size } v x := by
    obtain ⟨h1, _⟩ := hfv
    cases h1
    rename_i fs cs q1 q2 q3 q4
    have e1 : fs = #[] := Array.eq_empty_of_size_eq_zero (by simpa using q1.symm)
    subst e1
    exact ⟨cs, rfl, q3, q4⟩
  have hcb : mbL cap ≤ st.b.length := by have := hfv.2; simp only [AV.mb, mbL] at this; omega
  have hm := moveArgs_nil { st with l := st.l ++ [(w.heap.size + 1, .loop r)] } (.fn (.yield (w.heap.size + 1)) [] [] :: cap) 0 (by simp only [noRefL, AV.noRef, Bool.true_and]; exact hno)
  generalize hxs : #[Value.func (.yield (w.heap.size + 1)) #[] #[]] ++ capv = xs
  have hx : xs.size = (AV.fn (.yield (w.heap.size + 1)) [] [] :: cap).length := by rw [← hxs]; simp; omega
  have hv : ∀ (i : Nat) (v : AV) (x : Value), (AV.fn (.yield (w.heap.size + 1)) [] [] :: cap)[i]? = some v → xs[i]? = some x → Rv ((w.alloc (.deferred (some []))).alloc (.loop r)) { g with N := fun m => g.N m ∨ m = w.heap.size } v x := fun i v x h1 h2 => by
    cases i with
    | zero =>
      rw [← hxs, Array.getElem?_append_left (by simp)] at h2
      simp at h1 h2; subst h1 h2
      exact .fn rfl rfl (fun i a v h => by simp at h) (fun i a v h => by simp at h)
    | succ i =>
      rw [← hxs] at h2
      refine hcv i v x (by simpa using h1) ?_
      rw [Array.getElem?_append_right (by simp)] at h2
      simpa using h2
  have h0 := callee_rel hr1 hm (pass := true) hx hv (by simp only [mbL, AV.mb]; simp; omega)
  have hS : SlotsOk (noRefS st.s) r.tmps st.b.length (calleeE (calleeSt { st with l := st.l ++ [(w.heap.size + 1, .loop r)] } (.fn (.yield (w.heap.size + 1)) [] [] :: cap) [] true) ((w.alloc (.deferred (some []))).alloc (.loop r)) (calleeG { g with N := fun m => g.N m ∨ m = w.heap.size } xs)) := by
    refine ⟨Nat.le_refl _, { g with N := fun m => g.N m ∨ m = w.heap.size }, fun m hm => ⟨hm, (hr1.stab m hm).1, fun ⟨x, hx⟩ => ?_⟩, fun b _ => rfl, fun t v ht => ?_⟩
    · have : live { st with l := st.l ++ [(w.heap.size + 1, Obj.loop r)] } { g with N := fun m => g.N m ∨ m = w.heap.size } x = some m := by
        cases x with
        | row k => simp [live, calleeSt, get] at hx
        | box b => exact hx
        | cel b j => exact hx
        | lp i => exact hx
      exact (hr1.mine x m this).1 hm
    · obtain ⟨p1, p2⟩ := get_only ht
      obtain ⟨x, e1, e2⟩ := hr1.slots t v p1
      exact ⟨p2, hr.bx t v p1, x, by rw [hrec]; exact e1, e2⟩
  refine ⟨w.heap.size + 1, [{ target := .collected w.heap.size, args := #[] }], (w.alloc (.deferred (some []))).alloc (.loop r), { target := .fn (.func gf) capv, args := #[.func (.yield (w.heap.size + 1)) #[] #[]] }, (w.alloc (.deferred (some []))).alloc (.loop r), gf, xs, (w.alloc (.deferred (some []))).alloc (.loop r), ?_, ?_, fun _ _ => trivial, ?_, fun hh => by simp [fen, Fence.wide] at hh, ?_⟩
  · rw [hrec]; exact run_enterLoop_outer _ _ _ _ _
  · have e4 : resolve a.eval (rangeCall f (w.heap.size + 1)) 0 = Deferred.ofValue (a.eval f) (#[Operand.const (.func (.yield (w.heap.size + 1)) #[] #[])].map a.eval) := rfl
    rw [e4, hz, e0]
    simp [Deferred.ofValue, Act.eval]
  · simp only [invoke, hxs]; exact callFunc_go hgo xs _
  · have hc' : CallsIn (fen ⟨none, ok⟩) (0 - 1) C.P gf xs ((w.alloc (.deferred (some []))).alloc (.loop r)) _ := hc _ xs _ _ hS h0
    refine hc'.mono fun e w' he => ?_
    obtain ⟨ae, vals, st1, g1, q1, q2, q3⟩ := he
    obtain ⟨rfl, r1, hl1, hb1, hn⟩ := hR ae st1 q2
    cases e with
    | returned v =>
      have hback := back_rel hr1 hm hx hv (bare_rel q3) 0
      have hi : (st.l ++ [(w.heap.size + 1, Obj.loop r1)])[st.l.length]? = some (w.heap.size + 1, .loop r1) := by simp
      have hi' : ((({ st with l := st.l ++ [(w.heap.size + 1, Obj.loop r)] } : ASt).left [] true).back true 0 { st1 with s := [], r := [] }).l[st.l.length]? = some (w.heap.size + 1, .loop r1) := by
        show st1.l[st.l.length]? = _
        rw [hl1]; exact hi
      refine ⟨r1.pending, _, run_endLoop (hback.lpc _ _ hi' (by simp)) hb1, ?_⟩
      have h2 := hback.lpSet hi' (.loop { r1 with state := .exhausted })
      have e3 : ((({ st with l := st.l ++ [(w.heap.size + 1, Obj.loop r)] } : ASt).left [] true).back true 0 { st1 with s := [], r := [] }).l.set st.l.length (w.heap.size + 1, Obj.loop { r1 with state := .exhausted }) = st.l ++ [(w.heap.size + 1, Obj.loop { r1 with state := .exhausted })] := by
        show st1.l.set _ _ = _
        rw [hl1]; simp
      rw [e3] at h2
      have h3 := Rel.lpDrop h2
      have h4 := trim_rel h3 (nb := st.b.length) (hr.beta.1)
      have h5 : Rel C E (st.behind st1) { a with defers := [{ target := .collected w.heap.size, args := #[] }] ++ a.defers } _ _ := h4
      cases hp : r1.pending with
      | none => rw [hp] at hn h5; exact ⟨_, _, hn, h5⟩
      | some c => rw [hp] at hn h5; exact hn E _ _ _ hE h5
    | panicked ch => exact q1.elim
    | outgrown => exact q1.elim
end
end Go.Ab
end
