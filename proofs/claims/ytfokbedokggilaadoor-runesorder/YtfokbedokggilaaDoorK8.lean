/- The abstract layer and its machine: what Go code does to lists, proved once over any program. -/
import Derived.Test.YtfokbedokggilaaDoorK7
import Derived.Sort.QuietThIn
set_option linter.all false
section
/- The abstract layer, part Ld: regions whose order is drawn, where the operations leave all as it is. -/
namespace Go.Ab
open Go.RowKit

def popO (C : Env) (st : ASt) (o : Oper) : Option AV → Option AV
  | some v => some v
  | none => plain C st o
def popN (C : Env) (st : ASt) (o : Oper) : Option AV → Option AV
  | some v => some v
  | none => popO C st o (pop1 C st o)
/-- An operation that leaves all as it is. -/
def popQ (C : Env) (st : ASt) (o : Oper) : Option AV := popN C st o (pop2 C st o)

section
variable (C : Env) (ops : Array Oper) (K : ASt → Prop)
def DQ : List Oper → ASt → Prop
  | [], st => K st
  | o :: os, st => match guardL ops.toList st o.guard with
    | some b => if b then match popQ C st o with
        | some v => DQ os (st.putO o.dst v)
        | none => False
      else DQ os (st.putO o.dst (.sc undef))
    | none => False
def DQG (o : Oper) (os : List Oper) (st : ASt) : Option Bool → Prop
  | some b => if b then match popQ C st o with
      | some v => DQ C ops K os (st.putO o.dst v)
      | none => False
    else DQ C ops K os (st.putO o.dst (.sc undef))
  | none => False
def DQB (o : Oper) (os : List Oper) (st : ASt) (b : Bool) : Prop := DQG C ops K o os st (some b)
def DQP (o : Oper) (os : List Oper) (st : ASt) : Option AV → Prop
  | some v => DQ C ops K os (st.putO o.dst v)
  | none => False
def DQ2 (o : Oper) (os : List Oper) (st : ASt) (v : Option AV) : Prop := DQP C ops K o os st (popN C st o v)
def DQ1 (o : Oper) (os : List Oper) (st : ASt) (v : Option AV) : Prop := DQP C ops K o os st (popO C st o v)
theorem dq_nil (st : ASt) : DQ C ops K [] st = K st := by simp only [DQ]
theorem dq_cons (o : Oper) (os : List Oper) (st : ASt) : DQ C ops K (o :: os) st = DQG C ops K o os st (guardL ops.toList st o.guard) := by
  simp only [DQ, DQG]
theorem dqg_some (o : Oper) (os : List Oper) (st : ASt) (b : Bool) : DQG C ops K o os st (some b) = DQB C ops K o os st b := rfl
theorem dqb_true (o : Oper) (os : List Oper) (st : ASt) : DQB C ops K o os st true = DQ2 C ops K o os st (pop2 C st o) := by
  simp only [DQB, DQG, if_true, DQ2, DQP, popQ]
theorem dqb_false (o : Oper) (os : List Oper) (st : ASt) : DQB C ops K o os st false = DQ C ops K os (st.putO o.dst (.sc undef)) := by
  simp only [DQB, DQG, Bool.false_eq_true, if_false]
theorem dq2_some (o : Oper) (os : List Oper) (st : ASt) (v : AV) : DQ2 C ops K o os st (some v) = DQ C ops K os (st.putO o.dst v) := rfl
theorem dq2_none (o : Oper) (os : List Oper) (st : ASt) : DQ2 C ops K o os st none = DQ1 C ops K o os st (pop1 C st o) := rfl
theorem dq1_some (o : Oper) (os : List Oper) (st : ASt) (v : AV) : DQ1 C ops K o os st (some v) = DQ C ops K os (st.putO o.dst v) := rfl
theorem dq1_none (o : Oper) (os : List Oper) (st : ASt) : DQ1 C ops K o os st none = DQP C ops K o os st (plain C st o) := rfl
theorem dqp_some (o : Oper) (os : List Oper) (st : ASt) (v : AV) : DQP C ops K o os st (some v) = DQ C ops K os (st.putO o.dst v) := rfl
end

section
variable {C : Env} {E : Entry} {st : ASt} {a : Act} {w : World} {g : Gh}
theorem popQ_ok (h : Rel C E st a w g) {o : Oper} {v : AV} (hp : popQ C st o = some v) : ∃ x, Rv w g v x ∧ v.mb ≤ st.b.length ∧ ∀ w', w'.heap = w.heap → (execOp a.eval o).run C.P w' = .ok (.value x) w' := by
  unfold popQ at hp
  cases h2 : pop2 C st o with
  | some u =>
    rw [h2] at hp; simp only [popN, Option.some.injEq] at hp; subst hp
    obtain ⟨y, rfl, hr⟩ := pop2_ok h h2
    exact ⟨y, .sc y, by simp [AV.mb], fun w' _ => hr w'⟩
  | none =>
    rw [h2] at hp; simp only [popN] at hp
    cases h1 : pop1 C st o with
    | some u => rw [h1] at hp; simp only [popO, Option.some.injEq] at hp; subst hp; exact pop1_sound h h1
    | none => rw [h1] at hp; exact plain_sound h hp

theorem DQ.sound {ops : Array Oper} {K : ASt → Prop} {l : Lv} {Q : Exit → ASt → Prop} (hK : ∀ st, K st → Q .normal st) : ∀ {os : List Oper} {st : ASt} {a : Act} {w : World} {g : Gh}, DQ C ops K os st → Rel C E st a w g →
    wpQuietIn (fen l) 0 C.P ops (fun w' => ∃ n, w' = w.drewN n) (fun a' => ∀ w', (∃ n, w' = w.drewN n) → lift C E Q .normal a' w') os a
  | [], st, a, w, g, h, hr => by
    simp only [dq_nil] at h
    rintro w' ⟨n, rfl⟩
    exact ⟨st, g, hK st h, hr.grow (grownBy_same rfl rfl rfl rfl)⟩
  | o :: os, st, a, w, g, h, hr => by
    rw [dq_cons] at h
    unfold wpQuietIn
    refine ⟨fun _ _ _ _ => trivial, ?_⟩
    rw [← guardL_eq] at h
    cases hb : guardA ops st o with
    | none => rw [hb] at h; exact h.elim
    | some b =>
      rw [hb, dqg_some] at h
      rw [guardA_sound hr hb]
      cases b with
      | true =>
        simp only [if_true]
        simp only [DQB, DQG, if_true] at h
        split at h
        · rename_i v hv
          obtain ⟨x, h1, h2, h3⟩ := popQ_ok hr hv
          refine ⟨x, ?_, DQ.sound hK h (RelX.put hr o.dst h1 h2)⟩
          rintro w' ⟨n, rfl⟩
          unfold Oper.quietAtIn
          rw [h3 (w.drewN n) rfl]
          exact ⟨rfl, rfl⟩
        · exact h.elim
      | false =>
        simp only [Bool.false_eq_true, if_false]
        rw [dqb_false] at h
        exact DQ.sound hK h (RelX.put hr o.dst (.sc undef) (by simp [AV.mb]))

theorem AWp.draw {id : Nat} {ops : Array Oper} {ok : Entry → Prop} {Q : Exit → ASt → Prop} (hm : C.P.follows .mixedOrders = true) (hB : Region.lexB .any ops = true) (h : DQ C ops (Q .normal) ops.toList st) :
    AWp C ⟨none, ok⟩ (.region id ops true) Q st := fun E a w g _ hr => by
  refine wpIn_region_quiet (C := fun w' => ∃ n, w' = w.drewN n) rfl hm hB ⟨1, rfl⟩ ?_
  exact DQ.sound (fun _ h => h) h hr
end
end Go.Ab
end
section
/- The abstract layer, part Le: words for proofs: loops, drawn regions, bounds. -/
namespace Go.Ab
open Go.RowKit

def leL {α : Type} : List (Nat × α) → List (Nat × α) → Prop
  | [], _ => True
  | (k, v) :: l, s => get s k = some v ∧ leL l s
theorem leL_get {α : Type} : ∀ {l s : List (Nat × α)}, leL l s → ∀ t v, get l t = some v → get s t = some v
  | [], s, _, t, v, h => by simp [get] at h
  | (k, u) :: l, s, hl, t, v, h => by
    simp only [get] at h
    by_cases e : t = k
    · subst e; simp only [if_true, Option.some.injEq] at h; subst h; exact hl.1
    · simp only [e, if_false] at h; exact leL_get hl.2 t v h
/-- Says no more than st. -/
def LeS (st' st : ASt) : Prop := st'.n = st.n ∧ leL st'.s st.s ∧ leL st'.r st.r ∧ st'.b = st.b ∧ st'.l = st.l
theorem LeS.le {st' st : ASt} (h : LeS st' st) : st'.Le st := ⟨h.1, leL_get h.2.1, leL_get h.2.2.1, h.2.2.2.1, h.2.2.2.2⟩

def LoopQ {α : Type} (S : α → ASt) (p : α → Prop) (μ : α → Nat) (x : α) (Q : Exit → ASt → Prop) : Exit → ASt → Prop
  | .normal, st => ∃ x', p x' ∧ μ x' < μ x ∧ LeS (S x') st
  | e, st => Q e st

section
variable {C : Env} {pol : Pol} {l : Lv} {Q : Exit → ASt → Prop} {k : List It} {st : ASt}
theorem goc_loop_inv {α : Type} {c : Code} (S : α → ASt) (p : α → Prop) (μ : α → Nat) (x0 : α) (h0 : p x0) (hs : LeS (S x0) st)
    (hr : ∀ x, p x → GoC C pol l (LoopQ S p μ x (Go C pol l Q k)) [] c (S x)) : AWp C l (.loop c) (Go C pol l Q k) st :=
  AWp.loop S p μ x0 h0 hs.le fun x hp => (W.sound (hr x hp)).mono fun e st' h => by
    cases e with
    | normal => obtain ⟨x', h1, h2, h3⟩ := h; exact ⟨x', h1, h2, h3.le⟩
    | _ => exact h
theorem loopQ_normal {α : Type} {S : α → ASt} {p : α → Prop} {μ : α → Nat} {x : α} : LoopQ S p μ x Q .normal st = ∃ x', p x' ∧ μ x' < μ x ∧ LeS (S x') st := rfl
theorem loopQ_exit {α : Type} {S : α → ASt} {p : α → Prop} {μ : α → Nat} {x : α} {id : Nat} : LoopQ S p μ x Q (.exit id) st = Q (.exit id) st := rfl
theorem loopQ_ret {α : Type} {S : α → ASt} {p : α → Prop} {μ : α → Nat} {x : α} : LoopQ S p μ x Q .ret st = Q .ret st := rfl
theorem goc_draw {id : Nat} {ops : Array Oper} {ok : Entry → Prop} (hm : C.P.follows .mixedOrders = true) (hB : Region.lexB .any ops = true) (h : DQ C ops (Go C pol ⟨none, ok⟩ Q k .normal) ops.toList st) :
    GoC C pol ⟨none, ok⟩ Q k (.region id ops true) st := AWp.draw hm hB h
variable {ops : Array Oper} {K : ASt → Prop} {o : Oper} {os : List Oper}
theorem dqb_b {b : Bool} (ht : b = true → DQ2 C ops K o os st (pop2 C st o)) (hf : b = false → DQ C ops K os (st.putO o.dst (.sc undef))) : DQB C ops K o os st b := by
  cases b
  · rw [dqb_false]; exact hf rfl
  · rw [dqb_true]; exact ht rfl
theorem dqb_d {p : Prop} {_ : Decidable p} (ht : p → DQ2 C ops K o os st (pop2 C st o)) (hf : ¬p → DQ C ops K os (st.putO o.dst (.sc undef))) : DQB C ops K o os st (decide p) :=
  dqb_b (fun h => ht (of_decide_eq_true h)) (fun h => hf (of_decide_eq_false h))
theorem dqb_n {p : Prop} {_ : Decidable p} (ht : p → DQ C ops K os (st.putO o.dst (.sc undef))) (hf : ¬p → DQ2 C ops K o os st (pop2 C st o)) : DQB C ops K o os st (!decide p) :=
  dqb_b (fun h => hf (by simpa using h)) (fun h => ht (by simpa using h))
end

theorem wrap64 {x : Int} (h1 : -9223372036854775808 ≤ x) (h2 : x ≤ 9223372036854775807) : IntKind.i64.wrap x = x := by
  simp only [IntKind.wrap, IntKind.bits, IntKind.signed, Bool.true_and]
  split <;> simp_all <;> omega
theorem wrap32 {x : Int} (h1 : -2147483648 ≤ x) (h2 : x ≤ 2147483647) : IntKind.i32.wrap x = x := by
  simp only [IntKind.wrap, IntKind.bits, IntKind.signed, Bool.true_and]
  split <;> simp_all <;> omega
theorem wrapU8 {x : Int} (h1 : 0 ≤ x) (h2 : x ≤ 255) : IntKind.u8.wrap x = x := by
  simp only [IntKind.wrap, IntKind.bits, IntKind.signed, Bool.false_and]
  simp; omega

/-- Drawn regions. -/
theorem aq : (type_of% @dq_nil) ∧ (type_of% @dq_cons) ∧ (type_of% @dqg_some) ∧ (type_of% @dqb_true) ∧ (type_of% @dqb_false) ∧ (type_of% @dq2_some) ∧ (type_of% @dq2_none) ∧ (type_of% @dq1_some) ∧ (type_of% @dq1_none) ∧ (type_of% @dqp_some) :=
  ⟨@dq_nil, @dq_cons, @dqg_some, @dqb_true, @dqb_false, @dq2_some, @dq2_none, @dq1_some, @dq1_none, @dqp_some⟩
/-- Loops. -/
theorem al : (type_of% @loopQ_normal) ∧ (type_of% @loopQ_exit) ∧ (type_of% @loopQ_ret) ∧ (type_of% @LeS.eq_def) ∧ (∀ s : List (Nat × AV), leL [] s = True) ∧ (∀ k v l (s : List (Nat × AV)), leL ((k, v) :: l) s = (get s k = some v ∧ leL l s)) ∧ (∀ s : List (Nat × (Nat × List AV)), leL [] s = True) ∧ (∀ k v l (s : List (Nat × (Nat × List AV))), leL ((k, v) :: l) s = (get s k = some v ∧ leL l s)) :=
  ⟨@loopQ_normal, @loopQ_exit, @loopQ_ret, @LeS.eq_def, fun _ => rfl, fun _ _ _ _ => rfl, fun _ => rfl, fun _ _ _ _ => rfl⟩
end Go.Ab
end
section
/- The abstract layer, part Lf: from the outside. -/
namespace Go.Ab
open Go.RowKit

def gInit (W : World) : Gh := { N := fun m => m < W.heap.size, β := fun _ => 0, κ := fun _ => undef, χ := fun _ _ => undef }
def eInit (W : World) : Entry := { w0 := W, N0 := fun m => m < W.heap.size, F0 := fun _ => False, β0 := fun _ => 0, n0 := 0 }

theorem Rel.init {C : Env} {W : World} {args : Array Value} {s : List (Nat × AV)} (hs : ∀ t v, get s t = some v → ∃ x, args[t]? = some x ∧ Rv W (gInit W) v x ∧ v.mb = 0) (hG : ∀ i cs, C.G i = some cs → GlobR W (gInit W) i cs) :
    Rel C (eInit W) ⟨args.size, s, [], [], []⟩ ⟨args, []⟩ W (gInit W) := {
  size := rfl
  slots := fun t v ht => let ⟨x, h1, h2, _⟩ := hs t v ht; ⟨x, h1, h2⟩
  bx := fun t v ht => let ⟨_, _, _, h3⟩ := hs t v ht; by rw [h3]; exact Nat.zero_le _
  rows := fun k p hk _ => by simp [get] at hk
  boxes := fun b cs hb _ => by simp at hb
  crows := fun b j sz l hc _ => by simp [ASt.cellAt] at hc
  disj := fun x y m hx _ => by cases x <;> simp [live, get, ASt.cellAt] at hx
  mine := fun x m hx => by cases x <;> simp [live, get, ASt.cellAt] at hx
  kept := fun _ _ _ => rfl
  stab := fun m hm => ⟨hm, .inl hm⟩
  stab0 := fun _ hm => hm
  beta := ⟨Nat.le_refl _, fun _ _ => rfl⟩
  os := rfl, tape := rfl, output := rfl
  grown := Nat.le_refl _
  glob := ⟨hG, [], rfl, List.nodup_nil, fun _ h => by cases h⟩
  lpc := fun i p hp _ => by simp at hp }

/-- A contract, seen from a world whose memory holds the arguments. -/
theorem calls_of_acall {C : Env} {W : World} {f : FuncId} {args : Array Value} {s : List (Nat × AV)} {R : AEnd → ASt → Prop} (h : ACall C f ⟨args.size, s, [], [], []⟩ R) (hs : ∀ t v, get s t = some v → ∃ x, args[t]? = some x ∧ Rv W (gInit W) v x ∧ v.mb = 0)
    (hG : ∀ i cs, C.G i = some cs → GlobR W (gInit W) i cs) : Calls C.P f args W fun e w' => (∃ ae vals st1 g1, EndIs ae e vals ∧ R ae st1 ∧ Rel C (eInit W) st1 ⟨vals, []⟩ w' g1) ∧ W.grownBy w' none := by
  have h1 := h.2 (eInit W) args W (gInit W) trivial (Rel.init hs hG)
  refine callsIn_wide.1 (h1.mono fun e w' hh => ⟨hh, ?_⟩)
  obtain ⟨ae, vals, st1, g1, _, _, hr⟩ := hh
  exact ⟨hr.os, hr.tape, hr.output, hr.grown, fun k hk _ => hr.kept k hk (fun hf => hf)⟩

/-- The law's: it returns true. -/
theorem calls_true {C : Env} {W : World} {f : FuncId} {args : Array Value} {s : List (Nat × AV)} (h : ACall C f ⟨args.size, s, [], [], []⟩ (Ret ⟨1, [(0, .sc (.bool true))], [], [], []⟩)) (hs : ∀ t v, get s t = some v → ∃ x, args[t]? = some x ∧ Rv W (gInit W) v x ∧ v.mb = 0)
    (hG : ∀ i cs, C.G i = some cs → GlobR W (gInit W) i cs) : Calls C.P f args W fun e w' => e = .returned (.bool true) ∧ W.grownBy w' none := by
  have h1 := calls_of_acall h hs hG
  intro cs
  obtain ⟨e, w', fr, ⟨⟨ae, vals, st1, g1, q1, ⟨rfl, rfl⟩, q3⟩, q4⟩, rest⟩ := h1 cs
  refine ⟨e, w', fr, ⟨?_, q4⟩, rest⟩
  cases e with
  | returned v =>
    simp only [EndIs] at q1; subst q1
    have hsz : vals.size = 1 := q3.size
    obtain ⟨x, e1, e2⟩ := q3.slots 0 (.sc (.bool true)) rfl
    cases e2
    have : packV vals = vals[0] := by simp [packV, hsz]
    rw [this]
    congr 1
    have hlt : 0 < vals.size := by rw [hsz]; exact Nat.zero_lt_one
    rw [Array.getElem?_eq_getElem hlt] at e1
    exact Option.some.inj e1
  | panicked ch => exact q1.elim
  | outgrown => exact q1.elim
end Go.Ab
end
