/- The abstract layer and its machine: what Go code does to lists, proved once over any program. -/
import Derived.Test.YtfokbedokggilaaDoorK1
import Derived.Deep.MidRow
import Derived.Orders
set_option linter.all false
section
/- The abstract layer, part C: operations that leave the state alone. -/
namespace Go.Ab
open Go.RowKit

def ofLeaf : Value → AV
  | .slice none 0 0 => .nil
  | v => .sc v
def ofV : Value → AV
  | .agg vs => .agg (vs.toList.map ofLeaf)
  | v => ofLeaf v

theorem ofLeaf_rv (w : World) (g : Gh) (v : Value) : Rv w g (ofLeaf v) v := by
  unfold ofLeaf; split
  · exact .nil
  · exact .sc _
theorem ofLeaf_mb (v : Value) : (ofLeaf v).mb = 0 := by unfold ofLeaf; split <;> rfl
theorem mbL_zero : ∀ {l : List AV}, (∀ a ∈ l, a.mb = 0) → mbL l = 0
  | [], _ => rfl
  | a :: l, h => by
    have h1 := h a List.mem_cons_self
    have h2 := mbL_zero (l := l) (fun x hx => h x (List.mem_cons_of_mem _ hx))
    simp only [mbL, h1, h2]; omega
theorem mbL_le {n : Nat} : ∀ {l : List AV}, (∀ a ∈ l, a.mb ≤ n) → mbL l ≤ n
  | [], _ => by simp [mbL]
  | a :: l, h => by
    have h1 := h a List.mem_cons_self
    have h2 := mbL_le (n := n) (l := l) (fun x hx => h x (List.mem_cons_of_mem _ hx))
    simp only [mbL]; omega
theorem ofV_rv (w : World) (g : Gh) (v : Value) : Rv w g (ofV v) v := by
  unfold ofV; split
  · rename_i vs
    refine .agg (by simp) fun i a v ha hv => ?_
    simp only [List.getElem?_map, Array.getElem?_toList] at ha
    rw [hv] at ha
    simp only [Option.map_some, Option.some.injEq] at ha
    subst ha; exact ofLeaf_rv w g v
  · exact ofLeaf_rv w g _
theorem ofV_mb (v : Value) : (ofV v).mb = 0 := by
  unfold ofV; split
  · simp only [AV.mb]
    refine mbL_zero fun a ha => ?_
    obtain ⟨x, _, rfl⟩ := List.mem_map.1 ha
    exact ofLeaf_mb x
  · exact ofLeaf_mb _

def ASt.ev (C : Env) (st : ASt) : Operand → Option AV
  | .tmp t => get st.s t
  | .const v => some (ofV v)
  | .global i => (C.G i).map .rp
  | .func f => some (.fn (.func f) [] [])

section
variable {C : Env} {E : Entry} {X : Option Key} {st : ASt} {a : Act} {w : World} {g : Gh}

theorem ev_sound (h : RelX C E X st a w g) {x : Operand} {v : AV} (hx : st.ev C x = some v) : Rv w g v (a.eval x) ∧ v.mb ≤ st.b.length := by
  cases x with
  | tmp t =>
    obtain ⟨y, h1, h2⟩ := h.slots t v hx
    refine ⟨?_, h.bx t v hx⟩
    simp only [Act.eval, Array.getD_eq_getD_getElem?, h1, Option.getD_some]; exact h2
  | const u => simp only [ASt.ev, Option.some.injEq] at hx; subst hx; exact ⟨ofV_rv w g u, by rw [ofV_mb]; omega⟩
  | global i =>
    simp only [ASt.ev, Option.map_eq_some_iff] at hx
    obtain ⟨cs, h1, rfl⟩ := hx
    obtain ⟨h2, c, T, fr, h3, h4, h5⟩ := h.glob.1 i cs h1
    exact ⟨.rp h2 h3 (by omega) (fun k a v ha hv => h5 k a v ha (by simpa using hv)), by simp [AV.mb]⟩
  | func f =>
    simp only [ASt.ev, Option.some.injEq] at hx; subst hx
    exact ⟨.fn (by rfl) (by rfl) (fun i a v hi => by simp at hi) (fun i a v hi => by simp at hi), by simp [AV.mb, mbL]⟩
end

def toLeaf : AV → Option Value
  | .sc v => some v
  | .nil => some (.slice none 0 0)
  | _ => none
def toL : List AV → Option (List Value)
  | [] => some []
  | a :: l => match toLeaf a, toL l with
    | some v, some vs => some (v :: vs)
    | _, _ => none
/-- The one value that a plain abstract value stands for. -/
def toV : AV → Option Value
  | .agg cs => (toL cs).map fun l => .agg l.toArray
  | v => toLeaf v

theorem toLeaf_eq {w : World} {g : Gh} {a : AV} {v x : Value} (h : toLeaf a = some x) (hv : Rv w g a v) : v = x := by
  cases hv <;> simp_all [toLeaf]
theorem toL_eq {w : World} {g : Gh} : ∀ {l : List AV} {vs : List Value} {xs : List Value}, toL l = some xs → l.length = vs.length →
    (∀ (i : Nat) (a : AV) (v : Value), l[i]? = some a → vs[i]? = some v → Rv w g a v) → vs = xs
  | [], vs, xs, h, hl, _ => by simp [toL] at h; subst h; exact List.eq_nil_of_length_eq_zero (by simpa using hl.symm)
  | a :: l, [], _, _, hl, _ => by simp at hl
  | a :: l, v :: vs, xs, h, hl, hr => by
    unfold toL at h
    split at h
    · rename_i x ys h1 h2
      simp only [Option.some.injEq] at h; subst h
      have e1 := toLeaf_eq h1 (hr 0 a v rfl rfl)
      have e2 := toL_eq h2 (by simpa using hl) (fun i a v hi hv => hr (i + 1) a v (by simpa using hi) (by simpa using hv))
      rw [e1, e2]
    · cases h
theorem toV_eq {w : World} {g : Gh} {a : AV} {v x : Value} (h : toV a = some x) (hv : Rv w g a v) : v = x := by
  unfold toV at h
  split at h
  · rename_i cs
    simp only [Option.map_eq_some_iff] at h
    obtain ⟨l, h1, rfl⟩ := h
    cases hv with
    | @agg _ vs hl hr =>
      have := toL_eq (vs := vs.toList) h1 (by simpa using hl) (fun i a v hi hv => hr i a v hi (by simpa using hv))
      rw [← this]
  · exact toLeaf_eq h hv

/-- What an operation comes to that looks at nothing but its operands. -/
def pureRun {α : Type} (P : Program) : Sem α → Option α
  | .pure a => some a
  | .program k => pureRun P (k P)
  | .mark _ k => pureRun P k
  | _ => none
theorem pureRun_run {α : Type} {P : Program} : ∀ {s : Sem α} {x : α}, pureRun P s = some x → ∀ w, s.run P w = .ok x w
  | .pure a, x, h, w => by simp only [pureRun, Option.some.injEq] at h; subst h; rfl
  | .program k, x, h, w => by simp only [pureRun] at h; exact pureRun_run h w
  | .mark _ k, x, h, w => by simp only [pureRun] at h; exact pureRun_run h w
  | .load .., x, h, w | .store .., x, h, w | .new .., x, h, w | .shape .., x, h, w | .freeze .., x, h, w | .frozen .., x, h, w | .getObj .., x, h, w | .setObj .., x, h, w | .choose .., x, h, w | .sys .., x, h, w | .halt _, x, h, w => by simp [pureRun] at h

/-- Operations that may be carried out on plain values alone. -/
def plainOp : Op → Bool
  | .binOp .. | .unOp .. | .convert .. | .index .. | .slice .. | .build .. | .field .. => true
  | .call { callee := .builtin b, .. } => match b with
    | .len | .min | .max => true
    | _ => false
  | _ => false
theorem plainOp_select {o : Op} (h : plainOp o = true) : ∀ cs b, o ≠ .select cs b := by rintro cs b rfl; cases h

def ASt.evV (C : Env) (st : ASt) (x : Operand) : Option Value := (st.ev C x).bind toV

def plain (C : Env) (st : ASt) (o : Oper) : Option AV :=
  if plainOp o.op && o.op.operands.all fun x => (st.evV C x).isSome then
    match pureRun C.P (execOp (fun x => (st.evV C x).getD undef) o) with
    | some (.value v) => some (ofV v)
    | _ => none
  else none

/-- Type tables. -/
def elemOf (P : Program) (T : TypeId) : Option Nat := match P.underlying T with
  | some (.slice e) => (P.info? e).map (·.size)
  | _ => none
def arrOf (P : Program) (T : TypeId) : Option (Nat × Nat) := match P.underlying T with
  | some (.array n e) => (P.info? e).map fun i => (n, i.size)
  | _ => none
def aggB : TypeDesc → Bool
  | .struct _ | .array _ _ => true
  | _ => false
def shapeOf (P : Program) (T : TypeId) : Option (Bool × Nat) := match P.underlying T, P.info? T with
  | some d, some i => some (aggB d, i.size)
  | _, _ => none
def fieldOf (P : Program) (T f : Nat) : Option (Nat × Bool × Nat) := match P.underlying T with
  | some (.struct fs) => match fs[f]? with
    | some fd => (shapeOf P fd.type).map fun (b, n) => (fd.offset, b, n)
    | none => none
  | _ => none

/-- The cells of a box from cell j on, as they are loaded. -/
def ldCells (b : Nat) : Nat → List AV → List AV
  | _, [] => []
  | j, .ow _ _ :: r => .ocl b j :: ldCells b (j + 1) r
  | j, a :: r => a :: ldCells b (j + 1) r

/-- n cells from a pointer on. -/
def ASt.range (st : ASt) (v : AV) (n : Nat) : Option (List AV) :=
  match v with
  | .bp b off => match st.b[b]? with
    | some cs => if off + n ≤ cs.length then some (ldCells b off ((cs.drop off).take n)) else none
    | none => none
  | .rp cs => if n ≤ cs.length then some (cs.take n) else none
  | .ep k i sz off => match get st.r k with
    | some (sz', l) => match l[i]? with
      | some e => if sz' = sz ∧ off + n ≤ sz then some ((e.cells.drop off).take n) else none
      | none => none
    | none => none
  | .ec b j i sz off => match st.cellAt b j with
    | some (.ow sz' l) => match l[i]? with
      | some e => if sz' = sz ∧ off + n ≤ sz then some ((e.cells.drop off).take n) else none
      | none => none
    | _ => none
  | _ => none

def ASt.ld (C : Env) (st : ASt) (T : TypeId) (v : AV) : Option AV :=
  match shapeOf C.P T with
  | some (true, n) => (st.range v n).map .agg
  | some (false, _) => (st.range v 1).bind (·[0]?)
  | none => none

def AV.plus : AV → Nat → Option AV
  | .bp b o, n => some (.bp b (o + n))
  | .rp cs, n => if n ≤ cs.length then some (.rp (cs.drop n)) else none
  | .ep k i sz o, n => some (.ep k i sz (o + n))
  | .ec b j i sz o, n => some (.ec b j i sz (o + n))
  | _, _ => none

/-- What a slice holds. -/
def ASt.list (st : ASt) : AV → Option (List AV)
  | .nil => some []
  | .sl _ l => some l
  | .slx _ l => some l
  | .own k => (get st.r k).map (·.2)
  | .ocl b j => match st.cellAt b j with
    | some (.ow _ l) => some l
    | _ => none
  | _ => none

def ASt.at (st : ASt) (v : AV) (i : Nat) (sz : Nat) : Option AV :=
  match v with
  | .sl sz' l | .slx sz' l => match l[i]? with
    | some e => if sz' = sz then some (.rp e.cells) else none
    | none => none
  | .own k => match get st.r k with
    | some (sz', l) => if sz' = sz ∧ i < l.length then some (.ep k i sz 0) else none
    | none => none
  | .ocl b j => match st.cellAt b j with
    | some (.ow sz' l) => if sz' = sz ∧ i < l.length then some (.ec b j i sz 0) else none
    | _ => none
  | _ => none

def evL (C : Env) (st : ASt) : List Operand → Option (List AV)
  | [] => some []
  | x :: l => match st.ev C x, evL C st l with
    | some v, some vs => some (v :: vs)
    | _, _ => none

def bytesOf : List AV → Option (List UInt8)
  | [] => some []
  | .sc (.int .u8 n) :: l => (bytesOf l).map (UInt8.ofNat n.toNat :: ·)
  | _ => none

def intOf? : Option AV → Option Int
  | some (.sc (.int _ i)) => some i
  | _ => none

/-- The bounds of a slice expression over a list of n elements. -/
def bounds (C : Env) (st : ASt) (n : Nat) (lo hi mx : Option Operand) : Option (Nat × Nat × Bool) :=
  let h : Option Int := match hi with
    | some x => intOf? (st.ev C x)
    | none => some n
  let l : Option Int := match lo with
    | some x => intOf? (st.ev C x)
    | none => some 0
  match h, l with
  | some h, some l =>
    match mx with
    | none => if 0 ≤ l ∧ l ≤ h ∧ h ≤ n then some (l.toNat, h.toNat, false) else none
    | some x => match intOf? (st.ev C x), hi with
      | some m, some _ => if 0 ≤ l ∧ l ≤ h ∧ h ≤ n ∧ m = h then some (l.toNat, h.toNat, true) else none
      | _, _ => none
  | _, _ => none

/-- The operations on slices, pointers and functions that leave the state alone. -/
def pop1 (C : Env) (st : ASt) (o : Oper) : Option AV :=
  match o.op with
  | .move x => st.ev C x
  | .pick c x y => match st.ev C c with
    | some (.sc (.bool t)) => if t then st.ev C x else st.ev C y
    | _ => none
  | .load T p => (st.ev C p).bind (st.ld C T)
  | .nilCheck x => match st.ev C x with
    | some (.bp b off) => some (.bp b off)
    | some (.rp cs) => some (.rp cs)
    | some (.ep k i sz off) => some (.ep k i sz off)
    | some (.ec b j i sz off) => some (.ec b j i sz off)
    | some (.fn (.func f) first cap) => some (.fn (.func f) first cap)
    | _ => none
  | .fieldAddr T x f => match fieldOf C.P T f, st.ev C x with
    | some (off, _, n), some v => if n = 0 then none else v.plus off
    | _, _ => none
  | .field T x f => match fieldOf C.P T f, st.ev C x with
    | some (off, true, n), some (.agg cs) => if off + n ≤ cs.length then some (.agg ((cs.drop off).take n)) else none
    | some (off, false, _), some (.agg cs) => cs[off]?
    | _, _ => none
  | .indexAddr T x i => match intOf? (st.ev C i), st.ev C x with
    | some i, some v => if 0 ≤ i then
        match elemOf C.P T with
        | some sz => st.at v i.toNat sz
        | none => match arrOf C.P T with
          | some (n, sz) => if i < n then v.plus (i.toNat * sz) else none
          | none => none
      else none
    | _, _ => none
  | .slice T x lo hi mx => match elemOf C.P T, st.ev C x with
    | some n, some (.sl sz l) => if sz = n then (bounds C st l.length lo hi mx).map fun (lo, hi, b) => if b then .slx sz ((l.take hi).drop lo) else .sl sz ((l.take hi).drop lo) else none
    | some n, some (.slx sz l) => if sz = n then (bounds C st l.length lo hi mx).map fun (lo, hi, b) => if b then .slx sz ((l.take hi).drop lo) else .sl sz ((l.take hi).drop lo) else none
    | _, _ => none
  | .extract x i => match st.ev C x with
    | some (.tup vs) => vs[i]?
    | _ => none
  | .makeFunc (.func f) first cap => match evL C st first.toList, evL C st cap.toList with
    | some fs, some cs => some (.fn (.func f) fs cs)
    | _, _ => none
  | .call { callee := .builtin .len, args, argTypes } => match args.toList, argTypes.toList with
    | [x], [T] => match elemOf C.P T with
      | some _ => ((st.ev C x).bind st.list).map fun l => .sc (.int .i64 l.length)
      | none => none
    | _, _ => none
  | .convert S D x => match C.P.underlying S, C.P.underlying D with
    | some (.slice e), some .string => match C.P.underlying e with
      | some (.int .u8) => (((st.ev C x).bind st.list).bind bytesOf).map fun l => .sc (.string ⟨l.toArray⟩)
      | _ => none
    | _, _ => none
  | _ => none

def pop (C : Env) (st : ASt) (o : Oper) : Option AV :=
  match pop1 C st o with
  | some v => some v
  | none => plain C st o
end Go.Ab
end
section
/- The abstract layer, part D: the operations of part C are what the machine does. -/
namespace Go.Ab
open Go.RowKit

theorem flat_get {sz : Nat} : ∀ {l : List AV}, (∀ a ∈ l, a.cells.length = sz) → ∀ (i t : Nat), t < sz → (l.flatMap AV.cells)[i * sz + t]? = (l[i]?).bind fun e => e.cells[t]?
  | [], _, i, t, _ => by simp
  | a :: l, h, i, t, ht => by
    have ha : a.cells.length = sz := h a List.mem_cons_self
    have ih := flat_get (l := l) (fun x hx => h x (List.mem_cons_of_mem _ hx))
    rw [List.flatMap_cons]
    cases i with
    | zero => rw [List.getElem?_append_left (by omega)]; simp
    | succ i =>
      rw [List.getElem?_append_right (by rw [ha, Nat.succ_mul]; omega), ha]
      have e : (i + 1) * sz + t - sz = i * sz + t := by rw [Nat.succ_mul]; omega
      rw [e, ih i t ht]; simp

theorem flat_len {sz : Nat} : ∀ {l : List AV}, (∀ a ∈ l, a.cells.length = sz) → (l.flatMap AV.cells).length = l.length * sz
  | [], _ => by simp
  | a :: l, h => by
    have ha : a.cells.length = sz := h a List.mem_cons_self
    have ih := flat_len (l := l) (fun x hx => h x (List.mem_cons_of_mem _ hx))
    rw [List.flatMap_cons, List.length_append, ih, ha, List.length_cons, Nat.succ_mul]; omega

theorem ldCells_get (b : Nat) : ∀ (l : List AV) (j i : Nat), (ldCells b j l)[i]? = (l[i]?).map fun a => match a with
    | .ow _ _ => .ocl b (j + i)
    | a => a
  | [], j, i => by simp [ldCells]
  | a :: l, j, i => by
    have ih := ldCells_get b l (j + 1)
    cases a <;> cases i <;> simp [ldCells, ih, Nat.add_assoc, Nat.add_comm 1]
theorem ldCells_len (b : Nat) : ∀ (l : List AV) (j : Nat), (ldCells b j l).length = l.length
  | [], j => rfl
  | a :: l, j => by cases a <;> simp [ldCells, ldCells_len b l (j + 1)]

theorem Sh.rv {w : World} {g : Gh} {a : AV} {v : Value} (h : Sh w g.N a v) : Rv w g a v := by
  cases h with
  | sc v hv => exact .sc v
  | nil sz ad => exact .sl (.nil sz ad)
  | sl sz l b off cap c T fr h1 h2 h3 h4 h5 h6 => exact .sl (.sl sz l b off cap c T fr h1 h2 h3 h4 h5 h6)
theorem Sh.mb0 {w : World} {N : Nat → Prop} {a : AV} {v : Value} (h : Sh w N a v) : a.mb = 0 := by cases h <;> rfl
theorem Sh.len1 {w : World} {N : Nat → Prop} {a : AV} {v : Value} (h : Sh w N a v) : a.cells = [a] := by cases h <;> rfl

section
variable {C : Env} {E : Entry} {X : Option Key} {st : ASt} {a : Act} {w : World} {g : Gh}

theorem cell_at {w : World} {m i : Nat} {c : Array Value} {T : TypeId} {fr : Nat × Nat} (h : w.heap[m]? = some (.cells c T fr)) : w.cell? ⟨m, i, none⟩ = c[i]? := cell_of_row w m i c T fr h

theorem row_range {sz : Nat} {l : List AV} {v : Value} {m len cap i off n : Nat} {e : AV} (hr : RowR w g.N sz l v) (hv : v = .slice (some ⟨m, 0, none⟩) len cap) (he : l[i]? = some e) (hn : off + n ≤ sz) :
    ∃ xs : List Value, xs.length = n ∧ w.rangeAt m (i * sz + off) xs ∧ e.cells.length = sz ∧
      ∀ (k : Nat) (a : AV) (y : Value), ((e.cells.drop off).take n)[k]? = some a → xs[k]? = some y → Sh w g.N a y := by
  obtain ⟨h0, ty, ys, ho, hu, hx⟩ := hr
  have hi : i < l.length := by
    rcases Nat.lt_or_ge i l.length with h | h
    · exact h
    · rw [List.getElem?_eq_none h] at he; cases he
  have hel : e.cells.length = sz := hu e (List.mem_of_getElem? he)
  have hle : i * sz + sz ≤ l.length * sz := by rw [← Nat.succ_mul]; exact Nat.mul_le_mul_right _ hi
  rcases ho.2 with ⟨h2, _⟩ | ⟨m', cap', cur, h1, _, h3, _, _, h5, h6⟩
  · rw [h2] at hv; cases hv
  · rw [hv] at h1
    simp only [Value.slice.injEq, Option.some.injEq, Addr.mk.injEq, and_true] at h1
    obtain ⟨rfl, rfl, rfl⟩ := h1
    have hget : ∀ k, k < l.length * sz → cur[k]? = ys[k]? := fun k hk => by
      rw [← h6, List.getElem?_take_of_lt hk, Array.getElem?_toList]
    refine ⟨(ys.drop (i * sz + off)).take n, by rw [List.length_take, List.length_drop, ho.1]; omega, ?_, hel, ?_⟩
    · intro k u hu
      rw [cell_at h3]
      rw [List.getElem?_take] at hu
      split at hu
      · rw [List.getElem?_drop] at hu
        rw [hget _ (by omega)]; exact hu
      · cases hu
    · intro k b y hb hy
      rw [List.getElem?_take] at hb hy
      split at hb
      · rename_i hk
        simp only [hk, if_true] at hy
        rw [List.getElem?_drop] at hb hy
        refine hx (i * sz + (off + k)) b y ?_ (by rw [← Nat.add_assoc]; exact hy)
        rw [flat_get hu i (off + k) (by omega), he]; exact hb
      · cases hb

/-- What is read from a pointer on. -/
theorem range_sound (h : Rel C E st a w g) {v : AV} {x : Value} {n : Nat} {as : List AV} (hv : Rv w g v x) (hr : st.range v n = some as) :
    ∃ (m o : Nat) (xs : List Value), x = .pointer (some ⟨m, o, none⟩) ∧ xs.length = n ∧ as.length = n ∧ w.rangeAt m o xs ∧
      ∀ (i : Nat) (b : AV) (y : Value), as[i]? = some b → xs[i]? = some y → Rv w g b y ∧ b.mb ≤ st.b.length := by
  unfold ASt.range at hr
  split at hr
  · rename_i b off
    cases hv
    split at hr
    · rename_i cs hcs
      split at hr
      · rename_i hle
        simp only [Option.some.injEq] at hr; subst hr
        obtain ⟨c, T, h1, h2, h3⟩ := h.boxes b cs hcs (by simp)
        have hb : b < st.b.length := by
          rcases Nat.lt_or_ge b st.b.length with h1 | h1
          · exact h1
          · rw [List.getElem?_eq_none h1] at hcs; cases hcs
        refine ⟨_, _, (c.toList.drop off).take n, rfl, by rw [List.length_take, List.length_drop, Array.length_toList]; omega, by rw [ldCells_len, List.length_take, List.length_drop]; omega, ?_, ?_⟩
        · intro k u hu
          rw [cell_at h1]
          rw [List.getElem?_take] at hu
          split at hu
          · rw [List.getElem?_drop, Array.getElem?_toList] at hu; exact hu
          · cases hu
        · intro i e y he hy
          rw [ldCells_get, List.getElem?_take] at he
          rw [List.getElem?_take] at hy
          split at he
          · rename_i hi
            simp only [hi, if_true, List.getElem?_drop, Array.getElem?_toList] at hy
            rw [List.getElem?_drop] at he
            simp only [Option.map_eq_some_iff] at he
            obtain ⟨e', he', rfl⟩ := he
            have := h3 (off + i) e' y he' hy
            unfold CellV at this
            split at this
            · rw [this]; exact ⟨.ocl _ _, by simp [AV.mb]; omega⟩
            · rename_i hne
              obtain ⟨h4, _, _, h5⟩ := this
              cases e' <;> first | exact ⟨h4, h5⟩ | exact absurd rfl (hne _ _)
          · simp at he
      · cases hr
    · cases hr
  · rename_i cs
    split at hr
    · rename_i hle
      simp only [Option.some.injEq] at hr; subst hr
      cases hv with
      | @rp _ b off c T fr h1 h2 h3 h4 =>
        refine ⟨_, _, (c.toList.drop off).take n, rfl, by rw [List.length_take, List.length_drop, Array.length_toList]; omega, by rw [List.length_take]; omega, ?_, ?_⟩
        · intro k u hu
          rw [cell_at h2]
          rw [List.getElem?_take] at hu
          split at hu
          · rw [List.getElem?_drop, Array.getElem?_toList] at hu; exact hu
          · cases hu
        · intro i e y he hy
          rw [List.getElem?_take] at he hy
          split at he
          · rename_i hi
            simp only [hi, if_true, List.getElem?_drop, Array.getElem?_toList] at hy
            have := h4 i e y he hy
            exact ⟨this.rv, by rw [this.mb0]; omega⟩
          · cases he
    · cases hr
  · rename_i k i sz off
    cases hv with
    | @ep _ _ _ _ m len cap hk =>
      split at hr
      · rename_i sz' l hl
        split at hr
        · rename_i e he
          split at hr
          · rename_i hc
            obtain ⟨rfl, hn⟩ := hc
            simp only [Option.some.injEq] at hr; subst hr
            obtain ⟨xs, h1, h2, h3, h4⟩ := row_range (h.rows k _ hl (by simp)) hk he hn
            refine ⟨_, _, xs, rfl, h1, by rw [List.length_take, List.length_drop]; omega, h2, fun i b y hb hy => ⟨(h4 i b y hb hy).rv, by rw [(h4 i b y hb hy).mb0]; omega⟩⟩
          · cases hr
        · cases hr
      · cases hr
  · rename_i b j i sz off
    cases hv with
    | @ec _ _ _ _ _ m len cap hk =>
      split at hr
      · rename_i sz' l hl
        split at hr
        · rename_i e he
          split at hr
          · rename_i hc
            obtain ⟨rfl, hn⟩ := hc
            simp only [Option.some.injEq] at hr; subst hr
            obtain ⟨xs, h1, h2, h3, h4⟩ := row_range (h.crows b j _ _ hl (by simp)) hk he hn
            refine ⟨_, _, xs, rfl, h1, by rw [List.length_take, List.length_drop]; omega, h2, fun i b y hb hy => ⟨(h4 i b y hb hy).rv, by rw [(h4 i b y hb hy).mb0]; omega⟩⟩
          · cases hr
        · cases hr
      · cases hr
  · cases hr

theorem rangeAt_heap {w w' : World} (hh : w'.heap = w.heap) {m o : Nat} {xs : List Value} (h : w.rangeAt m o xs) : w'.rangeAt m o xs := by
  intro j v hj
  have := h j v hj
  simp only [World.cell?, hh] at this ⊢; exact this

theorem isAgg_run {P : Program} {T : TypeId} {d : TypeDesc} (h : P.underlying T = some d) (w : World) : (isAgg T).run P w = .ok (aggB d) w := by
  unfold isAgg
  rw [Sem.run_bind, run_underlying h w]
  cases d <;> simp [aggB]

theorem sizeOf_run {P : Program} {T : TypeId} {i : TypeInfo} (h : P.info? T = some i) (w : World) : (sizeOf T).run P w = .ok i.size w := by
  simp [sizeOf, typeInfo, h]

theorem ld_sound (h : Rel C E st a w g) {T : TypeId} {v u : AV} {x : Value} (hv : Rv w g v x) (hl : st.ld C T v = some u) :
    ∃ y, Rv w g u y ∧ u.mb ≤ st.b.length ∧ ∀ w', w'.heap = w.heap → (Instr.loadAt T x).run C.P w' = .ok y w' := by
  unfold ASt.ld at hl
  split at hl
  · rename_i n hs
    simp only [Option.map_eq_some_iff] at hl
    obtain ⟨as, hr, rfl⟩ := hl
    obtain ⟨m, o, xs, rfl, h1, h2, h3, h4⟩ := range_sound h hv hr
    unfold shapeOf at hs
    split at hs
    · rename_i d i hd hi
      simp only [Option.some.injEq, Prod.mk.injEq] at hs
      obtain ⟨hagg, hsz⟩ := hs
      refine ⟨.agg xs.toArray, .agg (by simp [h1, h2]) (fun i b y hb hy => (h4 i b y hb (by simpa using hy)).1), ?_, fun w' hw => ?_⟩
      · simp only [AV.mb]
        refine mbL_le fun b hb => ?_
        obtain ⟨i, hlt, rfl⟩ := List.mem_iff_getElem.1 hb
        exact (h4 i as[i] xs[i] (by simp) (by simp)).2
      · refine run_loadAt_mid w' m o T xs d (rangeAt_heap hw h3) hd ?_ (by rw [hi, h1, ← hsz]; rfl)
        cases d <;> simp_all [aggB, TypeDesc.isRow]
    · cases hs
  · rename_i n hs
    simp only [Option.bind_eq_some_iff] at hl
    obtain ⟨as, hr, hu⟩ := hl
    obtain ⟨m, o, xs, rfl, h1, h2, h3, h4⟩ := range_sound h hv hr
    unfold shapeOf at hs
    split at hs
    · rename_i d i hd hi
      simp only [Option.some.injEq, Prod.mk.injEq] at hs
      obtain ⟨hagg, hsz⟩ := hs
      obtain ⟨y, rfl⟩ : ∃ y, xs = [y] := by
        match xs, h1 with
        | [y], _ => exact ⟨y, rfl⟩
      obtain ⟨h5, h6⟩ := h4 0 u y hu rfl
      refine ⟨y, h5, h6, fun w' hw => ?_⟩
      have hc : w'.cell? ⟨m, o, none⟩ = some y := by simpa using rangeAt_heap hw h3 0 y rfl
      simp only [Instr.loadAt, Instr.sureAddr, Sem.run_bind, Sem.run_pure, Result.andThen_ok, loadVar, isAgg_run hd, hagg, Bool.false_eq_true, if_false, run_load, hc]
    · cases hs
  · cases hl
end
end Go.Ab
end
