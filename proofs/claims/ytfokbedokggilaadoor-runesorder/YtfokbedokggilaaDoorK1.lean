/- The abstract layer and its machine: what Go code does to lists, proved once over any program. -/
import Derived.CallsIn
import Derived.OrdersIn
import Derived.Deep.Quiet
import Derived.Below
import Derived.Laws.AppendOwn
import Derived.Laws.NewBlocks
import Derived.Laws.Slices
import Derived.Laws.MakeOwn
import Derived.KernelRfl
set_option linter.all false
section
/- The abstract layer, part A: abstract values, abstract states, and how they stand to the machine's frames and heap. No program in sight. -/
namespace Go.Ab
open Go.RowKit

inductive AV where
  | sc (v : Value)
  | nil
  | agg (cs : List AV)
  | tup (vs : List AV)
  | sl (sz : Nat) (l : List AV)
  | slx (sz : Nat) (l : List AV)
  | ow (sz : Nat) (l : List AV)
  | own (k : Nat)
  | ocl (b j : Nat)
  | bp (b off : Nat)
  | rp (cs : List AV)
  | ep (k i sz off : Nat)
  | ec (b j i sz off : Nat)
  | fn (f : Fn) (first cap : List AV)
  | dead
  deriving Inhabited

/-- The leaves of a value. -/
def AV.cells : AV → List AV
  | .agg cs => cs
  | v => [v]

mutual
/-- Does a value refer to the frame's row k? -/
def AV.hasOwn (k : Nat) : AV → Bool
  | .own k' => k' == k
  | .ep k' _ _ _ => k' == k
  | .agg cs => hasOwnL k cs
  | .tup vs => hasOwnL k vs
  | .fn _ f c => hasOwnL k f || hasOwnL k c
  | _ => false
def hasOwnL (k : Nat) : List AV → Bool
  | [] => false
  | a :: l => a.hasOwn k || hasOwnL k l
end

mutual
/-- Does a value refer to the row in cell j of box b? -/
def AV.hasCel (b j : Nat) : AV → Bool
  | .ocl b' j' => b' == b && j' == j
  | .ec b' j' _ _ _ => b' == b && j' == j
  | .agg cs => hasCelL b j cs
  | .tup vs => hasCelL b j vs
  | .fn _ f c => hasCelL b j f || hasCelL b j c
  | _ => false
def hasCelL (b j : Nat) : List AV → Bool
  | [] => false
  | a :: l => a.hasCel b j || hasCelL b j l
end

mutual
/-- A value that may lie in a box: no reference to a frame's row, nor to a box's cell. -/
def AV.noRef : AV → Bool
  | .own _ | .ocl _ _ | .ep _ _ _ _ | .ec _ _ _ _ _ | .ow _ _ => false
  | .agg cs => noRefL cs
  | .tup vs => noRefL vs
  | .fn _ f c => noRefL f && noRefL c
  | _ => true
def noRefL : List AV → Bool
  | [] => true
  | a :: l => a.noRef && noRefL l
end

mutual
/-- One more than the greatest number of a box that a value names. -/
def AV.mb : AV → Nat
  | .bp b _ | .ocl b _ | .ec b _ _ _ _ => b + 1
  | .agg cs => mbL cs
  | .tup vs => mbL vs
  | .fn _ f c => max (mbL f) (mbL c)
  | _ => 0
def mbL : List AV → Nat
  | [] => 0
  | a :: l => max a.mb (mbL l)
end

theorem Value.oneCell_slice (a : Option Addr) (n c : Nat) : (Value.slice a n c).oneCell' = true := rfl

/-- What a leaf reads as, in memory that stays as it is (blocks of N). -/
inductive Sh (w : World) (N : Nat → Prop) : AV → Value → Prop
  | sc (v : Value) : v.oneCell' = true → Sh w N (.sc v) v
  | nil (sz : Nat) (ad : Option Addr) : Sh w N (.sl sz []) (.slice ad 0 0)
  | sl (sz : Nat) (l : List AV) (b off cap : Nat) (c : Array Value) (T : TypeId) (fr : Nat × Nat) : N b → w.heap[b]? = some (.cells c T fr) →
      (∀ a ∈ l, a.cells.length = sz) → off + l.length * sz ≤ c.size → l.length ≤ cap →
      (∀ (k : Nat) (a : AV) (v : Value), (l.flatMap AV.cells)[k]? = some a → c[off + k]? = some v → Sh w N a v) →
      Sh w N (.sl sz l) (.slice (some ⟨b, off, none⟩) l.length cap)

theorem Sh.mono {w w' : World} {N N' : Nat → Prop} (hN : ∀ m, N m → N' m ∧ w'.heap[m]? = w.heap[m]?) {a : AV} {v : Value} (h : Sh w N a v) : Sh w' N' a v := by
  induction h with
  | sc v hv => exact .sc v hv
  | nil sz ad => exact .nil sz ad
  | sl sz l b off cap c T fr hb hh hu hs hc _ ih => exact .sl sz l b off cap c T fr (hN b hb).1 ((hN b hb).2.trans hh) hu hs hc ih

/-- The ghost: which blocks are shared; the boxes' blocks; the rows' values. -/
structure Gh where
  N : Nat → Prop
  β : Nat → Nat
  κ : Nat → Value
  χ : Nat → Nat → Value

inductive Rv (w : World) (g : Gh) : AV → Value → Prop
  | sc (v : Value) : Rv w g (.sc v) v
  | nil : Rv w g .nil (.slice none 0 0)
  | sl {sz : Nat} {l : List AV} {v : Value} : Sh w g.N (.sl sz l) v → Rv w g (.sl sz l) v
  | slx {sz : Nat} {l : List AV} {a : Option Addr} {n : Nat} : Sh w g.N (.sl sz l) (.slice a n n) → Rv w g (.slx sz l) (.slice a n n)
  | agg {cs : List AV} {vs : Array Value} : cs.length = vs.size → (∀ (i : Nat) (a : AV) (v : Value), cs[i]? = some a → vs[i]? = some v → Rv w g a v) → Rv w g (.agg cs) (.agg vs)
  | tup {cs : List AV} {vs : Array Value} : cs.length = vs.size → (∀ (i : Nat) (a : AV) (v : Value), cs[i]? = some a → vs[i]? = some v → Rv w g a v) → Rv w g (.tup cs) (.tuple vs)
  | own (k : Nat) : Rv w g (.own k) (g.κ k)
  | ocl (b j : Nat) : Rv w g (.ocl b j) (g.χ b j)
  | bp (b off : Nat) : Rv w g (.bp b off) (.pointer (some ⟨g.β b, off, none⟩))
  | rp {cs : List AV} {b off : Nat} {c : Array Value} {T : TypeId} {fr : Nat × Nat} : g.N b → w.heap[b]? = some (.cells c T fr) → off + cs.length ≤ c.size →
      (∀ (k : Nat) (a : AV) (v : Value), cs[k]? = some a → c[off + k]? = some v → Sh w g.N a v) → Rv w g (.rp cs) (.pointer (some ⟨b, off, none⟩))
  | ep {k i sz off b len cap : Nat} : g.κ k = .slice (some ⟨b, 0, none⟩) len cap → Rv w g (.ep k i sz off) (.pointer (some ⟨b, i * sz + off, none⟩))
  | ec {b j i sz off m len cap : Nat} : g.χ b j = .slice (some ⟨m, 0, none⟩) len cap → Rv w g (.ec b j i sz off) (.pointer (some ⟨m, i * sz + off, none⟩))
  | fn {f : Fn} {first cap : List AV} {fs cs : Array Value} : first.length = fs.size → cap.length = cs.size →
      (∀ (i : Nat) (a : AV) (v : Value), first[i]? = some a → fs[i]? = some v → Rv w g a v) → (∀ (i : Nat) (a : AV) (v : Value), cap[i]? = some a → cs[i]? = some v → Rv w g a v) → Rv w g (.fn f first cap) (.func f fs cs)
  | dead {v : Value} : Rv w g .dead v

theorem Sh.one {w : World} {N : Nat → Prop} {a : AV} {v : Value} (h : Sh w N a v) : v.oneCell' = true := by
  cases h with
  | sc _ hv => exact hv
  | nil => rfl
  | sl => rfl
theorem mbL_get : ∀ {l : List AV} {i : Nat} {a : AV}, l[i]? = some a → a.mb ≤ mbL l
  | [], _, _, h => by simp at h
  | b :: l, i, a, hi => by
    simp only [mbL]
    cases i with
    | zero => simp at hi; subst hi; omega
    | succ i => simp at hi; have := mbL_get hi; omega
theorem hasOwnL_get {k : Nat} : ∀ {l : List AV}, hasOwnL k l = false → ∀ {i : Nat} {a : AV}, l[i]? = some a → a.hasOwn k = false
  | [], _, _, _, h => by simp at h
  | b :: l, h, i, a, hi => by
    simp only [hasOwnL, Bool.or_eq_false_iff] at h
    cases i with
    | zero => simp at hi; exact hi ▸ h.1
    | succ i => simp at hi; exact hasOwnL_get h.2 hi
theorem hasOwnL_of {k : Nat} {l : List AV} {i : Nat} {a : AV} (hi : l[i]? = some a) (h : a.hasOwn k = true) : hasOwnL k l = true := by
  by_cases hf : hasOwnL k l = false
  · rw [hasOwnL_get hf hi] at h; cases h
  · simpa using hf
theorem hasCelL_get {b j : Nat} : ∀ {l : List AV}, hasCelL b j l = false → ∀ {i : Nat} {a : AV}, l[i]? = some a → a.hasCel b j = false
  | [], _, _, _, h => by simp at h
  | x :: l, h, i, a, hi => by
    simp only [hasCelL, Bool.or_eq_false_iff] at h
    cases i with
    | zero => simp at hi; exact hi ▸ h.1
    | succ i => simp at hi; exact hasCelL_get h.2 hi
theorem hasCelL_of {b j : Nat} {l : List AV} {i : Nat} {a : AV} (hi : l[i]? = some a) (h : a.hasCel b j = true) : hasCelL b j l = true := by
  by_cases hf : hasCelL b j l = false
  · rw [hasCelL_get hf hi] at h; cases h
  · simpa using hf
theorem noRefL_get : ∀ {l : List AV}, noRefL l = true → ∀ {i : Nat} {a : AV}, l[i]? = some a → a.noRef = true
  | [], _, _, _, h => by simp at h
  | x :: l, h, i, a, hi => by
    simp only [noRefL, Bool.and_eq_true] at h
    cases i with
    | zero => simp at hi; exact hi ▸ h.1
    | succ i => simp at hi; exact noRefL_get h.2 hi

/-- A value's reading abides: shared memory as it was (there may be more of it), and the ghost's words on what the value names. -/
theorem Rv.mono {w w' : World} {g g' : Gh} {a : AV} {v : Value} (h : Rv w g a v) (hN : ∀ m, g.N m → g'.N m ∧ w'.heap[m]? = w.heap[m]?)
    (hk : ∀ k, a.hasOwn k = true → g'.κ k = g.κ k) (hc : ∀ b j, a.hasCel b j = true → g'.χ b j = g.χ b j) (hb : ∀ b, b < a.mb → g'.β b = g.β b) : Rv w' g' a v := by
  induction h with
  | sc v => exact .sc v
  | nil => exact .nil
  | sl h => exact .sl (h.mono hN)
  | slx h => exact .slx (h.mono hN)
  | agg hl _ ih =>
    refine .agg hl fun i a v hi hv => ih i a v hi hv (fun k hh => hk k ?_) (fun b j hh => hc b j ?_) (fun b h => hb b (by have := mbL_get hi; simp only [AV.mb]; omega))
    · simp only [AV.hasOwn]; exact hasOwnL_of hi hh
    · simp only [AV.hasCel]; exact hasCelL_of hi hh
  | tup hl _ ih =>
    refine .tup hl fun i a v hi hv => ih i a v hi hv (fun k hh => hk k ?_) (fun b j hh => hc b j ?_) (fun b h => hb b (by have := mbL_get hi; simp only [AV.mb]; omega))
    · simp only [AV.hasOwn]; exact hasOwnL_of hi hh
    · simp only [AV.hasCel]; exact hasCelL_of hi hh
  | own k => rw [← hk k (by simp [AV.hasOwn])]; exact .own k
  | ocl b j => rw [← hc b j (by simp [AV.hasCel])]; exact .ocl b j
  | bp b off => rw [← hb b (by simp [AV.mb])]; exact .bp b off
  | rp hn hh hs hall => exact .rp (hN _ hn).1 ((hN _ hn).2.trans hh) hs fun k a v hk' hv => (hall k a v hk' hv).mono hN
  | @ep k i sz off b len cap h => exact .ep (len := len) (cap := cap) ((hk k (by simp [AV.hasOwn])).trans h)
  | @ec b j i sz off m len cap h => exact .ec (len := len) (cap := cap) ((hc b j (by simp [AV.hasCel])).trans h)
  | @fn f first cap fs cs h1 h2 _ _ ih1 ih2 =>
    refine .fn h1 h2 (fun i a v hi hv => ih1 i a v hi hv (fun k hh => hk k ?_) (fun b j hh => hc b j ?_) (fun b h => hb b (by have := mbL_get hi; simp only [AV.mb]; omega))) (fun i a v hi hv => ih2 i a v hi hv (fun k hh => hk k ?_) (fun b j hh => hc b j ?_) (fun b h => hb b (by have := mbL_get hi; simp only [AV.mb]; omega)))
    · simp only [AV.hasOwn, Bool.or_eq_true]; exact .inl (hasOwnL_of hi hh)
    · simp only [AV.hasCel, Bool.or_eq_true]; exact .inl (hasCelL_of hi hh)
    · simp only [AV.hasOwn, Bool.or_eq_true]; exact .inr (hasOwnL_of hi hh)
    · simp only [AV.hasCel, Bool.or_eq_true]; exact .inr (hasCelL_of hi hh)
  | dead => exact .dead

theorem Rv.kept {w w' : World} {g : Gh} {a : AV} {v : Value} (h : Rv w g a v) (hN : ∀ m, g.N m → w'.heap[m]? = w.heap[m]?) : Rv w' g a v :=
  h.mono (fun m hm => ⟨hm, hN m hm⟩) (fun _ _ => rfl) (fun _ _ _ => rfl) (fun _ _ => rfl)

mutual
theorem noRef_hasOwn (k : Nat) : ∀ (a : AV), a.noRef = true → a.hasOwn k = false
  | .sc _, _ | .nil, _ | .sl _ _, _ | .slx _ _, _ | .bp _ _, _ | .rp _, _ | .dead, _ => rfl
  | .agg cs, h => by simp only [AV.noRef] at h; simp only [AV.hasOwn]; exact noRefL_hasOwn k cs h
  | .tup cs, h => by simp only [AV.noRef] at h; simp only [AV.hasOwn]; exact noRefL_hasOwn k cs h
  | .fn _ f c, h => by simp only [AV.noRef, Bool.and_eq_true] at h; simp only [AV.hasOwn, Bool.or_eq_false_iff]; exact ⟨noRefL_hasOwn k f h.1, noRefL_hasOwn k c h.2⟩
  | .own _, h | .ocl _ _, h | .ep _ _ _ _, h | .ec _ _ _ _ _, h | .ow _ _, h => by simp [AV.noRef] at h
theorem noRefL_hasOwn (k : Nat) : ∀ (l : List AV), noRefL l = true → hasOwnL k l = false
  | [], _ => rfl
  | a :: l, h => by simp only [noRefL, Bool.and_eq_true] at h; simp only [hasOwnL, Bool.or_eq_false_iff]; exact ⟨noRef_hasOwn k a h.1, noRefL_hasOwn k l h.2⟩
end
mutual
theorem noRef_hasCel (b j : Nat) : ∀ (a : AV), a.noRef = true → a.hasCel b j = false
  | .sc _, _ | .nil, _ | .sl _ _, _ | .slx _ _, _ | .bp _ _, _ | .rp _, _ | .dead, _ => rfl
  | .agg cs, h => by simp only [AV.noRef] at h; simp only [AV.hasCel]; exact noRefL_hasCel b j cs h
  | .tup cs, h => by simp only [AV.noRef] at h; simp only [AV.hasCel]; exact noRefL_hasCel b j cs h
  | .fn _ f c, h => by simp only [AV.noRef, Bool.and_eq_true] at h; simp only [AV.hasCel, Bool.or_eq_false_iff]; exact ⟨noRefL_hasCel b j f h.1, noRefL_hasCel b j c h.2⟩
  | .own _, h | .ocl _ _, h | .ep _ _ _ _, h | .ec _ _ _ _ _, h | .ow _ _, h => by simp [AV.noRef] at h
theorem noRefL_hasCel (b j : Nat) : ∀ (l : List AV), noRefL l = true → hasCelL b j l = false
  | [], _ => rfl
  | a :: l, h => by simp only [noRefL, Bool.and_eq_true] at h; simp only [hasCelL, Bool.or_eq_false_iff]; exact ⟨noRef_hasCel b j a h.1, noRefL_hasCel b j l h.2⟩
end

mutual
theorem hasCel_mb (b j : Nat) : ∀ (a : AV), a.hasCel b j = true → b < a.mb
  | .ocl b' j', h => by simp only [AV.hasCel, Bool.and_eq_true, beq_iff_eq] at h; simp only [AV.mb]; omega
  | .ec b' j' _ _ _, h => by simp only [AV.hasCel, Bool.and_eq_true, beq_iff_eq] at h; simp only [AV.mb]; omega
  | .agg cs, h => by simp only [AV.hasCel] at h; simp only [AV.mb]; exact hasCelL_mb b j cs h
  | .tup cs, h => by simp only [AV.hasCel] at h; simp only [AV.mb]; exact hasCelL_mb b j cs h
  | .fn _ f c, h => by
    simp only [AV.hasCel, Bool.or_eq_true] at h; simp only [AV.mb]
    rcases h with h | h
    · have := hasCelL_mb b j f h; omega
    · have := hasCelL_mb b j c h; omega
  | .sc _, h | .nil, h | .sl _ _, h | .slx _ _, h | .bp _ _, h | .rp _, h | .dead, h | .own _, h | .ep _ _ _ _, h | .ow _ _, h => by simp [AV.hasCel] at h
theorem hasCelL_mb (b j : Nat) : ∀ (l : List AV), hasCelL b j l = true → b < mbL l
  | [], h => by simp [hasCelL] at h
  | a :: l, h => by
    simp only [hasCelL, Bool.or_eq_true] at h; simp only [mbL]
    rcases h with h | h
    · have := hasCel_mb b j a h; omega
    · have := hasCelL_mb b j l h; omega
end

/-- A list by keys, ascending as long as it is made by 'put'. -/
def get {α : Type} : List (Nat × α) → Nat → Option α
  | [], _ => none
  | (k, v) :: l, t => if t = k then some v else get l t
def put {α : Type} : List (Nat × α) → Nat → α → List (Nat × α)
  | [], t, v => [(t, v)]
  | (k, u) :: l, t, v => if t = k then (t, v) :: l else if t < k then (t, v) :: (k, u) :: l else (k, u) :: put l t v
def del {α : Type} : List (Nat × α) → Nat → List (Nat × α)
  | [], _ => []
  | (k, u) :: l, t => if t = k then del l t else (k, u) :: del l t
/-- The keys whose values do not pass. -/
def bad {α : Type} (p : Nat → α → Bool) (l : List (Nat × α)) : List Nat := (l.filter fun x => !p x.1 x.2).map (·.1)
/-- Only what passes a test of key and value. -/
def only {α : Type} (p : Nat → α → Bool) (l : List (Nat × α)) : List (Nat × α) := l.filter fun x => !(bad p l).contains x.1
theorem get_put {α : Type} : ∀ (l : List (Nat × α)) (t u : Nat) (v : α), get (put l t v) u = if u = t then some v else get l u
  | [], t, u, v => by simp [put, get]
  | (k, x) :: l, t, u, v => by
    unfold put
    by_cases h1 : t = k
    · subst h1; simp only [if_true, get]; by_cases h : u = t <;> simp [h]
    · simp only [h1, if_false]
      by_cases h2 : t < k
      · simp only [h2, if_true, get]
      · simp only [h2, if_false, get, get_put l t u v]
        by_cases h : u = t
        · subst h; simp [h1]
        · simp [h]
theorem get_del {α : Type} : ∀ (l : List (Nat × α)) (t u : Nat), get (del l t) u = if u = t then none else get l u
  | [], t, u => by simp [del, get]
  | (k, x) :: l, t, u => by
    unfold del
    by_cases h1 : t = k
    · subst h1; simp only [if_true, get_del l t u, get]; by_cases h : u = t <;> simp [h]
    · simp only [h1, if_false, get, get_del l t u]
      by_cases h : u = t
      · subst h; simp [h1]
      · simp [h]
theorem get_filter_key {α : Type} {q : Nat → Bool} : ∀ {l : List (Nat × α)} {t : Nat}, get (l.filter fun x => q x.1) t = if q t then get l t else none
  | [], t => by simp [get]
  | (k, x) :: l, t => by
    rw [List.filter_cons]
    by_cases hq : q k = true
    · simp only [hq, if_true, get]
      by_cases ht : t = k
      · subst ht; simp [hq]
      · simp only [ht, if_false]; exact get_filter_key
    · simp only [hq, if_false, Bool.false_eq_true, get]
      rw [get_filter_key]
      by_cases ht : t = k
      · subst ht; simp [hq]
      · simp [ht]
theorem get_mem {α : Type} : ∀ {l : List (Nat × α)} {t : Nat} {v : α}, get l t = some v → (t, v) ∈ l
  | [], t, v, h => by simp [get] at h
  | (k, x) :: l, t, v, h => by
    simp only [get] at h
    by_cases ht : t = k
    · subst ht; simp only [if_true, Option.some.injEq] at h; subst h; exact List.mem_cons_self
    · simp only [ht, if_false] at h; exact List.mem_cons_of_mem _ (get_mem h)
/-- What is left was there, and passes. -/
theorem get_only {α : Type} {p : Nat → α → Bool} {l : List (Nat × α)} {t : Nat} {v : α} (h : get (only p l) t = some v) : get l t = some v ∧ p t v = true := by
  unfold only at h
  rw [get_filter_key (q := fun k => !(bad p l).contains k)] at h
  by_cases hq : (!(bad p l).contains t) = true
  · simp only [hq, if_true] at h
    refine ⟨h, ?_⟩
    by_cases hp : p t v = true
    · exact hp
    · exfalso
      have : t ∈ bad p l := List.mem_map.2 ⟨(t, v), List.mem_filter.2 ⟨get_mem h, by simpa using hp⟩, rfl⟩
      simp [this] at hq
  · simp only [hq, if_false, Bool.false_eq_true] at h; cases h
end Go.Ab
end
section
/- The abstract layer, part B: states and the relation; how it abides growth of memory, new rows, new boxes, stores. -/
namespace Go.Ab
open Go.RowKit

structure ASt where
  n : Nat
  s : List (Nat × AV)
  r : List (Nat × (Nat × List AV))
  b : List (List AV)
  l : List (Nat × Obj) := []

structure Env where
  P : Program
  G : Nat → Option (List AV)

/-- What was there when the function was entered. -/
structure Entry where
  w0 : World
  N0 : Nat → Prop
  F0 : Nat → Prop
  β0 : Nat → Nat
  n0 : Nat

inductive Key where
  | row (k : Nat)
  | box (b : Nat)
  | cel (b j : Nat)
  | lp (i : Nat)
  deriving DecidableEq

def RowR (w : World) (N : Nat → Prop) (sz : Nat) (l : List AV) (v : Value) : Prop :=
  0 < sz ∧ ∃ (e : TypeId) (xs : List Value), w.ownsRow 0 e sz v l.length xs ∧ (∀ a ∈ l, a.cells.length = sz) ∧
    ∀ (k : Nat) (a : AV) (x : Value), (l.flatMap AV.cells)[k]? = some a → xs[k]? = some x → Sh w N a x

def CellV (w : World) (g : Gh) (nb b j : Nat) : AV → Value → Prop
  | .ow _ _, x => x = g.χ b j
  | a, x => Rv w g a x ∧ a.noRef = true ∧ x.oneCell' = true ∧ a.mb ≤ nb

def BoxR (w : World) (g : Gh) (nb b : Nat) (cs : List AV) : Prop :=
  ∃ (c : Array Value) (T : TypeId), w.heap[g.β b]? = some (.cells c T (0, 0)) ∧ c.size = cs.length ∧
    ∀ (j : Nat) (a : AV) (x : Value), cs[j]? = some a → c[j]? = some x → CellV w g nb b j a x

def GlobR (w : World) (g : Gh) (i : Nat) (cs : List AV) : Prop :=
  g.N i ∧ ∃ (c : Array Value) (T : TypeId) (fr : Nat × Nat), w.heap[i]? = some (.cells c T fr) ∧ cs.length ≤ c.size ∧
    ∀ (k : Nat) (a : AV) (v : Value), cs[k]? = some a → c[k]? = some v → Sh w g.N a v

def ASt.cellAt (st : ASt) (b j : Nat) : Option AV := (st.b[b]?).bind (·[j]?)

/-- The block of a thing that this frame may write. -/
def live (st : ASt) (g : Gh) : Key → Option Nat
  | .row k => if (get st.r k).isSome then (g.κ k).ownBlock else none
  | .box b => if b < st.b.length then some (g.β b) else none
  | .cel b j => match st.cellAt b j with
    | some (.ow _ _) => (g.χ b j).ownBlock
    | _ => none
  | .lp i => (st.l[i]?).map (·.1)

/-- The marks of loops over functions that have ended. -/
def DefR (E : Entry) (w : World) (g : Gh) (ds : List Deferred) : Prop :=
  ∃ Ds : List Nat, ds = Ds.map (fun D => ({ target := .collected D, args := #[] } : Deferred)) ∧ Ds.Nodup ∧ ∀ D ∈ Ds, g.N D ∧ E.w0.heap.size ≤ D ∧ w.heap[D]? = some (.deferred (some []))
/-- What lies still. -/
def GA (C : Env) (E : Entry) (ds : List Deferred) (w : World) (g : Gh) : Prop := (∀ i cs, C.G i = some cs → GlobR w g i cs) ∧ DefR E w g ds

structure RelX (C : Env) (E : Entry) (X : Option Key) (st : ASt) (a : Act) (w : World) (g : Gh) : Prop where
  size : a.tmps.size = st.n
  slots : ∀ t v, get st.s t = some v → ∃ x, a.tmps[t]? = some x ∧ Rv w g v x
  bx : ∀ t v, get st.s t = some v → v.mb ≤ st.b.length
  rows : ∀ k p, get st.r k = some p → X ≠ some (.row k) → RowR w g.N p.1 p.2 (g.κ k)
  boxes : ∀ b cs, st.b[b]? = some cs → X ≠ some (.box b) → BoxR w g st.b.length b cs
  crows : ∀ b j sz l, st.cellAt b j = some (.ow sz l) → X ≠ some (.cel b j) → RowR w g.N sz l (g.χ b j)
  disj : ∀ x y m, live st g x = some m → live st g y = some m → x = y
  mine : ∀ x m, live st g x = some m → ¬ g.N m ∧ (E.F0 m ∨ E.w0.heap.size ≤ m) ∧ m < w.heap.size
  kept : ∀ m, m < E.w0.heap.size → ¬ E.F0 m → w.heap[m]? = E.w0.heap[m]?
  stab : ∀ m, g.N m → m < w.heap.size ∧ (E.N0 m ∨ E.F0 m ∨ E.w0.heap.size ≤ m)
  stab0 : ∀ m, E.N0 m → g.N m
  beta : E.n0 ≤ st.b.length ∧ ∀ b, b < E.n0 → g.β b = E.β0 b
  os : w.os = E.w0.os
  tape : w.tape = E.w0.tape
  output : w.output = E.w0.output
  grown : E.w0.heap.size ≤ w.heap.size
  glob : GA C E a.defers w g
  lpc : ∀ i p, st.l[i]? = some p → X ≠ some (.lp i) → w.heap[p.1]? = some p.2

abbrev Rel (C : Env) (E : Entry) (st : ASt) (a : Act) (w : World) (g : Gh) : Prop := RelX C E none st a w g

theorem RowR.kept {w w' : World} {N N' : Nat → Prop} {sz : Nat} {l : List AV} {v : Value} (h : RowR w N sz l v) (hN : ∀ m, N m → N' m ∧ w'.heap[m]? = w.heap[m]?)
    (hv : ∀ m, v.ownBlock = some m → w'.heap[m]? = w.heap[m]?) : RowR w' N' sz l v := by
  obtain ⟨h0, e, xs, ho, hu, hx⟩ := h
  refine ⟨h0, e, xs, ⟨ho.1, ?_⟩, hu, fun k a x h1 h2 => (hx k a x h1 h2).mono hN⟩
  rcases ho.2 with h2 | ⟨m, cap, cur, h1, h2, h3, h4⟩
  · exact .inl h2
  · refine .inr ⟨m, cap, cur, h1, h2, ?_, h4⟩
    rw [hv m (by rw [h1]; rfl)]; exact h3

theorem RowR.lt {w : World} {N : Nat → Prop} {sz : Nat} {l : List AV} {v : Value} (h : RowR w N sz l v) {m : Nat} (hm : v.ownBlock = some m) : m < w.heap.size := by
  obtain ⟨_, e, xs, ho, _⟩ := h
  exact (ho.lt m hm).2

theorem CellV.kept {w w' : World} {g g' : Gh} {nb nb' b j : Nat} {a : AV} {x : Value} (h : CellV w g nb b j a x) (hN : ∀ m, g.N m → g'.N m ∧ w'.heap[m]? = w.heap[m]?)
    (hc : g'.χ b j = g.χ b j) (hb : ∀ b, b < nb → g'.β b = g.β b) (hnb : nb ≤ nb') : CellV w' g' nb' b j a x := by
  unfold CellV at *
  split at h
  · exact h.trans hc.symm
  · obtain ⟨h1, h2, h3, h4⟩ := h
    refine ⟨h1.mono hN (fun k hk => by rw [noRef_hasOwn k _ h2] at hk; cases hk) (fun b j hk => by rw [noRef_hasCel b j _ h2] at hk; cases hk) (fun b hlt => hb b (by omega)), h2, h3, by omega⟩

theorem BoxR.kept {w w' : World} {g g' : Gh} {nb nb' b : Nat} {cs : List AV} (h : BoxR w g nb b cs) (hlt : b < nb) (hN : ∀ m, g.N m → g'.N m ∧ w'.heap[m]? = w.heap[m]?)
    (hc : ∀ j, g'.χ b j = g.χ b j) (hb : ∀ b, b < nb → g'.β b = g.β b) (hnb : nb ≤ nb') (hw : w'.heap[g.β b]? = w.heap[g.β b]?) : BoxR w' g' nb' b cs := by
  obtain ⟨c, T, h1, h2, h3⟩ := h
  exact ⟨c, T, by rw [hb b hlt, hw]; exact h1, h2, fun j a x ha hx => (h3 j a x ha hx).kept hN (hc j) hb hnb⟩

theorem GlobR.kept {w w' : World} {g g' : Gh} {i : Nat} {cs : List AV} (h : GlobR w g i cs) (hN : ∀ m, g.N m → g'.N m ∧ w'.heap[m]? = w.heap[m]?) : GlobR w' g' i cs := by
  obtain ⟨h0, c, T, fr, h1, h2, h3⟩ := h
  exact ⟨(hN i h0).1, c, T, fr, by rw [(hN i h0).2]; exact h1, h2, fun k a v ha hv => (h3 k a v ha hv).mono hN⟩

theorem DefR.kept {E : Entry} {w w' : World} {g g' : Gh} {ds : List Deferred} (h : DefR E w g ds) (hN : ∀ m, g.N m → g'.N m ∧ w'.heap[m]? = w.heap[m]?) : DefR E w' g' ds := by
  obtain ⟨Ds, h1, h2, h3⟩ := h
  exact ⟨Ds, h1, h2, fun D hD => let ⟨q1, q2, q3⟩ := h3 D hD; ⟨(hN D q1).1, q2, by rw [(hN D q1).2]; exact q3⟩⟩
theorem GA.kept {C : Env} {E : Entry} {w w' : World} {g g' : Gh} {ds : List Deferred} (h : GA C E ds w g) (hN : ∀ m, g.N m → g'.N m ∧ w'.heap[m]? = w.heap[m]?) : GA C E ds w' g' :=
  ⟨fun i cs hi => (h.1 i cs hi).kept hN, h.2.kept hN⟩
theorem GA.none {C : Env} {E E' : Entry} {w : World} {g : Gh} {ds : List Deferred} (h : GA C E ds w g) : GA C E' [] w g := ⟨h.1, [], rfl, List.nodup_nil, fun _ h => by cases h⟩

theorem live_lp {st : ASt} {g : Gh} {i : Nat} {p : Nat × Obj} (h : st.l[i]? = some p) : live st g (.lp i) = some p.1 := by simp [live, h]
theorem live_box {st : ASt} {g : Gh} {b : Nat} {cs : List AV} (h : st.b[b]? = some cs) : live st g (.box b) = some (g.β b) := by
  have : b < st.b.length := by
    rcases Nat.lt_or_ge b st.b.length with h1 | h1
    · exact h1
    · rw [List.getElem?_eq_none h1] at h; cases h
  simp [live, this]
theorem live_row {st : ASt} {g : Gh} {k : Nat} {p : Nat × List AV} (h : get st.r k = some p) : live st g (.row k) = (g.κ k).ownBlock := by simp [live, h]
theorem live_cel {st : ASt} {g : Gh} {b j sz : Nat} {l : List AV} (h : st.cellAt b j = some (.ow sz l)) : live st g (.cel b j) = (g.χ b j).ownBlock := by simp [live, h]
theorem cellAt_lt {st : ASt} {b j : Nat} {a : AV} (h : st.cellAt b j = some a) : b < st.b.length := by
  unfold ASt.cellAt at h
  rcases Nat.lt_or_ge b st.b.length with h1 | h1
  · exact h1
  · rw [List.getElem?_eq_none h1] at h; simp at h

section
variable {C : Env} {E : Entry} {X : Option Key} {st : ASt} {a : Act} {w w' : World} {g : Gh}

/-- Memory has grown, and one thing of this frame's own may have been written: all else stands. -/
theorem RelX.touch (h : RelX C E X st a w g) (Y : Key) (hX : X = none ∨ X = some Y) (hg : w.grownBy w' (live st g Y)) : RelX C E (some Y) st a w' g := by
  have hN : ∀ m, g.N m → g.N m ∧ w'.heap[m]? = w.heap[m]? := fun m hm => ⟨hm, hg.block m (h.stab m hm).1 (fun e => (h.mine Y m e.symm).1 hm)⟩
  have hother : ∀ Z m, Z ≠ Y → live st g Z = some m → w'.heap[m]? = w.heap[m]? := fun Z m hne hl =>
    hg.block m (h.mine Z m hl).2.2 (fun e => hne (h.disj Z Y m hl e.symm))
  have hXne : ∀ Z, some Y ≠ some Z → X ≠ some Z := fun Z hne => by rcases hX with rfl | rfl <;> simp_all
  exact {
    size := h.size
    slots := fun t v ht => let ⟨x, h1, h2⟩ := h.slots t v ht; ⟨x, h1, h2.kept fun m hm => (hN m hm).2⟩
    bx := h.bx
    rows := fun k p hk hne => (h.rows k p hk (hXne _ hne)).kept hN fun m hm => hother (.row k) m (fun e => hne (by rw [e])) (by rw [live_row hk]; exact hm)
    boxes := fun b cs hb hne => (h.boxes b cs hb (hXne _ hne)).kept (by have := live_box (g := g) hb; simp [live] at this; exact this) hN (fun _ => rfl) (fun _ _ => rfl) (Nat.le_refl _)
      (hother (.box b) _ (fun e => hne (by rw [e])) (live_box hb))
    crows := fun b j sz l hc hne => (h.crows b j sz l hc (hXne _ hne)).kept hN fun m hm => hother (.cel b j) m (fun e => hne (by rw [e])) (by rw [live_cel hc]; exact hm)
    disj := h.disj
    mine := fun x m hx => let ⟨h1, h2, h3⟩ := h.mine x m hx; ⟨h1, h2, Nat.lt_of_lt_of_le h3 hg.size⟩
    kept := fun m hm hf => (hg.block m (Nat.lt_of_lt_of_le hm h.grown) (fun e => by
      rcases (h.mine Y m e.symm).2.1 with h1 | h1
      · exact hf h1
      · omega)).trans (h.kept m hm hf)
    stab := fun m hm => ⟨Nat.lt_of_lt_of_le (h.stab m hm).1 hg.size, (h.stab m hm).2⟩
    stab0 := h.stab0
    beta := h.beta
    os := hg.os.trans h.os
    tape := hg.tape.trans h.tape
    output := hg.output.trans h.output
    grown := Nat.le_trans h.grown hg.size
    glob := h.glob.kept hN
    lpc := fun i p hp hne => (hother (.lp i) p.1 (fun e => hne (by rw [e])) (live_lp hp)).trans (h.lpc i p hp (hXne _ hne)) }

/-- Memory has grown, nothing that was there has been written. -/
theorem RelX.grow (h : RelX C E X st a w g) (hg : w.grownBy w' none) : RelX C E X st a w' g := by
  have hN : ∀ m, g.N m → g.N m ∧ w'.heap[m]? = w.heap[m]? := fun m hm => ⟨hm, hg.block m (h.stab m hm).1 (by simp)⟩
  have hother : ∀ Z m, live st g Z = some m → w'.heap[m]? = w.heap[m]? := fun Z m hl => hg.block m (h.mine Z m hl).2.2 (by simp)
  exact {
    size := h.size
    slots := fun t v ht => let ⟨x, h1, h2⟩ := h.slots t v ht; ⟨x, h1, h2.kept fun m hm => (hN m hm).2⟩
    bx := h.bx
    rows := fun k p hk hne => (h.rows k p hk hne).kept hN fun m hm => hother (.row k) m (by rw [live_row hk]; exact hm)
    boxes := fun b cs hb hne => (h.boxes b cs hb hne).kept (by have := live_box (g := g) hb; simp [live] at this; exact this) hN (fun _ => rfl) (fun _ _ => rfl) (Nat.le_refl _)
      (hother (.box b) _ (live_box hb))
    crows := fun b j sz l hc hne => (h.crows b j sz l hc hne).kept hN fun m hm => hother (.cel b j) m (by rw [live_cel hc]; exact hm)
    disj := h.disj
    mine := fun x m hx => let ⟨h1, h2, h3⟩ := h.mine x m hx; ⟨h1, h2, Nat.lt_of_lt_of_le h3 hg.size⟩
    kept := fun m hm hf => (hg.block m (Nat.lt_of_lt_of_le hm h.grown) (by simp)).trans (h.kept m hm hf)
    stab := fun m hm => ⟨Nat.lt_of_lt_of_le (h.stab m hm).1 hg.size, (h.stab m hm).2⟩
    stab0 := h.stab0
    beta := h.beta
    os := hg.os.trans h.os
    tape := hg.tape.trans h.tape
    output := hg.output.trans h.output
    grown := Nat.le_trans h.grown hg.size
    glob := h.glob.kept hN
    lpc := fun i p hp hne => (hother (.lp i) p.1 (live_lp hp)).trans (h.lpc i p hp hne) }

theorem grownBy_same (hw : w'.heap = w.heap) (ho : w'.os = w.os) (ht : w'.tape = w.tape) (hp : w'.output = w.output) : w.grownBy w' none :=
  ⟨ho, ht, hp, by rw [hw]; exact Nat.le_refl _, fun k _ _ => by rw [hw]⟩

/-- One of the frame's temporaries. -/
def ASt.put (st : ASt) (d : Nat) (v : AV) : ASt := if d < st.n then { st with s := Ab.put st.s d v } else st
def ASt.putO (st : ASt) (d : Option Nat) (v : AV) : ASt := match d with
  | some d => st.put d v
  | none => st

theorem RelX.put (h : RelX C E X st a w g) (d : Option Nat) {v : AV} {x : Value} (hv : Rv w g v x) (hb : v.mb ≤ st.b.length) : RelX C E X (st.putO d v) (a.put d x) w g := by
  cases d with
  | none => exact h
  | some d =>
    unfold ASt.putO ASt.put Act.put
    by_cases hd : d < st.n
    · simp only [hd, if_true]
      exact {
        size := by simp only [Array.size_setIfInBounds]; exact h.size
        slots := fun t u ht => by
          rw [get_put] at ht
          by_cases e : t = d
          · subst e
            simp only [if_true, Option.some.injEq] at ht
            subst ht
            exact ⟨x, by rw [Array.getElem?_setIfInBounds_self_of_lt (by rw [h.size]; exact hd)], hv⟩
          · simp only [e, if_false] at ht
            obtain ⟨y, h1, h2⟩ := h.slots t u ht
            exact ⟨y, by rw [Array.getElem?_setIfInBounds_ne (Ne.symm e)]; exact h1, h2⟩
        bx := fun t u ht => by
          rw [get_put] at ht
          by_cases e : t = d
          · subst e; simp only [if_true, Option.some.injEq] at ht; subst ht; exact hb
          · simp only [e, if_false] at ht; exact h.bx t u ht
        rows := h.rows, boxes := h.boxes, crows := h.crows, disj := h.disj, mine := h.mine, kept := h.kept, stab := h.stab, stab0 := h.stab0, beta := h.beta,
        os := h.os, tape := h.tape, output := h.output, grown := h.grown, glob := h.glob, lpc := h.lpc }
    · simp only [hd, if_false]
      have : a.tmps.setIfInBounds d x = a.tmps := by
        apply Array.ext_getElem?
        intro i
        by_cases hi : i = d
        · subst hi; rw [Array.getElem?_eq_none (by simp only [Array.size_setIfInBounds, h.size]; omega), Array.getElem?_eq_none (by rw [h.size]; omega)]
        · rw [Array.getElem?_setIfInBounds_ne (Ne.symm hi)]
      rw [this]; exact h

/-- Fewer slots and rows: nothing else turns. -/
theorem RelX.less (h : RelX C E X st a w g) (s' : List (Nat × AV)) (r' : List (Nat × (Nat × List AV))) (hs : ∀ t v, get s' t = some v → get st.s t = some v)
    (hr : ∀ k p, get r' k = some p → get st.r k = some p) : RelX C E X { st with s := s', r := r' } a w g := by
  have hl : ∀ x m, live { st with s := s', r := r' } g x = some m → live st g x = some m := by
    intro x m hx
    cases x with
    | row k =>
      simp only [live] at hx ⊢
      split at hx
      · rename_i hk
        obtain ⟨p, hp⟩ := Option.isSome_iff_exists.1 hk
        simp [hr k p hp, hx]
      · cases hx
    | box b => exact hx
    | cel b j => exact hx
    | lp i => exact hx
  exact {
    size := h.size
    slots := fun t v ht => h.slots t v (hs t v ht)
    bx := fun t v ht => h.bx t v (hs t v ht)
    rows := fun k p hk hne => h.rows k p (hr k p hk) hne
    boxes := h.boxes, crows := h.crows
    disj := fun x y m hx hy => h.disj x y m (hl x m hx) (hl y m hy)
    mine := fun x m hx => h.mine x m (hl x m hx)
    kept := h.kept, stab := h.stab, stab0 := h.stab0, beta := h.beta, os := h.os, tape := h.tape, output := h.output, grown := h.grown, glob := h.glob, lpc := h.lpc }

/-- The row k is no longer told of: what was open of it no longer matters. -/
theorem RelX.shut (h : RelX C E X st a w g) (hX : ∀ x, X = some x → live st g x = none ∧ (∀ k, x = .row k → get st.r k = none) ∧ (∀ b, x ≠ .box b) ∧ (∀ b j, x = .cel b j → ∀ sz l, st.cellAt b j ≠ some (.ow sz l)) ∧ (∀ i, x ≠ .lp i)) : Rel C E st a w g := by
  cases X with
  | none => exact h
  | some x =>
    obtain ⟨_, h2, h3, h4, h5⟩ := hX x rfl
    exact {
      size := h.size, slots := h.slots, bx := h.bx
      rows := fun k p hk _ => h.rows k p hk (fun e => by rw [h2 k (Option.some.inj e)] at hk; cases hk)
      boxes := fun b cs hb _ => h.boxes b cs hb (fun e => h3 b (Option.some.inj e))
      crows := fun b j sz l hc _ => h.crows b j sz l hc (fun e => h4 b j (Option.some.inj e) sz l hc)
      disj := h.disj, mine := h.mine, kept := h.kept, stab := h.stab, stab0 := h.stab0, beta := h.beta, os := h.os, tape := h.tape, output := h.output, grown := h.grown, glob := h.glob
      lpc := fun i p hp _ => h.lpc i p hp (fun e => h5 i (Option.some.inj e)) }

def Gh.setK (g : Gh) (k : Nat) (v : Value) : Gh := { g with κ := fun k' => if k' = k then v else g.κ k' }

/-- A row under key k: its value v, and what it holds. -/
theorem RelX.newRow (h : RelX C E X st a w g) {k sz : Nat} {l : List AV} {v : Value} (hX : X = none ∨ X = some (.row k)) (hno : ∀ t u, get st.s t = some u → u.hasOwn k = false)
    (hr : RowR w g.N sz l v) (hm : ∀ m, v.ownBlock = some m → ¬ g.N m ∧ (E.F0 m ∨ E.w0.heap.size ≤ m) ∧ ∀ Y, Y ≠ .row k → live st g Y ≠ some m) :
    Rel C E { st with r := Ab.put st.r k (sz, l) } a w (g.setK k v) := by
  have hk : ∀ k', k' ≠ k → (g.setK k v).κ k' = g.κ k' := fun k' hne => by simp [Gh.setK, hne]
  have hkk : (g.setK k v).κ k = v := by simp [Gh.setK]
  have hl : ∀ x, x ≠ .row k → live { st with r := Ab.put st.r k (sz, l) } (g.setK k v) x = live st g x := by
    intro x hx
    cases x with
    | row k' =>
      have hne : k' ≠ k := fun e => hx (by rw [e])
      simp only [live, get_put, hne, if_false, hk k' hne]
    | box b => rfl
    | cel b j => rfl
    | lp i => rfl
  have hlk : live { st with r := Ab.put st.r k (sz, l) } (g.setK k v) (.row k) = v.ownBlock := by simp [live, get_put, hkk]
  have hXne : ∀ Z, Z ≠ .row k → X ≠ some Z := fun Z hne => by rcases hX with rfl | rfl <;> simp_all [Ne.symm]
  have hRv : ∀ {u : AV} {x : Value}, Rv w g u x → u.hasOwn k = false → Rv w (g.setK k v) u x := fun hu hn =>
    hu.mono (fun m hm => ⟨hm, rfl⟩) (fun k' hh => hk k' (fun e => by rw [e, hn] at hh; cases hh)) (fun _ _ _ => rfl) (fun _ _ => rfl)
  exact {
    size := h.size
    slots := fun t u ht => let ⟨x, h1, h2⟩ := h.slots t u ht; ⟨x, h1, hRv h2 (hno t u ht)⟩
    bx := h.bx
    rows := fun k' p hp _ => by
      simp only [get_put] at hp
      by_cases e : k' = k
      · subst e; simp only [if_true, Option.some.injEq] at hp; subst hp; rw [hkk]; exact hr
      · simp only [e, if_false] at hp
        rw [hk k' e]; exact h.rows k' p hp (hXne _ (fun e' => e (Key.row.inj e')))
    boxes := fun b cs hb _ => (h.boxes b cs hb (hXne _ (by simp))).kept (by have := live_box (g := g) hb; simp [live] at this; exact this) (fun m hm => ⟨hm, rfl⟩) (fun _ => rfl) (fun _ _ => rfl) (Nat.le_refl _) rfl
    crows := fun b j sz l hc _ => h.crows b j sz l hc (hXne _ (by simp))
    disj := fun x y m hx hy => by
      by_cases ex : x = .row k
      · subst ex
        by_cases ey : y = .row k
        · exact ey.symm
        · rw [hlk] at hx; rw [hl y ey] at hy; exact absurd hy ((hm m hx).2.2 y ey)
      · by_cases ey : y = .row k
        · subst ey; rw [hlk] at hy; rw [hl x ex] at hx; exact absurd hx ((hm m hy).2.2 x ex)
        · rw [hl x ex] at hx; rw [hl y ey] at hy; exact h.disj x y m hx hy
    mine := fun x m hx => by
      by_cases ex : x = .row k
      · subst ex; rw [hlk] at hx; exact ⟨(hm m hx).1, (hm m hx).2.1, hr.lt hx⟩
      · rw [hl x ex] at hx; exact h.mine x m hx
    kept := h.kept, stab := h.stab, stab0 := h.stab0, beta := h.beta, os := h.os, tape := h.tape, output := h.output, grown := h.grown
    glob := h.glob.kept (fun m hm => ⟨hm, rfl⟩)
    lpc := fun i p hp _ => h.lpc i p hp (hXne _ (by simp)) }
end
end Go.Ab
end
