/- The abstract layer and its machine: what Go code does to lists, proved once over any program. -/
import Derived.Test.YtfokbedokggilaaDoorK3
set_option linter.all false
section
/- The abstract layer, part X: the step of a call. -/
namespace Go.Ab
open Go.RowKit

mutual
/-- The rows that a value names. -/
def AV.owns : AV → List Nat
  | .own k => [k]
  | .ep k _ _ _ => [k]
  | .agg cs => ownsL cs
  | .tup vs => ownsL vs
  | .fn _ f c => ownsL f ++ ownsL c
  | _ => []
def ownsL : List AV → List Nat
  | [] => []
  | a :: l => a.owns ++ ownsL l
end
mutual
theorem owns_of (k : Nat) : ∀ (a : AV), a.hasOwn k = true → k ∈ a.owns
  | .own k', h => by simp only [AV.hasOwn, beq_iff_eq] at h; simp [AV.owns, h]
  | .ep k' _ _ _, h => by simp only [AV.hasOwn, beq_iff_eq] at h; simp [AV.owns, h]
  | .agg cs, h => by simp only [AV.hasOwn] at h; simp only [AV.owns]; exact ownsL_of k cs h
  | .tup cs, h => by simp only [AV.hasOwn] at h; simp only [AV.owns]; exact ownsL_of k cs h
  | .fn _ f c, h => by
    simp only [AV.hasOwn, Bool.or_eq_true] at h; simp only [AV.owns, List.mem_append]
    exact h.imp (ownsL_of k f) (ownsL_of k c)
  | .sc _, h | .nil, h | .sl _ _, h | .slx _ _, h | .bp _ _, h | .rp _, h | .dead, h | .ow _ _, h | .ocl _ _, h | .ec _ _ _ _ _, h => by simp [AV.hasOwn] at h
theorem ownsL_of (k : Nat) : ∀ (l : List AV), hasOwnL k l = true → k ∈ ownsL l
  | [], h => by simp [hasOwnL] at h
  | a :: l, h => by
    simp only [hasOwnL, Bool.or_eq_true] at h; simp only [ownsL, List.mem_append]
    exact h.imp (owns_of k a) (ownsL_of k l)
end

def getAll (s : List (Nat × AV)) : Nat → Nat → Option (List AV)
  | _, 0 => some []
  | i, n + 1 => match get s i, getAll s (i + 1) n with
    | some v, some vs => some (v :: vs)
    | _, _ => none
/-- What a call gives. -/
def resV (st : ASt) : Option AV := match getAll st.s 0 st.n with
  | some [v] => some v
  | some vs => some (.tup vs)
  | none => none

theorem getAll_len {s : List (Nat × AV)} : ∀ {n i : Nat} {vs : List AV}, getAll s i n = some vs → vs.length = n ∧ ∀ (t : Nat) (v : AV), vs[t]? = some v → get s (i + t) = some v
  | 0, i, vs, h => by simp only [getAll, Option.some.injEq] at h; subst h; exact ⟨rfl, fun t v h => by simp at h⟩
  | n + 1, i, vs, h => by
    unfold getAll at h
    split at h
    · rename_i v us h1 h2
      simp only [Option.some.injEq] at h; subst h
      obtain ⟨q1, q2⟩ := getAll_len h2
      refine ⟨by simp [q1], fun t u hu => ?_⟩
      cases t with
      | zero => simp at hu; subst hu; exact h1
      | succ t =>
        have := q2 t u (by simpa using hu)
        rwa [show i + (t + 1) = i + 1 + t by omega]
    · cases h

section
variable {C : Env} {E : Entry} {st st1 : ASt} {a : Act} {w w' : World} {g g1 : Gh}

theorem resV_sound {vals : Array Value} (h : Rel C E st1 ⟨vals, []⟩ w g) {v : AV} (hv : resV st1 = some v) : Rv w g v (packV vals) ∧ v.mb ≤ st1.b.length := by
  have hsz : vals.size = st1.n := h.size
  have key : ∀ vs, getAll st1.s 0 st1.n = some vs → vs.length = vals.size ∧ (∀ (i : Nat) (b : AV) (x : Value), vs[i]? = some b → vals[i]? = some x → Rv w g b x) ∧ mbL vs ≤ st1.b.length := fun vs hvs => by
    obtain ⟨q1, q2⟩ := getAll_len hvs
    refine ⟨by omega, fun i b x hb hx => ?_, mbL_le fun b hb => ?_⟩
    · have h2 := q2 i b hb
      rw [Nat.zero_add] at h2
      obtain ⟨y, e1, e2⟩ := h.slots i b h2
      rw [hx] at e1; cases e1; exact e2
    · obtain ⟨i, hi, rfl⟩ := List.getElem_of_mem hb
      exact h.bx _ _ (q2 i _ (List.getElem?_eq_getElem hi))
  unfold resV at hv
  split at hv
  · rename_i u hu
    simp only [Option.some.injEq] at hv; subst hv
    obtain ⟨q1, q2, q3⟩ := key _ hu
    have h1 : vals.size = 1 := by simpa using q1.symm
    refine ⟨?_, by simpa [mbL] using q3⟩
    have : packV vals = vals[0] := by simp [packV, h1]
    rw [this]
    exact q2 0 u _ rfl (by simp [h1])
  · rename_i vs hne hvs
    simp only [Option.some.injEq] at hv; subst hv
    obtain ⟨q1, q2, q3⟩ := key _ hvs
    refine ⟨?_, by simpa [AV.mb] using q3⟩
    have h1 : vals.size ≠ 1 := fun e => by
      obtain ⟨u, rfl⟩ : ∃ u, vs = [u] := by
        match vs, q1 with
        | [u], _ => exact ⟨u, rfl⟩
        | [], q1 => simp at q1; omega
        | _ :: _ :: _, q1 => simp at q1; omega
      exact hne u rfl
    have : packV vals = .tuple vals := by simp [packV, h1]
    rw [this]
    exact .tup q1 q2
  · cases hv

/-- The caller's state after a call. -/
def ASt.after (st : ASt) (ks : List Nat) (pass : Bool) (d : Option Nat) (st1 : ASt) : Option ASt :=
  match d with
  | none => some ((st.left ks pass).back pass 0 { st1 with s := [], r := [] })
  | some d => match resV st1 with
    | some v => if v.owns.all (fun k => (get st1.r k).isSome) = true ∧ (pass = true ∨ (v.noCel = true ∧ v.mb = 0)) then
        some (((st.left ks pass).back pass (1000000 * (d + 1)) st1).put d (shiftA (1000000 * (d + 1)) v))
      else none
    | none => none

theorem bare_rel {vals : Array Value} (h : Rel C E st1 ⟨vals, []⟩ w g) : Rel C E { st1 with s := [], r := [] } ⟨vals, []⟩ w g :=
  h.less [] [] (fun _ _ ht => by simp [get] at ht) (fun _ _ ht => by simp [get] at ht)

theorem after_rel (h : Rel C E st a w g) {mv : List Nat} {vs as : List AV} {rs : List (Nat × (Nat × List AV))} {ks : List Nat} (hm : moveArgs st mv 0 vs = some (as, rs, ks)) {pass : Bool}
    {xs vals : Array Value} (hx : xs.size = vs.length) (hv : ∀ (i : Nat) (v : AV) (x : Value), vs[i]? = some v → xs[i]? = some x → Rv w g v x)
    (h1 : Rel C (calleeE (calleeSt st as rs pass) w (calleeG g xs)) st1 ⟨vals, []⟩ w' g1) {d : Option Nat} {st2 : ASt} (ha : st.after ks pass d st1 = some st2) :
    ∃ g2, Rel C E st2 (a.put d (packV vals)) w' g2 := by
  cases d with
  | none =>
    simp only [ASt.after, Option.some.injEq] at ha; subst ha
    exact ⟨_, back_rel h hm hx hv (bare_rel h1) 0⟩
  | some d =>
    simp only [ASt.after] at ha
    split at ha
    · rename_i v hres
      split at ha
      · rename_i hc
        obtain ⟨hc1, hc2⟩ := hc
        simp only [Option.some.injEq] at ha; subst ha
        have hb := back_rel h hm hx hv h1 (1000000 * (d + 1))
        obtain ⟨e1, e2⟩ := resV_sound h1 hres
        refine ⟨_, RelX.put hb (some d) (e1.shift (fun _ hm => hm) (fun k hk => ?_) (fun b j hk => ?_) (fun b hlt => ?_)) ?_⟩
        · have := List.all_eq_true.1 hc1 k (owns_of k v hk)
          simp only [backG]
          rw [if_pos ⟨by omega, by rw [Nat.add_sub_cancel_left]; exact this⟩, Nat.add_sub_cancel_left]
        · rcases hc2 with rfl | ⟨hc2, _⟩
          · rfl
          · rw [noCel_hasCel b j v hc2] at hk; cases hk
        · rcases hc2 with rfl | ⟨_, hc2⟩
          · rfl
          · omega
        · rw [shift_mb]
          rcases hc2 with rfl | ⟨_, hc2⟩
          · exact e2
          · omega
      · cases ha
    · cases ha
end

/-- The arguments by the types of the parameters. -/
def convL (C : Env) : List TypeId → List AV → List AV
  | _, [] => []
  | T :: Ts, v :: vs => argA (hints C.P 9 T) v :: convL C Ts vs
  | [], vs => vs
theorem convL_len {C : Env} : ∀ (Ts : List TypeId) (vs : List AV), (convL C Ts vs).length = vs.length
  | _, [] => by simp [convL]
  | T :: Ts, v :: vs => by simp [convL, convL_len Ts vs]
  | [], v :: vs => by simp [convL]
theorem convL_get {C : Env} {w : World} {g : Gh} : ∀ {Ts : List TypeId} {vs : List AV} {xs : List Value}, (∀ (i : Nat) (v : AV) (x : Value), vs[i]? = some v → xs[i]? = some x → Rv w g v x) →
    ∀ (i : Nat) (v : AV) (x : Value), (convL C Ts vs)[i]? = some v → xs[i]? = some x → Rv w g v x
  | _, [], _, _, i, v, x, h, _ => by simp [convL] at h
  | [], v0 :: vs, xs, hr, i, v, x, h, hx => by simp only [convL] at h; exact hr i v x h hx
  | T :: Ts, v0 :: vs, xs, hr, i, v, x, h, hx => by
    simp only [convL] at h
    cases xs with
    | nil => simp at hx
    | cons y ys =>
      cases i with
      | zero => simp at h hx; subst h hx; exact (argA_rv (hr 0 v0 y rfl rfl)).1
      | succ i => exact convL_get (Ts := Ts) (vs := vs) (xs := ys) (fun j u z hu hz => hr (j + 1) u z (by simpa using hu) (by simpa using hz)) i v x (by simpa using h) (by simpa using hx)

def keepL (mv : List Nat) : Nat → List AV → List AV
  | _, [] => []
  | i, v :: vs => if mv.contains i then keepL mv (i + 1) vs else v.cells ++ keepL mv (i + 1) vs

/-- A call's beginning: what is called, the caller's state (what is only lent is shared), the function's slots and rows, the keys given away. -/
def callPrep (C : Env) (st : ASt) (mv : FuncId → List Nat) (f : Operand) (args : List Operand) (Ts : List TypeId) : Option (FuncId × ASt × List AV × List AV × List (Nat × (Nat × List AV)) × List Nat) :=
  match st.ev C f, evL C st args with
  | some (.fn (.func fid) first _), some vs0 =>
    let st' := st.shareL (keepL (mv fid) first.length vs0)
    match st'.ev C f, evL C st' args with
    | some (.fn (.func fid') first' cap'), some vs1 =>
      let vs := first' ++ convL C Ts vs1 ++ cap'
      match moveArgs st' (mv fid) 0 vs with
      | some (as, rs, ks) => if fid' = fid then some (fid, st', vs, as, rs, ks) else none
      | none => none
    | _, _ => none
  | _, _ => none

mutual
/-- A value that holds no address. -/
def AV.flat : AV → Bool
  | .sc _ | .nil => true
  | .agg cs => flatL cs
  | .tup vs => flatL vs
  | _ => false
def flatL : List AV → Bool
  | [] => true
  | a :: l => a.flat && flatL l
end
theorem flatL_get : ∀ {l : List AV}, flatL l = true → ∀ {i : Nat} {a : AV}, l[i]? = some a → a.flat = true
  | [], _, _, _, h => by simp at h
  | x :: l, h, i, a, hi => by
    simp only [flatL, Bool.and_eq_true] at h
    cases i with
    | zero => simp at hi; exact hi ▸ h.1
    | succ i => simp at hi; exact flatL_get h.2 hi
mutual
theorem flat_mb : ∀ (a : AV), a.flat = true → a.mb = 0
  | .sc _, _ | .nil, _ => rfl
  | .agg cs, h => by simp only [AV.flat] at h; simp only [AV.mb]; exact flatL_mb cs h
  | .tup cs, h => by simp only [AV.flat] at h; simp only [AV.mb]; exact flatL_mb cs h
  | .own _, h | .sl _ _, h | .slx _ _, h | .bp _ _, h | .rp _, h | .dead, h | .ow _ _, h | .ocl _ _, h | .ec _ _ _ _ _, h | .ep _ _ _ _, h | .fn _ _ _, h => by simp [AV.flat] at h
theorem flatL_mb : ∀ (l : List AV), flatL l = true → mbL l = 0
  | [], _ => rfl
  | a :: l, h => by simp only [flatL, Bool.and_eq_true] at h; simp only [mbL, flat_mb a h.1, flatL_mb l h.2]; omega
end
theorem Rv.flat {w w' : World} {g g' : Gh} {a : AV} {v : Value} (h : Rv w g a v) (hf : a.flat = true) : Rv w' g' a v := by
  induction h with
  | sc v => exact .sc v
  | nil => exact .nil
  | agg hl _ ih => simp only [AV.flat] at hf; exact .agg hl fun i a v hi hv => ih i a v hi hv (flatL_get hf hi)
  | tup hl _ ih => simp only [AV.flat] at hf; exact .tup hl fun i a v hi hv => ih i a v hi hv (flatL_get hf hi)
  | _ => simp [AV.flat] at hf

/-- What is to hold after a call. -/
def callNext (st st' : ASt) (ks : List Nat) (pass lend : Bool) (d : Option Nat) (K : ASt → Prop) (Q : Exit → ASt → Prop) : AEnd → ASt → Prop
  | .ret, st1 => if lend then match resV st1 with
      | some v => v.flat = true ∧ K (st.putO d v)
      | none => False
    else match st'.after ks pass d st1 with
      | some st2 => K st2
      | none => False
  | .panic p, st1 => if lend then Q (.panic [{ v := p, recovered := false }]) st else Q (.panic [{ v := p, recovered := false }]) ((st'.left ks pass).back pass 0 { st1 with s := [], r := [] })

/-- A call of a function of the program, with the contract that is at hand. -/
def Wcall (C : Env) (pol : Pol) (f : Operand) (args : List Operand) (Ts : List TypeId) (d : Option Nat) (K : ASt → Prop) (Q : Exit → ASt → Prop) (st : ASt) : Prop :=
  match callPrep C st pol.mv f args Ts with
  | some (fid, st', _, as, rs, ks) =>
    let lend := pol.fl.contains fid
    let pass := !lend && mbL as != 0
    (mbL as ≤ (if pass then st'.b else []).length ∧ (lend = true → ks = [])) ∧ ∃ R, ACall C fid (calleeSt st' as rs pass) R ∧ ∀ ae st1, R ae st1 → callNext st st' ks pass lend d K Q ae st1
  | none => False
end Go.Ab
end
section
/- The abstract layer, part Y: calls are what the machine does; functions. -/
namespace Go.Ab
open Go.RowKit

section
variable {C : Env} {E : Entry} {st st1 : ASt} {a : Act} {w w' : World} {g g1 : Gh}

theorem callFunc_go {P : Program} {f : FuncId} (h : goFn P f = true) (args : Array Value) (w : World) : (callFunc f args).run P w = .ok (.enter f args) w := by
  unfold goFn at h
  split at h
  · rename_i fn hf
    simp only [Bool.and_eq_true, bne_iff_ne, ne_eq] at h
    obtain ⟨h1, h2⟩ := h
    have h3 : fn.body.isNone = false := by cases hb : fn.body <;> simp_all
    have h4 : (fn.name == "runtime.NumGoroutine") = false := by simpa using h2
    unfold callFunc
    simp only [Sem.run_bind, run_program, Result.andThen_ok, hf, h4, h3, Bool.false_eq_true, if_false, Sem.run_pure]
  · cases h

theorem callPrep_spec {mv : FuncId → List Nat} {f : Operand} {args : List Operand} {Ts : List TypeId} {fid : FuncId} {st' : ASt} {vs as : List AV} {rs : List (Nat × (Nat × List AV))} {ks : List Nat}
    (h : Rel C E st a w g) (hp : callPrep C st mv f args Ts = some (fid, st', vs, as, rs, ks)) :
    ∃ g' first cap, Rel C E st' a w g' ∧ a.eval f = .func (.func fid) first cap ∧ moveArgs st' (mv fid) 0 vs = some (as, rs, ks) ∧
      (first ++ (args.map a.eval).toArray ++ cap).size = vs.length ∧ (∀ (i : Nat) (v : AV) (x : Value), vs[i]? = some v → (first ++ (args.map a.eval).toArray ++ cap)[i]? = some x → Rv w g' v x) := by
  unfold callPrep at hp
  split at hp
  · rename_i fid0 first0 cap0 vs0 hf0 hv0
    simp only at hp
    obtain ⟨g', h'⟩ := shareL_sound (keepL (mv fid0) first0.length vs0) h
    split at hp
    · rename_i fid1 first1 cap1 vs1 hf1 hv1
      split at hp
      · rename_i as' rs' ks' hm
        split at hp
        · rename_i e
          simp only [Option.some.injEq, Prod.mk.injEq] at hp
          obtain ⟨rfl, rfl, rfl, rfl, rfl, rfl⟩ := hp
          have hfv := (ev_sound h' hf1).1
          generalize hz : a.eval f = z at hfv
          cases hfv
          rename_i fs cs q1 q2 q3 q4
          subst e
          obtain ⟨l1, l2, _⟩ := evL_sound h' hv1
          refine ⟨g', fs, cs, h', rfl, hm, ?_, ?_⟩
          · simp only [Array.size_append, List.length_append, convL_len, List.size_toArray, List.length_map]; omega
          · intro i v x hi hx
            have hl2 := convL_get (C := C) (Ts := Ts) l2
            simp only [Array.getElem?_append, List.getElem?_append, Array.size_append, List.size_toArray, List.length_append, convL_len, List.length_map] at hi hx
            have hsz : fs.size = first1.length := q1.symm
            have hsz2 : vs1.length = args.length := l1
            simp only [hsz, hsz2] at hi hx
            by_cases c1 : i < first1.length + args.length
            · simp only [c1, if_true] at hi hx
              by_cases c2 : i < first1.length
              · simp only [c2, if_true] at hi hx; exact q2 i v x hi hx
              · simp only [c2, if_false] at hi hx
                exact hl2 _ v x hi (by simpa using hx)
            · simp only [c1, if_false] at hi hx; exact q4 _ v x hi hx
        · cases hp
      · cases hp
    · cases hp
  · cases hp

theorem grown_of_lent {st0 : ASt} {g0 : Gh} {b : Act} (hF : ∀ m x, live st0 g0 x ≠ some m) (h1 : Rel C (calleeE st0 w g0) st1 b w' g1) : w.grownBy w' none :=
  ⟨h1.os, h1.tape, h1.output, h1.grown, fun k hk _ => h1.kept k hk (fun ⟨x, hx⟩ => hF k x hx)⟩

theorem Wcall.sound {pol : Pol} {l : Lv} {o : Oper} {f : Operand} {args : Array Operand} {Ts : Array TypeId} {K : ASt → Prop} {Q : Exit → ASt → Prop}
    (ho : o.op = .call { callee := .value f, args := args, argTypes := Ts }) (h : Wcall C pol f args.toList Ts.toList o.dst K Q st) : AOp C l o K Q st := fun E a w g _ hr => by
  unfold Wcall at h
  split at h
  · rename_i fid st' vs as rs ks hp
    simp only at h
    generalize hlend : pol.fl.contains fid = lend at h
    generalize hpass : (!lend && mbL as != 0) = pass at h
    obtain ⟨⟨hmb, hks⟩, R, ⟨hgo, hcall⟩, hnext⟩ := h
    obtain ⟨g', first, cap, h', hf, hm, hx, hv⟩ := callPrep_spec hr hp
    generalize hxs : (first ++ (args.toList.map a.eval).toArray ++ cap) = xs at hx hv
    have h0 := callee_rel h' hm (pass := pass) hx hv hmb
    have hrun : (o.semAt (fen l).round a.eval).run C.P w = .ok (.enter fid xs) w := by
      rw [Oper.semAt_eq _ _ _ (by simp [ho])]
      unfold execOp
      simp only [ho, resolve, hf, Deferred.ofValue, Sem.run_bind, Sem.run_pure, Result.andThen_ok, invoke]
      have e : first ++ args.map a.eval ++ cap = xs := by
        have e0 : (args.toList.map a.eval).toArray = args.map a.eval := by apply Array.ext'; simp
        rw [← hxs, e0]
      rw [e]
      exact callFunc_go hgo xs w
    refine ⟨fun _ _ => trivial, ?_⟩
    rw [hrun, Oper.uponIn_enter]
    refine ⟨fun hh => by simp [fen, Fence.wide] at hh, ?_⟩
    have hc : CallsIn (fen l) (0 - 1) C.P fid xs w _ := hcall _ xs w _ trivial h0
    refine hc.mono fun e w' he => ?_
    obtain ⟨ae, vals, st1, g1, q1, q2, q3⟩ := he
    have hn := hnext ae st1 q2
    cases ae with
    | ret =>
      cases e with
      | returned v =>
        simp only [EndIs] at q1; subst q1
        cases lend with
        | true =>
          simp only [callNext, if_true] at hn
          split at hn
          · rename_i u hu
            obtain ⟨n1, n2⟩ := hn
            have hks' := hks rfl
            subst hks'
            have hp0 : pass = false := by simpa using hpass.symm
            have hF : ∀ m x, live (calleeSt st' as rs pass) (calleeG g' xs) x ≠ some m := fun m x hl => by
              rcases callee_live h' hm (pass := pass) hx hv hl with ⟨_, _, _, _, _, _, q4, _⟩ | ⟨q0, _⟩
              · simp at q4
              · rw [hp0] at q0; cases q0
            have hg := grown_of_lent hF q3
            have h2 := hr.grow hg
            have e1 := (resV_sound q3 hu).1
            exact ⟨_, g, n2, RelX.put h2 o.dst (e1.flat n1) (by rw [flat_mb u n1]; exact Nat.zero_le _)⟩
          · exact hn.elim
        | false =>
          simp only [callNext, Bool.false_eq_true, if_false] at hn
          split at hn
          · rename_i st2 ha
            obtain ⟨g2, hrel⟩ := after_rel h' hm hx hv q3 ha
            exact ⟨st2, g2, hn, hrel⟩
          · exact hn.elim
      | panicked ch => exact q1.elim
      | outgrown => exact q1.elim
    | panic p =>
      cases e with
      | returned v => exact q1.elim
      | panicked ch =>
        obtain ⟨rfl, rfl⟩ := q1
        cases lend with
        | true =>
          simp only [callNext, if_true] at hn
          have hks' := hks rfl
          subst hks'
          have hp0 : pass = false := by simpa using hpass.symm
          have hF : ∀ m x, live (calleeSt st' as rs pass) (calleeG g' xs) x ≠ some m := fun m x hl => by
            rcases callee_live h' hm (pass := pass) hx hv hl with ⟨_, _, _, _, _, _, q4, _⟩ | ⟨q0, _⟩
            · simp at q4
            · rw [hp0] at q0; cases q0
          exact ⟨_, g, hn, hr.grow (grown_of_lent hF q3)⟩
        | false =>
          simp only [callNext, Bool.false_eq_true, if_false] at hn
          exact ⟨_, _, hn, back_rel h' hm hx hv (bare_rel q3) 0⟩
      | outgrown => exact q1.elim
  · exact h.elim
end
end Go.Ab
end
