/- The abstract layer and its machine: what Go code does to lists, proved once over any program. -/
import Derived.Test.YtfokbedokggilaaDoorK10
import Derived.Laws.NewFold
set_option linter.all false
section
/- The abstract layer, part Vx: further operations: elements of array values, slices of array variables, strings gone through. -/
namespace Go.Ab
open Go.RowKit

/-- A call, the boxes passed where it is asked for. -/
def WcallP (C : Env) (pol : Pol) (pa : List FuncId) (f : Operand) (args : List Operand) (Ts : List TypeId) (d : Option Nat) (K : ASt → Prop) (Q : Exit → ASt → Prop) (st : ASt) : Prop :=
  match callPrep C st pol.mv f args Ts with
  | some (fid, st', _, as, rs, ks) =>
    let lend := pol.fl.contains fid
    let pass := !lend && (mbL as != 0 || pa.contains fid)
    (mbL as ≤ (if pass then st'.b else []).length ∧ (lend = true → ks = [])) ∧ ∃ R, ACall C fid (calleeSt st' as rs pass) R ∧ ∀ ae st1, R ae st1 → callNext st st' ks pass lend d K Q ae st1
  | none => False
section
variable {C : Env} {E : Entry} {st st1 : ASt} {a : Act} {w w' : World} {g g1 : Gh}
theorem WcallP.sound {pol : Pol} {pa : List FuncId} {l : Lv} {o : Oper} {f : Operand} {args : Array Operand} {Ts : Array TypeId} {K : ASt → Prop} {Q : Exit → ASt → Prop}
    (ho : o.op = .call { callee := .value f, args := args, argTypes := Ts }) (h : WcallP C pol pa f args.toList Ts.toList o.dst K Q st) : AOp C l o K Q st := fun E a w g _ hr => by
  unfold WcallP at h
  split at h
  · rename_i fid st' vs as rs ks hp
    simp only at h
    generalize hlend : pol.fl.contains fid = lend at h
    generalize hpass : (!lend && (mbL as != 0 || pa.contains fid)) = pass at h
    obtain ⟨⟨hmb, hks⟩, R, ⟨hgo, hcall⟩, hnext⟩ := h
    obtain ⟨g', first, cap, h', hf, hm, hx, hv⟩ := callPrep_spec hr hp
    generalize hxs : (first ++ (args.toList.map a.eval).toArray ++ cap) = xs at hx hv
    have h0 := callee_rel h' hm (pass := pass) hx hv hmb
    have hrun : (o.semAt (fen l).round a.eval).run C.P w = .ok (.enter fid xs) w := by
      rw [Oper.semAt_eq _ _ _ (by simp [ho])]
      unfold execOp
      simp only [ho, resolve, hf, Deferred.ofValue, Sem.run_bind, Sem.run_pure, Result.andThen_ok, invoke]
      have e : first ++ args.map a.eval ++ cap = xs := by
        have e0 : (args.toList.map a.eval).toArray = args.map a.eval := by apply Array.ext'; simp
        rw [← hxs, e0]
      rw [e]
      exact callFunc_go hgo xs w
    refine ⟨fun _ _ => trivial, ?_⟩
    rw [hrun, Oper.uponIn_enter]
    refine ⟨fun hh => by simp [fen, Fence.wide] at hh, ?_⟩
    have hc : CallsIn (fen l) (0 - 1) C.P fid xs w _ := hcall _ xs w _ trivial h0
    refine hc.mono fun e w' he => ?_
    obtain ⟨ae, vals, st1, g1, q1, q2, q3⟩ := he
    have hn := hnext ae st1 q2
    cases ae with
    | ret =>
      cases e with
      | returned v =>
        simp only [EndIs] at q1; subst q1
        cases lend with
        | true =>
          simp only [callNext, if_true] at hn
          split at hn
          · rename_i u hu
            obtain ⟨n1, n2⟩ := hn
            have hks' := hks rfl
            subst hks'
            have hp0 : pass = false := by simpa using hpass.symm
            have hF : ∀ m x, live (calleeSt st' as rs pass) (calleeG g' xs) x ≠ some m := fun m x hl => by
              rcases callee_live h' hm (pass := pass) hx hv hl with ⟨_, _, _, _, _, _, q4, _⟩ | ⟨q0, _⟩
              · simp at q4
              · rw [hp0] at q0; cases q0
            have hg := grown_of_lent hF q3
            have h2 := hr.grow hg
            have e1 := (resV_sound q3 hu).1
            exact ⟨_, g, n2, RelX.put h2 o.dst (e1.flat n1) (by rw [flat_mb u n1]; exact Nat.zero_le _)⟩
          · exact hn.elim
        | false =>
          simp only [callNext, Bool.false_eq_true, if_false] at hn
          split at hn
          · rename_i st2 ha
            obtain ⟨g2, hrel⟩ := after_rel h' hm hx hv q3 ha
            exact ⟨st2, g2, hn, hrel⟩
          · exact hn.elim
      | panicked ch => exact q1.elim
      | outgrown => exact q1.elim
    | panic p =>
      cases e with
      | returned v => exact q1.elim
      | panicked ch =>
        obtain ⟨rfl, rfl⟩ := q1
        cases lend with
        | true =>
          simp only [callNext, if_true] at hn
          have hks' := hks rfl
          subst hks'
          have hp0 : pass = false := by simpa using hpass.symm
          have hF : ∀ m x, live (calleeSt st' as rs pass) (calleeG g' xs) x ≠ some m := fun m x hl => by
            rcases callee_live h' hm (pass := pass) hx hv hl with ⟨_, _, _, _, _, _, q4, _⟩ | ⟨q0, _⟩
            · simp at q4
            · rw [hp0] at q0; cases q0
          exact ⟨_, g, hn, hr.grow (grown_of_lent hF q3)⟩
        | false =>
          simp only [callNext, Bool.false_eq_true, if_false] at hn
          exact ⟨_, _, hn, back_rel h' hm hx hv (bare_rel q3) 0⟩
      | outgrown => exact q1.elim
  · exact h.elim
end

/-- What leaves all as it is, in any frame that the state describes. -/
def SQ (C : Env) (st : ASt) (o : Oper) (v : AV) : Prop := ∀ (E : Entry) (a : Act) (w : World) (g : Gh), Rel C E st a w g →
  ∃ x, Rv w g v x ∧ v.mb ≤ st.b.length ∧ ∀ w', w'.heap = w.heap → (execOp a.eval o).run C.P w' = .ok (.value x) w'

section
variable {C : Env} {E : Entry} {st : ASt} {a : Act} {w w' : World} {g : Gh}

theorem SQ.of_popQ {o : Oper} {v : AV} (h : popQ C st o = some v) : SQ C st o v := fun _ _ _ _ hr => popQ_ok hr h
theorem SQ.step {o : Oper} {v : AV} (h : SQ C st o v) (hr : Rel C E st a w g) : StepOk C E a w o (st.putO o.dst v) := by
  obtain ⟨x, h1, h2, h3⟩ := h E a w g hr
  exact ⟨_, x, w, g, h3 w rfl, .inl rfl, RelX.put hr o.dst h1 h2⟩

theorem SQ.asg {o : Oper} {x : Operand} {v : AV} (ho : o.op = .assign x) (hx : st.ev C x = some v) : SQ C st o v := fun E a w g hr =>
  ⟨a.eval x, (ev_sound hr hx).1, (ev_sound hr hx).2, fun w' _ => by unfold execOp; simp only [ho]; rfl⟩
theorem kindsOkV_len {P : Program} : ∀ {ts : List TypeId} {vs : List Value}, kindsOkV P ts vs = true → ts.length = vs.length
  | [], [], _ => rfl
  | t :: ts, v :: vs, h => by
    simp only [kindsOkV, Bool.and_eq_true] at h
    simp only [List.length_cons, kindsOkV_len h.2]
  | [], _ :: _, h => by simp [kindsOkV] at h
  | _ :: _, [], h => by simp [kindsOkV] at h
/-- What a value that passes is. -/
theorem shp_val {n : Nat} {T : TypeId} {u : AV} {z : Value} (hok : eqOk C.P n T = true) (hu : shpOk (isAggT C.P T) ((leafTs C.P n T).map (lkT C.P)) u = true) (hz : Rv w g u z) :
    ∃ vs, u.cells = vs.map AV.sc ∧ z.cells.toList = vs ∧ kindsOkV C.P (leafTs C.P n T) vs = true ∧ Shp C.P T z := by
  have hlen := leafTs_len hok
  unfold shpOk at hu
  split at hu
  · rename_i cs
    split at hu
    · rename_i ha
      obtain ⟨vs, rfl, hk⟩ := ksOk_kinds hu
      cases hz
      rename_i arr hl hall
      have e : arr.toList = vs := by
        refine List.ext_getElem? fun i => ?_
        by_cases hi : i < vs.length
        · have h1 : (vs.map AV.sc)[i]? = some (.sc vs[i]) := by rw [List.getElem?_map, List.getElem?_eq_getElem hi]; rfl
          have hi2 : i < arr.size := by rw [← hl, List.length_map]; exact hi
          have h2 := hall i _ arr[i] h1 (Array.getElem?_eq_getElem hi2)
          generalize hz : arr[i] = z at h2
          cases h2
          rw [List.getElem?_eq_getElem hi, Array.getElem?_toList, Array.getElem?_eq_getElem hi2, hz]
        · have hl2 : vs.length = arr.toList.length := by
            rw [List.length_map] at hl
            rw [hl]; rfl
          rw [List.getElem?_eq_none (Nat.le_of_not_lt hi), List.getElem?_eq_none (by omega)]
      have h3 := kindsOkV_len hk
      exact ⟨vs, rfl, e, hk, by show arr.size = _; rw [← hl, List.length_map, ← h3, hlen], fun _ => ⟨_, rfl⟩, fun _ => ha⟩
    · cases hu
  · rename_i v
    split at hu
    · cases hu
    · rename_i ha
      obtain ⟨vs, e, hk⟩ := ksOk_kinds hu
      have h3 := kindsOkV_len hk
      have h4 : vs = [v] := by
        match vs, e with
        | [x], e => simp only [List.map_cons, List.map_nil, List.cons.injEq, AV.sc.injEq, and_true] at e; rw [e]
        | [], e => simp at e
        | _ :: _ :: _, e => simp at e
      subst h4
      have hz2 : z = v := by cases hz; rfl
      subst hz2
      have hc : z.cells = #[z] ∧ ∀ us, z ≠ .agg us := by
        cases z with
        | agg us =>
          match ht : leafTs C.P n T, hk with
          | [t], hk => simp [kindsOkV, kindOkV] at hk
          | [], hk => simp [kindsOkV] at hk
          | _ :: _ :: _, hk => simp [kindsOkV] at hk
        | _ => exact ⟨rfl, fun us e => by cases e⟩
      refine ⟨[z], rfl, by rw [hc.1], hk, by rw [hc.1, ← hlen, h3]; rfl, fun h => ?_, fun ⟨us, h⟩ => absurd h (hc.2 us)⟩
      rw [ha] at h; cases h
  · cases hu
theorem SQ.eqT {o : Oper} {T T' : TypeId} {op : BinOp} {x y : Operand} {neg t : Bool} {u v : AV} (ho : o.op = .binOp op T x y T') (hn : eqNeg op (C.P.underlying T) = some neg) (hok : eqOk C.P 20 T = true) (hx : st.ev C x = some u) (hy : st.ev C y = some v)
    (hu : shpOk (isAggT C.P T) ((leafTs C.P 20 T).map (lkT C.P)) u = true) (hv : shpOk (isAggT C.P T) ((leafTs C.P 20 T).map (lkT C.P)) v = true) (hl : leavesEq u.cells v.cells = some t) : SQ C st o (.sc (.bool (if neg then !t else t))) := fun E a w g hr => by
  obtain ⟨hxv, _⟩ := ev_sound hr hx
  obtain ⟨hyv, _⟩ := ev_sound hr hy
  obtain ⟨vs, q1, q2, q3, q4⟩ := shp_val hok hu hxv
  obtain ⟨us, r1, r2, r3, r4⟩ := shp_val hok hv hyv
  rw [q1, r1, leavesEq_sc, ← q2, ← r2] at hl
  have hop : op = if neg then .neq else .eql := by
    unfold eqNeg at hn
    split at hn <;> simp only [Option.some.injEq, reduceCtorEq] at hn <;> subst hn <;> rfl
  have hg : C.P.eqGuardType C.P.depth T = false ∨ isAggT C.P T = false := by
    by_cases ha : isAggT C.P T = false
    · exact .inr ha
    · refine .inl ?_
      have h := hok
      unfold eqOk at h
      unfold isAggT at ha
      split at h
      · rename_i hu; simp [hu] at ha
      · rename_i hu; simp [hu] at ha
      · rename_i hu; simp [hu] at ha
      · simp only [Bool.and_eq_true, Bool.not_eq_true'] at h; exact h.1.1.1.2
      · cases h
  have hb : isAggT C.P T = true ∨ ∃ p q, a.eval x = .bool p ∧ a.eval y = .bool q := by
    by_cases ha : isAggT C.P T = true
    · exact .inl ha
    · refine .inr ?_
      have hub : C.P.underlying T = some .bool := by
        unfold eqNeg at hn
        unfold isAggT at ha
        split at hn
        · assumption
        · rename_i e; simp [e] at ha
        · assumption
        · rename_i e; simp [e] at ha
        · cases hn
      have key : ∀ z : Value, Shp C.P T z → kindsOkV C.P (leafTs C.P 20 T) z.cells.toList = true → ∃ p, z = .bool p := fun z hz hk => by
        have hlt : leafTs C.P 20 T = [T] := by unfold leafTs; simp [hub]
        rw [hlt] at hk
        cases z with
        | bool p => exact ⟨p, rfl⟩
        | agg cs => exact absurd (hz.2.2 ⟨cs, rfl⟩) ha
        | _ => simp [Value.cells, kindsOkV, kindOkV, hub] at hk
      obtain ⟨p, hp⟩ := key _ q4 (by rw [q2]; exact q3)
      obtain ⟨q, hq⟩ := key _ r4 (by rw [r2]; exact r3)
      exact ⟨p, q, hp, hq⟩
  refine ⟨_, .sc _, by simp [AV.mb], fun w' _ => ?_⟩
  have h1 := eq_run (n := 20) hok (by decide) q4 r4 (by rw [q2]; exact q3) hl hg neg x y w' hb
  rw [← hop] at h1
  unfold execOp
  simp only [ho, Sem.run_bind] at h1 ⊢
  rw [h1, Result.andThen_ok, Sem.run_pure]
theorem SQ.ixA {o : Oper} {T e : TypeId} {x i : Operand} {n : Nat} {cs : List AV} {v : AV} {k : Int} (ho : o.op = .index T x i) (hT : C.P.underlying T = some (.array n e)) (he : shapeOf C.P e = some (false, 1))
    (hx : st.ev C x = some (.agg cs)) (hi : intOf? (st.ev C i) = some k) (h0 : 0 ≤ k) (h1 : k < n) (hv : cs[k.toNat]? = some v) : SQ C st o v := fun E a w g hr => by
  obtain ⟨hxv, hxm⟩ := ev_sound hr hx
  obtain ⟨kd, hk⟩ := intOf?_eq hr hi
  generalize hz : a.eval x = z at hxv
  cases hxv
  rename_i vs hl hall
  have hlt : k.toNat < vs.size := by
    rcases Nat.lt_or_ge k.toNat cs.length with h | h
    · omega
    · rw [List.getElem?_eq_none h] at hv; cases hv
  refine ⟨vs[k.toNat], hall _ v _ hv (by simp [hlt]), by have := mbL_get hv; simp only [AV.mb] at hxm; omega, fun w' _ => ?_⟩
  unfold shapeOf at he
  split at he
  · rename_i d inf hd hinf
    simp only [Option.some.injEq, Prod.mk.injEq] at he
    obtain ⟨hagg, hsz⟩ := he
    have e1 : (part e vs (k.toNat * 1)).run C.P w' = .ok vs[k.toNat] w' := by
      unfold part
      simp only [Sem.run_bind, isAgg_run hd, hagg, Result.andThen_ok, Bool.false_eq_true, if_false, Nat.mul_one]
      rw [Array.getElem?_eq_getElem hlt]
      simp only [Sem.run_pure]
    unfold execOp
    simp only [ho, hz, hk, Instr.index, asIntOf, Sem.run_bind, run_underlying hT, Sem.run_pure, Result.andThen_ok, h0, h1, and_self, if_true, sizeOf_run hinf, hsz, e1]
  · cases he

/-- A block of the frame's own that nothing names any more may be shared. -/
theorem Rel.addN (h : Rel C E st a w g) {m : Nat} (hl : ∀ x, live st g x ≠ some m) (hm : m < w.heap.size) (hE : E.F0 m ∨ E.w0.heap.size ≤ m) : Rel C E st a w { g with N := fun k => g.N k ∨ k = m } := by
  have hN : ∀ k, g.N k → (g.N k ∨ k = m) ∧ w.heap[k]? = w.heap[k]? := fun k hk => ⟨.inl hk, rfl⟩
  exact {
    size := h.size
    slots := fun t v ht => let ⟨x, h1, h2⟩ := h.slots t v ht; ⟨x, h1, h2.mono hN (fun _ _ => rfl) (fun _ _ _ => rfl) (fun _ _ => rfl)⟩
    bx := h.bx
    rows := fun k p hk hne => (h.rows k p hk hne).kept hN fun _ _ => rfl
    boxes := fun b cs hb hne => (h.boxes b cs hb hne).kept (by have := live_box (g := g) hb; simp [live] at this; exact this) hN (fun _ => rfl) (fun _ _ => rfl) (Nat.le_refl _) rfl
    crows := fun b j sz l hc hne => (h.crows b j sz l hc hne).kept hN fun _ _ => rfl
    disj := fun x y m hx hy => h.disj x y m hx hy
    mine := fun x k hx => by
      obtain ⟨q1, q2, q3⟩ := h.mine x k hx
      refine ⟨?_, q2, q3⟩
      rintro (hk | rfl)
      · exact q1 hk
      · exact hl x hx
    kept := h.kept
    stab := fun k hk => by
      rcases hk with hk | rfl
      · exact h.stab k hk
      · exact ⟨hm, .inr hE⟩
    stab0 := fun k hk => .inl (h.stab0 k hk)
    beta := h.beta, os := h.os, tape := h.tape, output := h.output, grown := h.grown
    glob := h.glob.kept hN
    lpc := h.lpc }

theorem shLeaves_len : ∀ {hs : List (Option Nat)} {cs us : List AV}, shLeaves hs cs = some us → us.length = cs.length ∧ ∀ (i : Nat) (u c : AV), us[i]? = some u → cs[i]? = some c → shLeaf none c = some u ∨ ∃ h, shLeaf h c = some u
  | hs, [], us, h => by simp only [shLeaves, Option.some.injEq] at h; subst h; exact ⟨rfl, fun i u c h => by simp at h⟩
  | hs, c :: cs, us, h => by
    simp only [shLeaves] at h
    split at h
    · rename_i u us' h1 h2
      simp only [Option.some.injEq] at h; subst h
      obtain ⟨q1, q2⟩ := shLeaves_len h2
      refine ⟨by simp [q1], fun i v d hv hd => ?_⟩
      cases i with
      | zero => simp at hv hd; subst hv hd; exact .inr ⟨_, h1⟩
      | succ i => exact q2 i v d (by simpa using hv) (by simpa using hd)
    · cases h
theorem shLeaf_cells {h : Option Nat} {c u : AV} (hu : shLeaf h c = some u) : u.cells = [u] := by
  unfold shLeaf at hu
  split at hu
  · split at hu
    · simp only [Option.some.injEq] at hu; subst hu; rfl
    · cases hu
  all_goals first | (simp only [Option.some.injEq] at hu; subst hu; rfl) | cases hu

theorem sliceBounds_arr {n : Nat} {lo hi : Option Operand} {x y : Option Int} (h : Rel C E st a w g) (hlo : (lo = none ∧ x = none) ∨ ∃ p i, lo = some p ∧ x = some i ∧ intOf? (st.ev C p) = some i)
    (hhi : (hi = none ∧ y = none) ∨ ∃ p i, hi = some p ∧ y = some i ∧ intOf? (st.ev C p) = some i) (q1 : 0 ≤ x.getD 0) (q2 : x.getD 0 ≤ y.getD n) (q3 : y.getD n ≤ n) (w' : World) :
    (Instr.sliceBounds false n n (lo.map a.eval) (hi.map a.eval) none).run C.P w' = .ok ((x.getD 0).toNat, (y.getD n).toNat, n) w' := by
  have hb : ∀ (p : Operand) (i : Int) (m : Nat) (code : BoundsCode), intOf? (st.ev C p) = some i → 0 ≤ i → i ≤ m → (Instr.sliceBound (a.eval p) m code).run C.P w' = .ok i.toNat w' := fun p i m code hp h0 h1 => by
    obtain ⟨k, hk⟩ := intOf?_eq h hp
    unfold Instr.sliceBound
    simp only [hk, asIntOf, Sem.run_bind, Sem.run_pure, Result.andThen_ok, h0, h1, and_self, if_true]
  unfold Instr.sliceBounds
  rcases hhi with ⟨rfl, rfl⟩ | ⟨p, i, rfl, rfl, hp⟩
  · rcases hlo with ⟨rfl, rfl⟩ | ⟨p, i, rfl, rfl, hp⟩
    · simp
    · simp only [Option.getD_some, Option.getD_none] at q1 q2 q3
      simp only [Option.map_none, Option.map_some, Sem.run_bind, Sem.run_pure, Result.andThen_ok, Bool.false_eq_true, if_false, Option.isSome_none, hb p i n _ hp q1 q2, Option.getD_some, Option.getD_none, Int.toNat_natCast]
  · rcases hlo with ⟨rfl, rfl⟩ | ⟨p', i', rfl, rfl, hp'⟩
    · simp only [Option.getD_some, Option.getD_none] at q1 q2 q3
      simp only [Option.map_none, Option.map_some, Sem.run_bind, Sem.run_pure, Result.andThen_ok, Bool.false_eq_true, if_false, hb p i n _ hp q2 q3, Option.getD_some, Option.getD_none, Int.toNat_zero]
    · simp only [Option.getD_some] at q1 q2 q3
      have e : i' ≤ ((i.toNat : Nat) : Int) := by omega
      simp only [Option.map_some, Sem.run_bind, Sem.run_pure, Result.andThen_ok, Bool.false_eq_true, if_false, Option.isSome_none, hb p i n _ hp (by omega) q3, hb p' i' i.toNat _ hp' q1 e, Option.getD_some]

/-- A slice of an array variable that is not used any further. -/
theorem slcA_step (h : Rel C E st a w g) {nb : Nat} (hE : E.n0 ≤ nb) {o : Oper} {T : TypeId} {x : Operand} {lo hi : Option Operand} {d n b : Nat} {cs us : List AV} {p q : Option Int} (ho : o.op = .slice T x lo hi none) (hd : o.dst = some d)
    (hA : arrOf C.P T = some (n, 1)) (hx : st.ev C x = some (.bp b 0)) (hb : st.b[b]? = some cs) (hnb : nb ≤ b) (hn : cs.length = n) (hall : (st.b.take b).all (fun cs => decide (mbL cs ≤ b)) = true) (hus : shLeaves [] cs = some us)
    (hlo : (lo = none ∧ p = none) ∨ ∃ y i, lo = some y ∧ p = some i ∧ intOf? (st.ev C y) = some i) (hhi : (hi = none ∧ q = none) ∨ ∃ y i, hi = some y ∧ q = some i ∧ intOf? (st.ev C y) = some i)
    (q1 : 0 ≤ p.getD 0) (q2 : p.getD 0 ≤ q.getD us.length) (q3 : q.getD us.length ≤ us.length) :
    StepOk C E a w o (({ st with s := only (fun _ v => decide (v.mb ≤ b)) st.s, b := st.b.take b } : ASt).put d (.sl 1 ((us.take (q.getD us.length).toNat).drop (p.getD 0).toNat))) := by
  obtain ⟨hul, hua⟩ := shLeaves_len hus
  obtain ⟨hxv, _⟩ := ev_sound h hx
  generalize hz : a.eval x = z at hxv
  cases hxv
  obtain ⟨c, Tc, r1, r2, r3⟩ := h.boxes b cs hb (by simp)
  have hlb := live_box (g := g) hb
  have hblt : b < st.b.length := by simp [live] at hlb; exact hlb
  obtain ⟨m1, m2, m3⟩ := h.mine _ _ hlb
  -- boxes cut off
  have hbl : (st.b.take b).length = b := by rw [List.length_take]; omega
  have t1 : Rel C E { st with s := only (fun _ v => decide (v.mb ≤ b)) st.s, b := st.b.take b } a w g := by
    have e1 := h.less (only (fun _ v => decide (v.mb ≤ b)) st.s) st.r (fun _ _ ht => (get_only ht).1) (fun _ _ hk => hk)
    have e2 := trim_rel (nb := b) e1 (Nat.le_trans hE hnb)
    have e3 : ASt.trim { st with s := only (fun _ v => decide (v.mb ≤ b)) st.s } b = { st with s := only (fun _ v => decide (v.mb ≤ b)) st.s, b := st.b.take b } := by
      unfold ASt.trim
      simp only
      rw [if_neg (by omega), if_pos]
      rw [hall, Bool.and_true, List.all_eq_true]
      intro y hy
      by_cases hc : y.2.mb ≤ b
      · exact decide_eq_true hc
      · exfalso
        unfold only bad at hy
        simp only [List.mem_filter, Bool.not_eq_true', List.contains_eq_mem, decide_eq_false_iff_not, List.mem_map, not_exists, not_and, and_imp] at hy
        exact hy.2 y hy.1 (by simpa using hc) rfl
    rw [e3] at e2; exact e2
  have hlive : ∀ y, live { st with s := only (fun _ v => decide (v.mb ≤ b)) st.s, b := st.b.take b } g y ≠ some (g.β b) := by
    intro y hy
    cases y with
    | row k =>
      have hy' : live st g (.row k) = some (g.β b) := hy
      exact absurd (h.disj _ _ _ hy' hlb) (by simp)
    | box b' =>
      simp only [live, hbl] at hy
      split at hy
      · rename_i hlt
        have : live st g (.box b') = some (g.β b) := by simp only [live]; rw [if_pos (by omega)]; exact hy
        have := h.disj _ _ _ this hlb
        simp only [Key.box.injEq] at this; omega
      · cases hy
    | cel b' j =>
      have hcell : (({ st with s := only (fun _ v => decide (v.mb ≤ b)) st.s, b := st.b.take b } : ASt)).cellAt b' j = if b' < b then st.cellAt b' j else none := by
        simp only [ASt.cellAt, List.getElem?_take]; split <;> rfl
      simp only [live, hcell] at hy
      split at hy
      · rename_i sz l hcl
        split at hcl
        · have : live st g (.cel b' j) = some (g.β b) := by rw [live_cel hcl]; exact hy
          exact absurd (h.disj _ _ _ this hlb) (by simp)
        · cases hcl
      · cases hy
    | lp i =>
      have hy' : live st g (.lp i) = some (g.β b) := hy
      exact absurd (h.disj _ _ _ hy' hlb) (by simp)
  have t2 := t1.addN hlive m3 m2
  have hun : ∃ e i, C.P.underlying T = some (.array n e) ∧ C.P.info? e = some i ∧ i.size = 1 := by
    unfold arrOf at hA
    split at hA
    · rename_i n' e' he
      simp only [Option.map_eq_some_iff, Prod.mk.injEq] at hA
      obtain ⟨i, hi, rfl, hs⟩ := hA
      exact ⟨e', i, he, hi, hs⟩
    · cases hA
  obtain ⟨e, inf, hu, hinf, hsz⟩ := hun
  have q3' : q.getD (n : Int) ≤ n := by rw [← hn, ← hul]; exact q3
  have q2' : p.getD 0 ≤ q.getD (n : Int) := by rw [← hn, ← hul]; exact q2
  have hbd := fun w' => sliceBounds_arr h hlo hhi q1 q2' q3' w'
  have hrun : ∀ w', (execOp a.eval o).run C.P w' = .ok (.value (.slice (some (if n = (p.getD 0).toNat then ⟨g.β b, 0, none⟩ else (⟨g.β b, 0, none⟩ : Addr).add ((p.getD 0).toNat * 1))) ((q.getD (n : Int)).toNat - (p.getD 0).toNat) (n - (p.getD 0).toNat))) w' := fun w' => by
    unfold execOp
    simp only [ho, Option.map_none, hz, Instr.sliceAt, Sem.run_bind, run_underlying hu, Result.andThen_ok, Instr.sureAddr, Sem.run_pure, hbd w', sizeOf_run hinf, hsz]
  have hlen : us.length = n := by rw [hul, hn]
  have hsh : Sh w (fun k => g.N k ∨ k = g.β b) (.sl 1 ((us.take (q.getD (us.length : Int)).toNat).drop (p.getD 0).toNat)) (.slice (some (if n = (p.getD 0).toNat then ⟨g.β b, 0, none⟩ else (⟨g.β b, 0, none⟩ : Addr).add ((p.getD 0).toNat * 1))) ((q.getD (n : Int)).toNat - (p.getD 0).toNat) (n - (p.getD 0).toNat)) := by
    rw [hlen]
    generalize hlo' : (p.getD 0).toNat = lo' at *
    generalize hhi' : (q.getD (n : Int)).toNat = hi' at *
    have a1 : lo' ≤ hi' := by omega
    have a2 : hi' ≤ n := by omega
    have hll : ((us.take hi').drop lo').length = hi' - lo' := by rw [List.length_drop, List.length_take]; omega
    have hel : ∀ (i : Nat) (u : AV), ((us.take hi').drop lo')[i]? = some u → us[lo' + i]? = some u := fun i u hu => by
      rw [List.getElem?_drop, List.getElem?_take] at hu
      split at hu
      · exact hu
      · cases hu
    have hcl : ∀ u ∈ (us.take hi').drop lo', u.cells = [u] := fun u hu => by
      obtain ⟨i, hi⟩ := List.getElem?_of_mem hu
      have h1 := hel i u hi
      have hlt : lo' + i < cs.length := by
        rcases Nat.lt_or_ge (lo' + i) us.length with h2 | h2
        · omega
        · rw [List.getElem?_eq_none h2] at h1; cases h1
      rcases hua _ u _ h1 (List.getElem?_eq_getElem hlt) with h2 | ⟨_, h2⟩ <;> exact shLeaf_cells h2
    have hfm : ∀ l : List AV, (∀ u ∈ l, u.cells = [u]) → l.flatMap AV.cells = l := fun l hl => by
      induction l with
      | nil => rfl
      | cons u l ih => rw [List.flatMap_cons, hl u List.mem_cons_self, ih fun v hv => hl v (List.mem_cons_of_mem _ hv)]; rfl
    have base : ∀ off, (off = lo' ∨ (us.take hi').drop lo' = [] ∧ off ≤ n) → Sh w (fun k => g.N k ∨ k = g.β b) (.sl 1 ((us.take hi').drop lo')) (.slice (some ⟨g.β b, off, none⟩) (hi' - lo') (n - lo')) := fun off hoff => by
      have := Sh.sl (w := w) (N := fun k => g.N k ∨ k = g.β b) 1 ((us.take hi').drop lo') (g.β b) off (n - lo') c Tc (0, 0) (.inr rfl) r1 (fun u hu => by rw [hcl u hu]; rfl) (by
        rw [hll]
        rcases hoff with rfl | ⟨e, e2⟩
        · omega
        · rw [e] at hll; simp at hll; omega) (by rw [hll]; omega) (fun k u v hk hv => by
          rw [hfm _ hcl] at hk
          rcases hoff with rfl | ⟨e, _⟩
          · have h1 := hel k u hk
            have hlt : off + k < cs.length := by
              rcases Nat.lt_or_ge (off + k) us.length with h2 | h2
              · omega
              · rw [List.getElem?_eq_none h2] at h1; cases h1
            have hc := List.getElem?_eq_getElem hlt
            have hcv := r3 _ _ v hc hv
            have hrv : Rv w g cs[off + k] v := by
              rcases hua _ u _ h1 hc with h2 | ⟨_, h2⟩ <;> (generalize cs[off + k] = y at *; cases y <;> first | exact hcv.1 | simp [shLeaf] at h2)
            have hs : Sh w g.N u v := by
              rcases hua _ u _ h1 hc with h2 | ⟨_, h2⟩ <;> exact shLeaf_sound h2 hrv
            exact hs.mono fun m hm => ⟨.inl hm, rfl⟩
          · rw [e] at hk; simp at hk)
      rw [hll] at this; exact this
    split
    · rename_i e
      refine base 0 (.inr ⟨List.eq_nil_of_length_eq_zero (by rw [hll]; omega), Nat.zero_le _⟩)
    · rw [Addr.add_lit]
      exact base _ (.inl (by omega))
  rw [hlen] at hsh ⊢
  refine ⟨_, _, w, { g with N := fun k => g.N k ∨ k = g.β b }, hrun w, .inl rfl, ?_⟩
  rw [hd]
  exact put_dst t2 (.sl hsh) (by simp [AV.mb])

/-- A new thing of the frame's own. -/
theorem Rel.newObj (h : Rel C E st a w g) (ob : Obj) : Rel C E { st with l := st.l ++ [(w.heap.size, ob)] } a (w.alloc ob) g := by
  have hold : ∀ m, m < w.heap.size → (w.alloc ob).heap[m]? = w.heap[m]? := fun m hm => heap_alloc_old' w ob m hm
  have hs : (w.alloc ob).heap.size = w.heap.size + 1 := by simp
  have hg : w.grownBy (w.alloc ob) none := ⟨rfl, rfl, rfl, by omega, fun k hk _ => hold k hk⟩
  have h1 := h.grow hg
  have hget : ∀ j, (st.l ++ [(w.heap.size, ob)])[j]? = if j = st.l.length then some (w.heap.size, ob) else st.l[j]? := fun j => by
    by_cases e : j = st.l.length
    · subst e; simp
    · simp only [e, if_false]
      rcases Nat.lt_or_ge j st.l.length with h | h
      · rw [List.getElem?_append_left h]
      · rw [List.getElem?_eq_none (by simp; omega), List.getElem?_eq_none h]
  have hl : ∀ x m, live { st with l := st.l ++ [(w.heap.size, ob)] } g x = some m → (x = .lp st.l.length ∧ m = w.heap.size) ∨ (x ≠ .lp st.l.length ∧ live st g x = some m) := by
    intro x m hx
    cases x with
    | row k => exact .inr ⟨by simp, hx⟩
    | box b => exact .inr ⟨by simp, hx⟩
    | cel b j => exact .inr ⟨by simp, hx⟩
    | lp j =>
      simp only [live, hget] at hx ⊢
      by_cases e : j = st.l.length
      · subst e; simp only [if_true, Option.map_some, Option.some.injEq] at hx; exact .inl ⟨rfl, hx.symm⟩
      · simp only [e, if_false] at hx; exact .inr ⟨by simpa using e, hx⟩
  have hlt : ∀ x m, live st g x = some m → m < w.heap.size := fun x m hx => (h.mine x m hx).2.2
  exact {
    size := h1.size, slots := h1.slots, bx := h1.bx
    rows := fun k p hk _ => h1.rows k p hk (by simp)
    boxes := fun b cs hb _ => h1.boxes b cs hb (by simp)
    crows := fun b j sz l hc _ => h1.crows b j sz l hc (by simp)
    disj := fun x y m hx hy => by
      rcases hl x m hx with ⟨rfl, e1⟩ | ⟨n1, e1⟩
      · rcases hl y m hy with ⟨rfl, _⟩ | ⟨_, e2⟩
        · rfl
        · have := hlt y m e2; omega
      · rcases hl y m hy with ⟨rfl, e2⟩ | ⟨_, e2⟩
        · have := hlt x m e1; omega
        · exact h1.disj x y m e1 e2
    mine := fun x m hx => by
      rcases hl x m hx with ⟨rfl, e1⟩ | ⟨_, e1⟩
      · refine ⟨fun hn => ?_, .inr (by have := h.grown; omega), by omega⟩
        have := (h.stab m hn).1; omega
      · exact h1.mine x m e1
    kept := h1.kept, stab := h1.stab, stab0 := h1.stab0, beta := h1.beta, os := h1.os, tape := h1.tape, output := h1.output, grown := h1.grown, glob := h1.glob
    lpc := fun j p hp _ => by
      simp only [hget] at hp
      by_cases e : j = st.l.length
      · simp only [e, if_true, Option.some.injEq] at hp; subst hp; exact heap_alloc_new w ob
      · simp only [e, if_false] at hp; exact h1.lpc j p hp (by simp) }

theorem rngS_step (h : Rel C E st a w g) {o : Oper} {T : TypeId} {x : Operand} {d : Nat} {s : ByteArray} (ho : o.op = .range T x) (hd : o.dst = some d) (hT : C.P.underlying T = some .string) (hx : st.ev C x = some (.sc (.string s))) :
    StepOk C E a w o (({ st with l := st.l ++ [(w.heap.size, .stringIter s 0)] } : ASt).put d (.sc (.pointer (some ⟨w.heap.size, 0, none⟩)))) := by
  have hxv := scEq h hx
  refine ⟨.value (.pointer (some ⟨w.heap.size, 0, none⟩)), _, w.alloc (.stringIter s 0), g, ?_, .inl rfl, ?_⟩
  · unfold execOp
    simp only [ho, hxv, Instr.range, Sem.run_bind, run_underlying hT, Sem.run_pure, Result.andThen_ok, run_newObj_alloc]
  · rw [hd]; exact put_dst (h.newObj _) (.sc _) (by simp [AV.mb])

theorem nxtS_step (h : Rel C E st a w g) {o : Oper} {x : Operand} {d lp i pos : Nat} {s : ByteArray} (ho : o.op = .next x true) (hd : o.dst = some d) (hx : st.ev C x = some (.sc (.pointer (some ⟨lp, 0, none⟩)))) (hi : st.l[i]? = some (lp, .stringIter s pos)) :
    (pos < s.size → StepOk C E a w o (({ st with l := st.l.set i (lp, .stringIter s (pos + (Utf8.decode s pos).2)) } : ASt).put d (.tup [.sc (.bool true), .sc (.int .i64 (Int.ofNat pos)), .sc (.int .i32 (Utf8.decode s pos).1)]))) ∧
    (¬ pos < s.size → StepOk C E a w o (st.put d (.tup [.sc (.bool false)]))) := by
  have hxv := scEq h hx
  have hh := h.lpc i _ hi (by simp)
  have hget : (getObj lp).run C.P w = .ok (.stringIter s pos) w := by simp [getObj, Sem.run, hh]
  have htup : ∀ vs : List Value, ∀ w g, Rv w g (.tup (vs.map .sc)) (.tuple vs.toArray) := fun vs w g => .tup (by simp) fun i a v ha hv => by
    simp only [List.getElem?_map] at ha
    have : vs[i]? = some v := by simpa using hv
    rw [this] at ha; simp only [Option.map_some, Option.some.injEq] at ha; subst ha; exact .sc v
  refine ⟨fun hp => ?_, fun hp => ?_⟩
  · have hset : (setObj lp (.stringIter s (pos + (Utf8.decode s pos).2))).run C.P w = .ok () (w.putObj lp (.stringIter s (pos + (Utf8.decode s pos).2))) := by simp [setObj, Sem.run, hh, World.putObj]
    refine ⟨.value (.tuple #[.bool true, goInt pos, .int .i32 (Utf8.decode s pos).1]), _, w.putObj lp (.stringIter s (pos + (Utf8.decode s pos).2)), g, ?_, .inl rfl, ?_⟩
    · unfold execOp
      simp only [ho, hxv, Instr.next, Sem.run_bind, hget, Sem.run_pure, Result.andThen_ok, hp, if_true, hset]
    · rw [hd]
      exact put_dst (h.lpSet hi _) (htup [.bool true, goInt pos, .int .i32 (Utf8.decode s pos).1] _ _) (by simp [AV.mb, mbL])
  · refine ⟨.value (.tuple #[.bool false]), _, w, g, ?_, .inl rfl, ?_⟩
    · unfold execOp
      simp only [ho, hxv, Instr.next, Sem.run_bind, hget, Sem.run_pure, Result.andThen_ok, hp, if_false]
    · rw [hd]
      exact put_dst h (htup [.bool false] _ _) (by simp [AV.mb, mbL])
end
end Go.Ab
end
section
/- The abstract layer, part Vc: what leaves the state alone is what the machine does. -/
namespace Go.Ab
open Go.RowKit

section
variable {C : Env} {l : Lv} {nb : Nat} {gl : List (Nat × List AV)} {st : ASt}

theorem popQ_of2 {o : Oper} {v : AV} (h : pop2 C st o = some v) : popQ C st o = some v := by simp only [popQ, h, popN]
theorem popQ_of1 {o : Oper} {v : AV} (h2 : pop2 C st o = none) (h : pop1 C st o = some v) : popQ C st o = some v := by simp only [popQ, h2, popN, h, popO]
theorem sq_of2 {o : Oper} {v : AV} (h : pop2 C st o = some v) : SQ C st o v := .of_popQ (popQ_of2 h)
theorem sq_of1 {o : Oper} {v : AV} (h2 : pop2 C st o = none) (h : pop1 C st o = some v) : SQ C st o v := .of_popQ (popQ_of1 h2 h)
theorem stk_no {n : Nat} {x : RI} : ¬ stk (real C l nb) n x := fun h => h

theorem vBin_sound {x0 : RI} {op : BinOp} {a b : Option AV} {K : AV → Prop} (h : vBin (real C l nb) x0 op a b K) :
    ∃ p q u, a = some (.sc p) ∧ b = some (.sc q) ∧ bin2 op p q = some u ∧ K (.sc u) := by
  unfold vBin at h
  split at h
  · split at h
    · split at h
      · rename_i e; subst e; obtain ⟨t, h1, h2⟩ := h; exact ⟨_, _, _, rfl, rfl, h1, h2⟩
      · exact (stk_no h).elim
    · split at h
      · rename_i e; subst e; obtain ⟨t, h1, h2⟩ := h; exact ⟨_, _, _, rfl, rfl, h1, h2⟩
      · exact (stk_no h).elim
    · obtain ⟨t, h1, h2⟩ := h; exact ⟨_, _, _, rfl, rfl, h1, h2⟩
  · split at h
    · obtain ⟨t, h1, h2⟩ := h; exact ⟨_, _, _, rfl, rfl, h1, h2⟩
    · obtain ⟨t, h1, h2⟩ := h; exact ⟨_, _, _, rfl, rfl, h1, h2⟩
  · exact (stk_no h).elim

theorem vRange_sound {x0 : RI} {n : Nat} {v : Option AV} {K : List AV → Prop} (h : vRange (real C l nb) x0 st n v K) : ∃ u cs, v = some u ∧ st.range u n = some cs ∧ K cs := by
  unfold vRange at h
  split at h
  · rename_i b off
    split at h
    · rename_i cs hb
      split at h
      · rename_i cs1 h1
        split at h
        · rename_i cs2 h2
          obtain ⟨q1, q2⟩ := dropN_eq h1
          obtain ⟨q3, q4⟩ := takeN_eq h2
          refine ⟨_, _, rfl, ?_, h⟩
          subst q2 q4
          rw [List.length_drop] at q3
          simp only [ASt.range, hb]
          rw [if_pos (by omega)]
        · exact (stk_no h).elim
      · exact (stk_no h).elim
    · exact (stk_no h).elim
  · split at h
    · rename_i cs h1
      obtain ⟨q1, q2⟩ := takeN_eq h1
      refine ⟨_, _, rfl, ?_, h⟩
      simp only [ASt.range, q1, if_true, q2]
    · exact (stk_no h).elim
  · rename_i k i sz off
    split at h
    · rename_i sz' l' hr
      obtain ⟨e, h1, h2⟩ := h
      simp only at h2
      split at h2
      · rename_i hc; exact ⟨_, _, rfl, by simp only [ASt.range, hr, h1, hc, and_self, if_true], h2⟩
      · exact (stk_no h2).elim
    · exact (stk_no h).elim
  · rename_i b j i sz off
    split at h
    · rename_i sz' l' hr
      obtain ⟨e, h1, h2⟩ := h
      simp only at h2
      split at h2
      · rename_i hc; exact ⟨_, _, rfl, by simp only [ASt.range, hr, h1, hc, and_self, if_true], h2⟩
      · exact (stk_no h2).elim
    · exact (stk_no h).elim
  · exact (stk_no h).elim

theorem intOO_eq (hg : GlOk C gl) {x : Option Operand} {i : Option Int} (h : intOO gl st (x.map resO) = some i) : (x = none ∧ i = none) ∨ ∃ y j, x = some y ∧ i = some j ∧ intOf? (st.ev C y) = some j := by
  cases x with
  | none => simp only [Option.map_none, intOO, Option.some.injEq] at h; exact .inl ⟨rfl, h.symm⟩
  | some y =>
    simp only [Option.map_some, intOO] at h
    split at h
    · rename_i j hj
      simp only [Option.some.injEq] at h
      exact .inr ⟨y, j, rfl, h.symm, intO_eq hg hj⟩
    · cases h

theorem bounds_of (hg : GlOk C gl) {n : Nat} {lo hi mx : Option Operand} {a b m : Option Int} (h1 : intOO gl st (lo.map resO) = some a) (h2 : intOO gl st (hi.map resO) = some b) (h3 : intOO gl st (mx.map resO) = some m)
    (q1 : 0 ≤ a.getD 0) (q2 : a.getD 0 ≤ b.getD n) (q3 : b.getD n ≤ n) (q4 : ∀ x, m = some x → b = some x) :
    bounds C st n lo hi mx = some ((a.getD 0).toNat, (b.getD n).toNat, m.isSome) := by
  unfold bounds
  rcases intOO_eq hg h1 with ⟨rfl, rfl⟩ | ⟨x, i, rfl, rfl, e1⟩ <;> rcases intOO_eq hg h2 with ⟨rfl, rfl⟩ | ⟨y, j, rfl, rfl, e2⟩ <;> rcases intOO_eq hg h3 with ⟨rfl, rfl⟩ | ⟨z, k, rfl, rfl, e3⟩ <;>
    first
    | (have e := q4 _ rfl; cases e; done)
    | (have e := q4 _ rfl
       simp only [Option.some.injEq] at e
       subst e
       simp only [Option.getD_some, Option.getD_none] at q1 q2 q3
       simp_all)
    | (simp only [Option.getD_some, Option.getD_none] at q1 q2 q3
       simp_all)

theorem vSlice_sound (hg : GlOk C gl) {x0 : RI} {n : Nat} {lo hi mx : Option Operand} {v : Option AV} {K : AV → Prop}
    (h : vSlice (real C l nb) x0 n (intOO gl st (lo.map resO)) (intOO gl st (hi.map resO)) (intOO gl st (mx.map resO)) v K) :
    ∃ u r, v = some u ∧ K r ∧ (∃ sz L, (u = .sl sz L ∨ u = .slx sz L) ∧ sz = n ∧ (bounds C st L.length lo hi mx).map (fun (lo, hi, b) => if b then AV.slx sz ((L.take hi).drop lo) else .sl sz ((L.take hi).drop lo)) = some r) := by
  unfold vSlice at h
  split at h
  · rename_i sz L
    split at h
    · rename_i hsz
      split at h
      · rename_i a b e1 e2 e3
        obtain ⟨q1, q2, q3, q4, hk⟩ := h
        exact ⟨_, _, rfl, hk, sz, L, .inl rfl, hsz, by rw [bounds_of hg e1 e2 e3 q1 q2 q3 q4]; rfl⟩
      · rename_i a b m e1 e2 e3
        obtain ⟨q1, q2, q3, q4, hk⟩ := h
        exact ⟨_, _, rfl, hk, sz, L, .inl rfl, hsz, by rw [bounds_of hg e1 e2 e3 q1 q2 q3 q4]; rfl⟩
      · exact (stk_no h).elim
    · exact (stk_no h).elim
  · rename_i sz L
    split at h
    · rename_i hsz
      split at h
      · rename_i a b e1 e2 e3
        obtain ⟨q1, q2, q3, q4, hk⟩ := h
        exact ⟨_, _, rfl, hk, sz, L, .inr rfl, hsz, by rw [bounds_of hg e1 e2 e3 q1 q2 q3 q4]; rfl⟩
      · rename_i a b m e1 e2 e3
        obtain ⟨q1, q2, q3, q4, hk⟩ := h
        exact ⟨_, _, rfl, hk, sz, L, .inr rfl, hsz, by rw [bounds_of hg e1 e2 e3 q1 q2 q3 q4]; rfl⟩
      · exact (stk_no h).elim
    · exact (stk_no h).elim
  · exact (stk_no h).elim

theorem vP_sound (hg : GlOk C gl) {o : Oper} {ri : RI} {K : AV → Prop} (hr : resI C.P o = some ri) (h : vP (real C l nb) gl st ri K) : ∃ v, SQ C st o v ∧ K v := by
  unfold resI at hr
  split at hr
  · -- move
    rename_i x ho
    simp only [Option.some.injEq] at hr; subst hr
    simp only [vP] at h
    split at h
    · rename_i v hv; exact ⟨v, sq_of1 (by simp [pop2, ho]) (by simp only [pop1, ho, evO_eq hg hv]), h⟩
    · exact (stk_no h).elim
  · -- assign
    rename_i x ho
    simp only [Option.some.injEq] at hr; subst hr
    simp only [vP] at h
    split at h
    · exact (stk_no h).elim
    · exact (stk_no h).elim
    · rename_i v _ _ hv; exact ⟨v, SQ.asg ho (evO_eq hg hv), h⟩
    · exact (stk_no h).elim
  · -- pick
    rename_i c x y ho
    simp only [Option.some.injEq] at hr; subst hr
    simp only [vP] at h
    split at h
    · rename_i t ht
      split at h
      · split at h
        · rename_i v hv; exact ⟨v, sq_of1 (by simp [pop2, ho]) (by simp only [pop1, ho, evO_eq hg ht, if_true, evO_eq hg hv]), h⟩
        · exact (stk_no h).elim
      · split at h
        · rename_i v hv; exact ⟨v, sq_of1 (by simp [pop2, ho]) (by simp only [pop1, ho, evO_eq hg ht, Bool.false_eq_true, if_false, evO_eq hg hv]), h⟩
        · exact (stk_no h).elim
    · exact (stk_no h).elim
  · -- binOp
    rename_i op T x y T' ho
    split at hr
    · rename_i neg hneg
      split at hr
      · rename_i hok
        simp only [Option.some.injEq] at hr; subst hr
        simp only [vP] at h
        split at h
        · rename_i u v hu hv
          split at h
          · rename_i s1
            split at h
            · rename_i s2
              obtain ⟨t, h1, h2⟩ := h
              refine ⟨_, SQ.eqT ho hneg hok (evO_eq hg hu) (evO_eq hg hv) s1 s2 h1, ?_⟩
              cases neg <;> cases t <;> exact h2
            · exact (stk_no h).elim
          · exact (stk_no h).elim
        · exact (stk_no h).elim
      · cases hr
    simp only [Option.some.injEq] at hr; subst hr
    simp only [vP] at h
    obtain ⟨p, q, u, h1, h2, h3, h4⟩ := vBin_sound h
    exact ⟨_, sq_of2 (by simp only [pop2, ho, evO_eq hg h1, evO_eq hg h2, h3, Option.map_some]), h4⟩
  · -- not
    rename_i T x ho
    simp only [Option.some.injEq] at hr; subst hr
    simp only [vP] at h
    split at h
    · rename_i b hb
      split at h
      · exact ⟨_, sq_of2 (by simp only [pop2, ho, evO_eq hg hb, Bool.not_true]), h⟩
      · exact ⟨_, sq_of2 (by simp only [pop2, ho, evO_eq hg hb, Bool.not_false]), h⟩
    · exact (stk_no h).elim
  · -- convert
    rename_i S D x ho
    split at hr
    · rename_i e hS hD
      split at hr
      · rename_i he
        simp only [Option.some.injEq] at hr; subst hr
        simp only [vP] at h
        split at h
        · rename_i v hv
          split at h
          · rename_i L hL
            obtain ⟨bs, h1, h2⟩ := h
            have hev := evO_eq hg hv
            refine ⟨_, sq_of1 ?_ (by simp only [pop1, ho, hS, hD, he, hev, Option.bind_some, hL, h1, Option.map_some]), h2⟩
            simp only [pop2, ho, hev]
            cases v <;> first | rfl | simp [ASt.list] at hL
          · exact (stk_no h).elim
        · exact (stk_no h).elim
      · cases hr
    · split at hr
      · simp only [Option.some.injEq] at hr; subst hr; exact (stk_no h).elim
      · cases hr
    · rename_i d k _ _ hS hD
      simp only [Option.some.injEq] at hr; subst hr
      simp only [vP] at h
      split at h
      · rename_i k0 n hv
        exact ⟨_, sq_of2 (by simp only [pop2, ho, evO_eq hg hv, hS, hD]), h⟩
      · exact (stk_no h).elim
    · cases hr
  · -- index
    rename_i T x i ho
    split at hr
    · rename_i hT
      simp only [Option.some.injEq] at hr; subst hr
      simp only [vP] at h
      split at h
      · rename_i s k i hs hi
        obtain ⟨h0, b, h1, h2⟩ := h
        exact ⟨_, sq_of2 (by simp only [pop2, ho, evO_eq hg hs, evO_eq hg hi, hT, h0, if_true, h1]), h2⟩
      · exact (stk_no h).elim
    · rename_i n e hT
      split at hr
      · rename_i hsh
        simp only [Option.some.injEq] at hr; subst hr
        simp only [vP] at h
        split at h
        · rename_i j cs hi hx
          obtain ⟨h0, h1, h2⟩ := h
          simp only at h2
          split at h2
          · rename_i v hv
            exact ⟨v, SQ.ixA ho hT hsh (evO_eq hg hx) (intO_eq hg hi) h0 h1 hv, h2⟩
          · exact (stk_no h2).elim
        · exact (stk_no h).elim
      · cases hr
    · cases hr
  · -- load
    rename_i T p ho
    split at hr
    · rename_i b n hsh
      simp only [Option.some.injEq] at hr; subst hr
      cases b with
      | true =>
        simp only [vP] at h
        obtain ⟨u, cs, h1, h2, h3⟩ := vRange_sound h
        exact ⟨_, sq_of1 (by simp [pop2, ho]) (by simp only [pop1, ho, evO_eq hg h1, Option.bind_some, ASt.ld, hsh, h2, Option.map_some]), h3⟩
      | false =>
        simp only [vP] at h
        obtain ⟨u, cs, h1, h2, h3⟩ := vRange_sound h
        split at h3
        · rename_i v
          exact ⟨_, sq_of1 (by simp [pop2, ho]) (by simp only [pop1, ho, evO_eq hg h1, Option.bind_some, ASt.ld, hsh, h2]; rfl), h3⟩
        · exact (stk_no h3).elim
    · cases hr
  · -- nilCheck
    rename_i x ho
    simp only [Option.some.injEq] at hr; subst hr
    simp only [vP] at h
    split at h
    all_goals first
      | exact (stk_no h).elim
      | (rename_i hv; exact ⟨_, sq_of1 (by simp [pop2, ho]) (by simp only [pop1, ho, evO_eq hg hv]), h⟩)
  · -- fieldAddr
    rename_i T x f ho
    split at hr
    · rename_i off b n hf
      split at hr
      · cases hr
      · rename_i hn
        simp only [Option.some.injEq] at hr; subst hr
        simp only [vP] at h
        split at h
        · rename_i hv; exact ⟨_, sq_of1 (by simp [pop2, ho]) (by simp only [pop1, ho, hf, evO_eq hg hv, hn, if_false, AV.plus]), h⟩
        · rename_i hv
          split at h
          · rename_i cs1 hd
            obtain ⟨q1, q2⟩ := dropN_eq hd
            exact ⟨_, sq_of1 (by simp [pop2, ho]) (by simp only [pop1, ho, hf, evO_eq hg hv, hn, if_false, AV.plus, q1, if_true, q2]), h⟩
          · exact (stk_no h).elim
        · rename_i hv; exact ⟨_, sq_of1 (by simp [pop2, ho]) (by simp only [pop1, ho, hf, evO_eq hg hv, hn, if_false, AV.plus]), h⟩
        · rename_i hv; exact ⟨_, sq_of1 (by simp [pop2, ho]) (by simp only [pop1, ho, hf, evO_eq hg hv, hn, if_false, AV.plus]), h⟩
        · exact (stk_no h).elim
    · cases hr
  · -- field
    rename_i T x f ho
    split at hr
    · rename_i off b n hf
      simp only [Option.some.injEq] at hr; subst hr
      cases b with
      | true =>
        simp only [vP] at h
        split at h
        · rename_i cs hv
          split at h
          · rename_i cs1 hd
            split at h
            · rename_i cs2 ht
              obtain ⟨q1, q2⟩ := dropN_eq hd
              obtain ⟨q3, q4⟩ := takeN_eq ht
              refine ⟨_, sq_of1 (by simp [pop2, ho]) ?_, h⟩
              subst q2 q4
              rw [List.length_drop] at q3
              simp only [pop1, ho, hf, evO_eq hg hv]
              rw [if_pos (by omega)]
            · exact (stk_no h).elim
          · exact (stk_no h).elim
        · exact (stk_no h).elim
      | false =>
        simp only [vP] at h
        split at h
        · rename_i cs hv
          split at h
          · rename_i v hc
            exact ⟨_, sq_of1 (by simp [pop2, ho]) (by simp only [pop1, ho, hf, evO_eq hg hv, hc]), h⟩
          · exact (stk_no h).elim
        · exact (stk_no h).elim
    · cases hr
  · -- indexAddr
    rename_i T x i ho
    have hp2 : pop2 C st o = none := by simp [pop2, ho]
    split at hr
    · rename_i sz hT
      simp only [Option.some.injEq] at hr; subst hr
      simp only [vP] at h
      split at h
      · rename_i j sz' L hi hx
        split at h
        · rename_i e; subst e
          obtain ⟨h0, e, h1, h2⟩ := h
          exact ⟨_, sq_of1 hp2 (by simp only [pop1, ho, intO_eq hg hi, evO_eq hg hx, h0, if_true, hT, ASt.at, h1]), h2⟩
        · exact (stk_no h).elim
      · rename_i j sz' L hi hx
        split at h
        · rename_i e; subst e
          obtain ⟨h0, e, h1, h2⟩ := h
          exact ⟨_, sq_of1 hp2 (by simp only [pop1, ho, intO_eq hg hi, evO_eq hg hx, h0, if_true, hT, ASt.at, h1]), h2⟩
        · exact (stk_no h).elim
      · rename_i j k hi hx
        split at h
        · rename_i sz' L hk
          split at h
          · rename_i e; subst e
            obtain ⟨h0, h1, h2⟩ := h
            exact ⟨_, sq_of1 hp2 (by simp only [pop1, ho, intO_eq hg hi, evO_eq hg hx, h0, if_true, hT, ASt.at, hk, h1, and_self]), h2⟩
          · exact (stk_no h).elim
        · exact (stk_no h).elim
      · rename_i j b c hi hx
        split at h
        · rename_i sz' L hk
          split at h
          · rename_i e; subst e
            obtain ⟨h0, h1, h2⟩ := h
            exact ⟨_, sq_of1 hp2 (by simp only [pop1, ho, intO_eq hg hi, evO_eq hg hx, h0, if_true, hT, ASt.at, hk, h1, and_self]), h2⟩
          · exact (stk_no h).elim
        · exact (stk_no h).elim
      · exact (stk_no h).elim
    · rename_i hT
      split at hr
      · rename_i n sz hA
        simp only [Option.some.injEq] at hr; subst hr
        simp only [vP] at h
        split at h
        · rename_i j b off hi hx
          obtain ⟨h0, h1, h2⟩ := h
          exact ⟨_, sq_of1 hp2 (by simp only [pop1, ho, intO_eq hg hi, evO_eq hg hx, h0, if_true, hT, hA, h1, AV.plus]), h2⟩
        · rename_i j b off hi hx
          obtain ⟨h0, h1, h2⟩ := h
          exact ⟨_, sq_of1 hp2 (by simp only [pop1, ho, intO_eq hg hi, evO_eq hg hx, h0, if_true, hT, hA, h1, AV.plus]), h2⟩
        · rename_i j b off hi hx
          obtain ⟨h0, h1, h2⟩ := h
          exact ⟨_, sq_of1 hp2 (by simp only [pop1, ho, intO_eq hg hi, evO_eq hg hx, h0, if_true, hT, hA, h1, AV.plus]), h2⟩
        · rename_i j cs hi hx
          obtain ⟨h0, h1, h3, h2⟩ := h
          exact ⟨_, sq_of1 hp2 (by simp only [pop1, ho, intO_eq hg hi, evO_eq hg hx, h0, if_true, hT, hA, h1, AV.plus, h3]), h2⟩
        · exact (stk_no h).elim
      · cases hr
  · -- slice
    rename_i T x lo hi mx ho
    split at hr
    · rename_i n hT
      simp only [Option.some.injEq] at hr; subst hr
      simp only [vP] at h
      obtain ⟨u, r, h1, h2, sz, L, hu, hsz, hb⟩ := vSlice_sound hg h
      refine ⟨r, sq_of1 (by simp [pop2, ho]) ?_, h2⟩
      rcases hu with rfl | rfl
      · simp only [pop1, ho, hT, evO_eq hg h1, hsz, if_true] at hb ⊢; exact hb
      · simp only [pop1, ho, hT, evO_eq hg h1, hsz, if_true] at hb ⊢; exact hb
    · split at hr
      · simp only [Option.some.injEq] at hr; subst hr; exact (stk_no h).elim
      · cases hr
  · split at hr
    · simp only [Option.some.injEq] at hr; subst hr; exact (stk_no h).elim
    · cases hr
  · simp only [Option.some.injEq] at hr; subst hr; exact (stk_no h).elim
  · -- extract
    rename_i x i ho
    simp only [Option.some.injEq] at hr; subst hr
    simp only [vP] at h
    split at h
    · rename_i vs hv
      split at h
      · rename_i v hc
        exact ⟨_, sq_of1 (by simp [pop2, ho]) (by simp only [pop1, ho, evO_eq hg hv, hc]), h⟩
      · exact (stk_no h).elim
    · exact (stk_no h).elim
  · -- makeFunc
    rename_i f first cap ho
    simp only [Option.some.injEq] at hr; subst hr
    simp only [vP] at h
    split at h
    · rename_i fs cs h1 h2
      exact ⟨_, sq_of1 (by simp [pop2, ho]) (by simp only [pop1, ho, evOL_eq hg h1, evOL_eq hg h2]), h⟩
    · exact (stk_no h).elim
  · -- alloc
    split at hr
    · split at hr
      · split at hr
        · simp only [Option.some.injEq] at hr; subst hr; exact (stk_no h).elim
        · cases hr
      · cases hr
    · cases hr
  · simp only [Option.some.injEq] at hr; subst hr; exact (stk_no h).elim
  · split at hr
    · simp only [Option.map_eq_some_iff] at hr; obtain ⟨_, _, rfl⟩ := hr; exact (stk_no h).elim
    · cases hr
  · split at hr
    · split at hr
      · simp only [Option.some.injEq] at hr; subst hr; exact (stk_no h).elim
      · cases hr
    · cases hr
  · split at hr
    · split at hr
      · simp only [Option.some.injEq] at hr; subst hr; exact (stk_no h).elim
      · cases hr
    · cases hr
  · split at hr
    · simp only [Option.some.injEq] at hr; subst hr; exact (stk_no h).elim
    · cases hr
  · -- len
    rename_i args ats ho
    split at hr
    · rename_i x T hargs hats
      split at hr
      · rename_i hT
        simp only [Option.some.injEq] at hr; subst hr
        simp only [vP] at h
        split at h
        · rename_i s hs
          exact ⟨_, sq_of2 (by simp only [pop2, ho, hargs, hats, evO_eq hg hs, hT]), h⟩
        · exact (stk_no h).elim
      · rename_i hT
        split at hr
        · rename_i n hE
          simp only [Option.some.injEq] at hr; subst hr
          simp only [vP] at h
          split at h
          · rename_i v hv
            split at h
            · rename_i L hL
              refine ⟨_, sq_of1 ?_ (by simp only [pop1, ho, hargs, hats, hE, evO_eq hg hv, Option.bind_some, hL, Option.map_some]), h⟩
              simp only [pop2, ho, hargs, hats, evO_eq hg hv]
              cases v <;> first | rfl | simp [ASt.list] at hL
            · exact (stk_no h).elim
          · exact (stk_no h).elim
        · cases hr
    · cases hr
  · split at hr
    · split at hr
      · split at hr
        · simp only [Option.some.injEq] at hr; subst hr; exact (stk_no h).elim
        · cases hr
      · cases hr
    · cases hr
  · simp only [Option.some.injEq] at hr; subst hr; exact (stk_no h).elim
  · cases hr
end
end Go.Ab
end
section
/- The abstract layer, part Vd: what turns the state, and whole codes, are what the machine does. -/
namespace Go.Ab
open Go.RowKit

section
variable {C : Env} {l : Lv} {nb : Nat} {gl : List (Nat × List AV)} {st : ASt} {pol : Pol} {K : ASt → Prop} {Q : Exit → ASt → Prop}

theorem vP_op (hg : GlOk C gl) {o : Oper} {ri : RI} (hr : resI C.P o = some ri) (h : vP (real C l nb) gl st ri fun v => K (st.putO o.dst v)) : AOp C l o K Q st := by
  obtain ⟨v, h1, h2⟩ := vP_sound hg hr h
  exact .step (fun _ _ _ _ hr => h1.step hr) h2

theorem leaves_st {v : AV} (hv : ∀ a ∈ v.cells, (∃ u, a = .sc u) ∨ a = .nil) (st st' : ASt) : st.leaves v = st'.leaves v := by
  have h1 : ∀ a, ((∃ u, a = AV.sc u) ∨ a = .nil) → st.oneLeaf a = st'.oneLeaf a := by
    rintro a (⟨u, rfl⟩ | rfl) <;> rfl
  have h2 : ∀ cs : List AV, (∀ a ∈ cs, (∃ u, a = AV.sc u) ∨ a = .nil) → cs.all st.oneLeaf = cs.all st'.oneLeaf := by
    intro cs hc
    induction cs with
    | nil => rfl
    | cons a cs ih =>
      simp only [List.all_cons]
      rw [h1 a (hc a List.mem_cons_self), ih fun a ha => hc a (List.mem_cons_of_mem _ ha)]
  cases v <;> simp only [ASt.leaves, AV.cells] at hv ⊢
  case agg cs => rw [h2 cs hv]
  all_goals rw [h1 _ (hv _ (by simp))]
theorem ofLeaf_sc (v : Value) : (∃ u, ofLeaf v = AV.sc u) ∨ ofLeaf v = .nil := by
  unfold ofLeaf; split
  · exact .inr rfl
  · exact .inl ⟨_, rfl⟩
theorem ofV_sc (v : Value) : ∀ a ∈ (ofV v).cells, (∃ u, a = AV.sc u) ∨ a = .nil := by
  unfold ofV; split
  · intro a ha
    simp only [AV.cells, List.mem_map] at ha
    obtain ⟨x, _, rfl⟩ := ha; exact ofLeaf_sc x
  · intro a ha
    have : a = ofLeaf v := by
      rcases ofLeaf_sc v with ⟨u, hu⟩ | hu <;> (rw [hu] at ha; simp only [AV.cells, List.mem_singleton] at ha; rw [ha, hu])
    rw [this]; exact ofLeaf_sc v

theorem bldL_eq (hg : GlOk C gl) {place : Nat → Option (Nat × Nat)} : ∀ {ps : List (Nat × Operand)} {r : List ((Nat × Nat) × Opd)} {cs ds : List AV}, resPs place ps = some r → bldL gl st r cs = some ds → buildL C st place ps cs = some ds
  | [], r, cs, ds, h1, h2 => by simp only [resPs, Option.some.injEq] at h1; subst h1; exact h2
  | (i, x) :: ps, r, cs, ds, h1, h2 => by
    simp only [resPs] at h1
    split at h1
    · rename_i p r' hp hr'
      simp only [Option.some.injEq] at h1; subst h1
      simp only [bldL] at h2
      split at h2
      · rename_i v hv
        split at h2
        · rename_i vs hvs
          split at h2
          · rename_i hc
            simp only [buildL, hp, evO_eq hg hv, hvs, hc, and_self, if_true]
            exact bldL_eq hg hr' h2
          · cases h2
        · cases h2
      · cases h2
    · cases h1
theorem elsL_eq (hg : GlOk C gl) {hs : List (Option Nat)} {sz : Nat} : ∀ {ps : List (Nat × Operand)} {k : Nat} {us : List AV}, inOrder k ps = true → elsL gl st hs sz (ps.map fun p => resO p.2) = some us → evEls C st hs sz k ps = some us
  | [], k, us, _, h => h
  | (i, x) :: ps, k, us, h1, h2 => by
    simp only [inOrder, Bool.and_eq_true, beq_iff_eq] at h1
    obtain ⟨rfl, h1⟩ := h1
    simp only [List.map_cons, elsL] at h2
    split at h2
    · rename_i v hv
      split at h2
      · rename_i u us' hu hus
        simp only [evEls, evO_eq hg hv, Option.bind_some, hu, if_true]
        rw [elsL_eq hg h1 hus]
        exact h2
      · cases h2
    · cases h2

/-- What the operands hold is known. -/
theorem cellsO_eq (hg : GlOk C gl) {x : Operand} (hx : (st.evO gl (resO x)).isSome = true) : cellsO gl st (resO x) = match st.ev C x with
    | some v => v.cells
    | none => [] := by
  obtain ⟨v, hv⟩ := Option.isSome_iff_exists.1 hx
  simp only [cellsO, hv, evO_eq hg hv]
theorem elsL_some : ∀ {hs : List (Option Nat)} {sz : Nat} {ps : List Opd} {us : List AV}, elsL gl st hs sz ps = some us → ∀ x ∈ ps, (st.evO gl x).isSome = true
  | hs, sz, [], us, _, x, hx => by cases hx
  | hs, sz, y :: ps, us, h, x, hx => by
    simp only [elsL] at h
    split at h
    · rename_i v hv
      split at h
      · rename_i u us' hu hus
        rcases List.mem_cons.1 hx with rfl | hx
        · rw [hv]; rfl
        · exact elsL_some hus x hx
      · cases h
    · cases h

theorem shareL_ev_some {x : Opd} : ∀ (vs : List AV) (st : ASt), ((st.shareL vs).evO gl x).isSome = true → (st.evO gl x).isSome = true := by
  have gmap : ∀ (f : AV → AV) (s : List (Nat × AV)) (t : Nat), get (s.map fun p => (p.1, f p.2)) t = (get s t).map f := fun f s t => get_map f s t
  have h1 : ∀ (st : ASt) k, ((st.share k).evO gl x).isSome = true → (st.evO gl x).isSome = true := fun st k h => by
    unfold ASt.share at h
    split at h
    · cases x with
      | t n => simp only [ASt.evO] at h ⊢; rw [gmap] at h; simpa using h
      | c a => rfl
      | g i => exact h
      | f i => rfl
    · exact h
  have h2 : ∀ (st : ASt) b j, ((st.shareC b j).evO gl x).isSome = true → (st.evO gl x).isSome = true := fun st b j h => by
    unfold ASt.shareC at h
    split at h
    · cases x with
      | t n => simp only [ASt.evO] at h ⊢; rw [gmap] at h; simpa using h
      | c a => rfl
      | g i => exact h
      | f i => rfl
    · exact h
  intro vs
  induction vs with
  | nil => intro st h; exact h
  | cons v vs ih =>
    intro st h
    cases v <;> simp only [ASt.shareL] at h <;> first | exact ih st h | exact h1 _ _ (ih _ h) | exact h2 _ _ _ (ih _ h)

theorem convH_eq {C : Env} : ∀ (Ts : List TypeId) (vs : List AV), convH (Ts.map (hints C.P 9)) vs = convL C Ts vs
  | _, [] => by simp [convH, convL]
  | [], v :: vs => by simp [convH, convL]
  | T :: Ts, v :: vs => by simp only [List.map_cons, convH, convL, convH_eq Ts vs]
end
end Go.Ab
end
section
/- The abstract layer, part Ve: what turns the state is what the machine does. -/
namespace Go.Ab
open Go.RowKit

section
variable {C : Env} {l : Lv} {nb : Nat} {gl : List (Nat × List AV)} {st : ASt} {pol : Pol} {K : ASt → Prop} {Q : Exit → ASt → Prop}

theorem flatMap_congr' {α β : Type} {f g : α → List β} : ∀ {l : List α}, (∀ x ∈ l, f x = g x) → l.flatMap f = l.flatMap g
  | [], _ => rfl
  | x :: l, h => by
    rw [List.flatMap_cons, List.flatMap_cons, h x List.mem_cons_self, flatMap_congr' fun y hy => h y (List.mem_cons_of_mem _ hy)]
theorem ite_stk {c : Prop} {_ : Decidable c} {A B : Prop} (hB : ¬ B) (h : if c then A else B) : c ∧ A := by
  by_cases hc : c
  · rw [if_pos hc] at h; exact ⟨hc, h⟩
  · rw [if_neg hc] at h; exact (hB h).elim

theorem AOp.stepD {o : Oper} (h : ∀ E a w g, l.ok E → Rel C E st a w g → ∃ st', StepOk C E a w o st' ∧ K st') : AOp C l o K Q st := fun E a w g hE hr => by
  obtain ⟨st', hs, hk⟩ := h E a w g hE hr
  obtain ⟨n, y, w', g', h1, h2, h3⟩ := hs
  have hy : o.semAt (fen l).round a.eval = execOp a.eval o := by
    refine Oper.semAt_eq _ _ _ fun c hc => ?_
    unfold execOp at h1
    simp only [hc, Sem.run_bind] at h1
    cases hres : (resolve a.eval c o.type).run C.P w with
    | ok d w2 =>
      simp only [hres, Result.andThen_ok, Sem.run_pure, Result.ok.injEq] at h1
      rcases h2 with rfl | ⟨rfl, _⟩ <;> simp at h1
    | halt r w2 => rw [hres] at h1; cases h1
  refine ⟨fun _ _ => trivial, ?_⟩
  rw [hy, h1]
  rcases h2 with rfl | ⟨rfl, rfl⟩
  · exact ⟨st', g', hk, h3⟩
  · exact ⟨st', g', hk, h3⟩

theorem vE_sound (hg : GlOk C gl) (hok : ∀ E, l.ok E → E.n0 ≤ nb) {o : Oper} {ri : RI} (hr : resI C.P o = some ri) (h : vE (real C l nb) gl pol nb st ri o.dst K Q) : AOp C l o K Q st := by
  have hr0 := hr
  unfold resI at hr
  split at hr
  · simp only [Option.some.injEq] at hr; subst hr; exact vP_op hg hr0 h
  · -- assign
    rename_i x ho
    simp only [Option.some.injEq] at hr; subst hr
    simp only [vE] at h
    split at h
    · rename_i d hd
      split at h
      · rename_i hv
        have hev := evO_eq hg hv
        split at h
        · rename_i sz hsz
          simp only [Option.map_eq_some_iff] at hsz
          obtain ⟨⟨e, sz', by', z⟩, hrow, rfl⟩ := hsz
          exact .eop (pol := pol) (by simp only [eop, ho, hd, hev, hrow]) h
        · rename_i hsz
          simp only [Option.map_eq_none_iff] at hsz
          exact .eop (pol := pol) (by simp only [eop, ho, hd, hev, hsz]) h
      · rename_i k hv
        have hev := evO_eq hg hv
        split at h
        · rename_i e
          exact .eop (pol := pol) (by simp only [eop, ho, hd, hev, e, if_true]) h
        · rename_i e
          split at h
          · rename_i sz L hk
            exact .eop (pol := pol) (by simp only [eop, ho, hd, hev, e, if_false, hk]) h
          · exact (stk_no h).elim
      · rename_i v hn1 hn2 hv
        have hev := evO_eq hg hv
        refine .eop (pol := pol) (st' := st.put d v) ?_ h
        simp only [eop, ho, hd, hev]
        try (split <;> simp_all)
      · exact (stk_no h).elim
    · exact (stk_no h).elim
  · simp only [Option.some.injEq] at hr; subst hr; exact vP_op hg hr0 h
  · split at hr
    · split at hr
      · simp only [Option.some.injEq] at hr; subst hr; exact vP_op hg hr0 h
      · cases hr
    · simp only [Option.some.injEq] at hr; subst hr; exact vP_op hg hr0 h
  · simp only [Option.some.injEq] at hr; subst hr; exact vP_op hg hr0 h
  · -- convert
    rename_i S D x ho
    split at hr
    · split at hr
      · simp only [Option.some.injEq] at hr; subst hr; exact vP_op hg hr0 h
      · cases hr
    · rename_i e hS hD
      split at hr
      · rename_i he
        simp only [Option.some.injEq] at hr; subst hr
        simp only [vE] at h
        split at h
        · rename_i d s hd hv
          refine .eop (pol := pol) ?_ h
          simp only [eop, ho, hd, hS, hD, he, ASt.evV, evO_eq hg hv, Option.bind_some, toV, toLeaf]
        · exact (stk_no h).elim
      · cases hr
    · simp only [Option.some.injEq] at hr; subst hr; exact vP_op hg hr0 h
    · cases hr
  · split at hr
    · simp only [Option.some.injEq] at hr; subst hr; exact vP_op hg hr0 h
    · split at hr
      · simp only [Option.some.injEq] at hr; subst hr; exact vP_op hg hr0 h
      · cases hr
    · cases hr
  · split at hr
    · simp only [Option.some.injEq] at hr; subst hr; exact vP_op hg hr0 h
    · cases hr
  · simp only [Option.some.injEq] at hr; subst hr; exact vP_op hg hr0 h
  · split at hr
    · split at hr
      · cases hr
      · simp only [Option.some.injEq] at hr; subst hr; exact vP_op hg hr0 h
    · cases hr
  · split at hr
    · simp only [Option.some.injEq] at hr; subst hr; exact vP_op hg hr0 h
    · cases hr
  · split at hr
    · simp only [Option.some.injEq] at hr; subst hr; exact vP_op hg hr0 h
    · split at hr
      · simp only [Option.some.injEq] at hr; subst hr; exact vP_op hg hr0 h
      · cases hr
  · -- slice
    rename_i T x lo hi mx ho
    split at hr
    · rename_i n hT
      simp only [Option.some.injEq] at hr; subst hr
      have key : ∀ st' : ASt, ∀ d : Nat, vP (real C l nb) gl st' (.slc n (resO x) (lo.map resO) (hi.map resO) (mx.map resO)) (fun v => K (st'.put d v)) → ∃ v, pop1 C st' o = some v ∧ K (st'.put d v) := by
        intro st' d h
        simp only [vP] at h
        obtain ⟨u, r, h1, h2, sz, L, hu, hsz, hb⟩ := vSlice_sound hg h
        refine ⟨r, ?_, h2⟩
        rcases hu with rfl | rfl
        · simp only [pop1, ho, hT, evO_eq hg h1, hsz, if_true] at hb ⊢; exact hb
        · simp only [pop1, ho, hT, evO_eq hg h1, hsz, if_true] at hb ⊢; exact hb
      simp only [vE] at h
      split at h
      · rename_i d k hd hv
        have hev := evO_eq hg hv
        split at h
        · rename_i sz L hh hrow hpop hlo hhi hmx
          have e1 : lo = none := by cases lo <;> simp_all
          have e3 : mx = none := by cases mx <;> simp_all
          obtain ⟨y, rfl⟩ : ∃ y, hi = some y := by cases hi <;> simp_all
          subst e1 e3
          simp only [Option.map_some, Option.some.injEq] at hhi; subst hhi
          split at h
          · rename_i j hj
            obtain ⟨q1, q2, q3⟩ := h
            refine .eop (pol := pol) ?_ q3
            simp only [eop, ho, hd, hev, hrow, hpop, intO_eq hg hj, hT, q1, q2, and_self, if_true]
          · exact (stk_no h).elim
        · rename_i hne
          obtain ⟨v, h1, h2⟩ := key _ _ h
          refine .eop (pol := pol) (st' := (st.share k).put d v) ?_ h2
          simp only [eop, ho, hd, hev]
          split
          · rename_i sz L y e1 e2
            exact (hne sz L (resO y) e1 e2 rfl rfl rfl).elim
          · rw [h1]; rfl
      · rename_i d b j hd hv
        have hev := evO_eq hg hv
        split at h
        · rename_i sz L hh hrow hpop hlo hhi hmx
          have e1 : lo = none := by cases lo <;> simp_all
          have e3 : mx = none := by cases mx <;> simp_all
          obtain ⟨y, rfl⟩ : ∃ y, hi = some y := by cases hi <;> simp_all
          subst e1 e3
          simp only [Option.map_some, Option.some.injEq] at hhi; subst hhi
          split at h
          · rename_i j hj
            obtain ⟨q1, q2, q3⟩ := h
            refine .eop (pol := pol) ?_ q3
            simp only [eop, ho, hd, hev, hrow, hpop, intO_eq hg hj, hT, q1, q2, and_self, if_true]
          · exact (stk_no h).elim
        · rename_i hne
          obtain ⟨v, h1, h2⟩ := key _ _ h
          refine .eop (pol := pol) (st' := (st.shareC b j).put d v) ?_ h2
          simp only [eop, ho, hd, hev]
          split
          · rename_i sz L y e1 e2
            exact (hne sz L (resO y) e1 e2 rfl rfl rfl).elim
          · rw [h1]; rfl
      · exact vP_op hg hr0 h
    · rename_i hT
      split at hr
      · rename_i n hA
        simp only [Option.some.injEq] at hr; subst hr
        simp only [vE] at h
        split at h
        · rename_i d b p q hd hv hp hq
          split at h
          · rename_i cs hb
            split at h
            · rename_i hc
              split at h
              · rename_i us hus
                obtain ⟨q1, q2, q3, _, hk⟩ := h
                exact .stepD fun E a w g hE hr => ⟨_, slcA_step hr (hok E hE) ho hd hA (evO_eq hg hv) hb hc.1 hc.2.1 hc.2.2 hus (intOO_eq hg hp) (intOO_eq hg hq) q1 q2 q3, hk⟩
              · exact (stk_no h).elim
            · exact (stk_no h).elim
          · exact (stk_no h).elim
        · exact (stk_no h).elim
      · cases hr
  · -- range
    rename_i T x ho
    split at hr
    · rename_i hT
      simp only [Option.some.injEq] at hr; subst hr
      simp only [vE] at h
      split at h
      · rename_i d s hd hv
        exact .stepD fun E a w g hE hr => ⟨_, rngS_step hr ho hd hT (evO_eq hg hv), h w.heap.size⟩
      · exact (stk_no h).elim
    · cases hr
  · -- next
    rename_i x ho
    simp only [Option.some.injEq] at hr; subst hr
    simp only [vE] at h
    split at h
    · rename_i d lp hd hv
      obtain ⟨i, ob, hi, h⟩ := h
      simp only at h
      split at h
      · rename_i lp' s pos hi'
        rw [hi] at hi'
        simp only [Option.some.injEq, Prod.mk.injEq] at hi'
        obtain ⟨rfl, rfl⟩ := hi'
        refine .stepD fun E a w g hE hr => ?_
        obtain ⟨s1, s2⟩ := nxtS_step hr ho hd (evO_eq hg hv) hi
        by_cases hp : pos < s.size
        · simp only [ask, real, hp, if_true] at h
          exact ⟨_, s1 hp, h⟩
        · simp only [ask, real, hp, if_false] at h
          exact ⟨_, s2 hp, h⟩
      · exact (stk_no h).elim
    · exact (stk_no h).elim
  · simp only [Option.some.injEq] at hr; subst hr; exact vP_op hg hr0 h
  · simp only [Option.some.injEq] at hr; subst hr; exact vP_op hg hr0 h
  · -- alloc
    rename_i T ho
    split at hr
    · rename_i b n z hsh hz
      split at hr
      · rename_i vs hvs
        split at hr
        · rename_i hl
          simp only [Option.some.injEq] at hr; subst hr
          simp only [vE] at h
          split at h
          · rename_i d hd
            split at h
            · rename_i st' hst
              refine .eop (pol := pol) ?_ h
              rw [leaves_st (ofV_sc z) _ st] at hvs
              simp only [eop, ho, hd, hsh, hz, hvs, hl, if_true] at hst ⊢
              rw [hst]; rfl
            · exact (stk_no h).elim
          · exact (stk_no h).elim
        · cases hr
      · cases hr
    · cases hr
  · -- box
    rename_i T x ho
    simp only [Option.some.injEq] at hr; subst hr
    simp only [vE] at h
    split at h
    · rename_i d v hd hv
      split at h
      · rename_i vs hvs
        split at h
        · rename_i st' hst
          refine .eop (pol := pol) ?_ h
          simp only [eop, ho, hd, evO_eq hg hv, hvs, hst, Option.map_some]
        · exact (stk_no h).elim
      · exact (stk_no h).elim
    · exact (stk_no h).elim
  · -- build
    rename_i T ps ho
    split at hr
    · rename_i pl k z ht
      simp only [Option.map_eq_some_iff] at hr
      obtain ⟨r, hps, rfl⟩ := hr
      simp only [vE] at h
      split at h
      · rename_i d hd
        split at h
        · rename_i cs hcs
          refine .eop (pol := pol) ?_ h
          simp only [eop, ho, hd, ht, bldL_eq hg hps hcs, Option.map_some]
        · exact (stk_no h).elim
      · exact (stk_no h).elim
    · cases hr
  · -- buildSlice
    rename_i T n ps ho
    split at hr
    · rename_i e sz by' z hrow
      split at hr
      · rename_i hc
        obtain ⟨c1, c2, c3⟩ := hc
        simp only [Option.some.injEq] at hr; subst hr
        simp only [vE] at h
        split at h
        · rename_i d hd
          split at h
          · rename_i us hus
            have hsome : ∀ p ∈ ps.toList, (st.evO gl (resO p.2)).isSome = true := fun p hp => shareL_ev_some _ _ (elsL_some hus _ (List.mem_map.2 ⟨p, hp, rfl⟩))
            have ecells : (ps.toList.map fun p => resO p.2).flatMap (cellsO gl st) = ps.toList.flatMap fun p => match st.ev C p.2 with
                | some v => v.cells
                | none => [] := by
              rw [List.flatMap_map]
              exact flatMap_congr' fun p hp => cellsO_eq hg (hsome p hp)
            rw [ecells] at hus h
            refine .eop (pol := pol) ?_ h
            have h2 := elsL_eq hg c3 hus
            simp only [eop, ho, hd, hrow, c1, c2, and_self, if_true]
            split
            · rename_i us' h'
              have e : us' = us := Option.some.inj (h'.symm.trans h2)
              subst e; rfl
            · rename_i h'
              exact absurd (h'.symm.trans h2) (by simp)
          · exact (stk_no h).elim
        · exact (stk_no h).elim
      · cases hr
    · cases hr
  · -- makeSlice
    rename_i T a b ho
    split at hr
    · rename_i e sz by' z hrow
      split at hr
      · rename_i u hu
        simp only [Option.some.injEq] at hr; subst hr
        simp only [vE] at h
        split at h
        · rename_i d i j hd hi hj
          obtain ⟨q1, q2, q3, q4⟩ := h
          refine .eop (pol := pol) ?_ q4
          simp only [eop, ho, hd, hrow, intO_eq hg hi, intO_eq hg hj, hu, q1, q2, q3, and_self, if_true]
        · exact (stk_no h).elim
      · cases hr
    · cases hr
  · -- store
    rename_i T p x ho
    split at hr
    · rename_i b n hsh
      simp only [Option.some.injEq] at hr; subst hr
      simp only [vE] at h
      split at h
      · rename_i b' off hp
        split at h
        · rename_i v hv
          split at h
          · rename_i vs hvs
            split at h
            · rename_i hl
              split at h
              · rename_i st' hst
                refine .eop (pol := pol) ?_ h
                simp only [eop, ho, evO_eq hg hp, hsh, evO_eq hg hv, Option.bind_some, hvs, hl, if_true, hst, Option.map_some]
              · exact (stk_no h).elim
            · exact (stk_no h).elim
          · exact (stk_no h).elim
        · exact (stk_no h).elim
      · rename_i k i sz off hp
        split at h
        · rename_i k' i' sz' off' v sz2 L hp2 hv hk
          split at h
          · rename_i u hu
            split at h
            · rename_i hc
              obtain ⟨l', h1, h2⟩ := h
              obtain ⟨v0, hv0⟩ := Option.isSome_iff_exists.1 (shareL_ev_some (x := resO x) (gl := gl) _ st (by rw [hv]; rfl))
              have ec : cellsO gl st (resO x) = v0.cells := by simp only [cellsO, hv0]
              rw [ec] at hp2 hv hk h2
              refine .eop (pol := pol) ?_ h2
              simp only [eop, ho, evO_eq hg hp, hsh, evO_eq hg hv0, evO_eq hg hp2, evO_eq hg hv, hk, hu, hc, and_self, if_true, h1, Option.map_some]
            · exact (stk_no h).elim
          · exact (stk_no h).elim
        · exact (stk_no h).elim
      · rename_i b0 j i sz off hp
        split at h
        · rename_i b' j' i' sz' off' v sz2 L hp2 hv hk
          split at h
          · rename_i u hu
            split at h
            · rename_i hc
              obtain ⟨l', h1, h2⟩ := h
              obtain ⟨v0, hv0⟩ := Option.isSome_iff_exists.1 (shareL_ev_some (x := resO x) (gl := gl) _ st (by rw [hv]; rfl))
              have ec : cellsO gl st (resO x) = v0.cells := by simp only [cellsO, hv0]
              rw [ec] at hp2 hv hk h2
              refine .eop (pol := pol) ?_ h2
              simp only [eop, ho, evO_eq hg hp, hsh, evO_eq hg hv0, evO_eq hg hp2, evO_eq hg hv, hk, hu, hc, and_self, if_true, h1, Option.map_some]
            · exact (stk_no h).elim
          · exact (stk_no h).elim
        · exact (stk_no h).elim
      · exact (stk_no h).elim
    · cases hr
  · -- len
    split at hr
    · split at hr
      · simp only [Option.some.injEq] at hr; subst hr; exact vP_op hg hr0 h
      · split at hr
        · simp only [Option.some.injEq] at hr; subst hr; exact vP_op hg hr0 h
        · cases hr
    · cases hr
  · -- append
    rename_i args ats ho
    split at hr
    · rename_i s x t t' hargs hats
      split at hr
      · rename_i e sz by' z hrow
        split at hr
        · rename_i ht
          simp only [Option.some.injEq] at hr; subst hr
          simp only [vE] at h
          split at h
          · rename_i d sv xv hd hs hx
            split at h
            · rename_i L L2 hL hL2
              split at h
              · rename_i hc
                split at h
                · obtain ⟨q1, q2⟩ := h
                  refine .eop (pol := pol) ?_ q2
                  simp only [eop, ho, hd, hargs, hats, hrow, evO_eq hg hs, evO_eq hg hx, hL, hL2, ht, hc, q1, and_self, if_true]
                · obtain ⟨q1, q2⟩ := h
                  refine .eop (pol := pol) ?_ q2
                  simp only [eop, ho, hd, hargs, hats, hrow, evO_eq hg hs, evO_eq hg hx, hL, hL2, ht, hc, q1, and_self, if_true]
                · obtain ⟨q1, q2⟩ := h
                  refine .eop (pol := pol) ?_ q2
                  simp only [eop, ho, hd, hargs, hats, hrow, evO_eq hg hs, evO_eq hg hx, hL, hL2, ht, hc, q1, and_self, if_true]
                · obtain ⟨q0, q1, q2⟩ := h
                  refine .eop (pol := pol) ?_ q2
                  simp only [eop, ho, hd, hargs, hats, hrow, evO_eq hg hs, evO_eq hg hx, hL, hL2, ht, hc, q1, and_self, if_true, q0, Bool.false_eq_true, if_false]
                · exact (stk_no h).elim
              · exact (stk_no h).elim
            · exact (stk_no h).elim
          · exact (stk_no h).elim
        · cases hr
      · cases hr
    · cases hr
  · -- call
    rename_i f args ats ho
    simp only [Option.some.injEq] at hr; subst hr
    simp only [vE] at h
    split at h
    · rename_i fid first cap0 vs0 hf hvs
      simp only [vCall1, vCall2] at h
      split at h
      · rename_i fid' first' cap' vs1 hf' hvs'
        split at h
        · rename_i as rs ks hm
          obtain ⟨⟨c1, c2, c3⟩, R, hcall, hnext⟩ := ite_stk stk_no h
          refine WcallP.sound (pol := pol) (pa := pol.pa) ho ?_
          unfold WcallP
          rw [convH_eq] at hm
          simp only [callPrep, evO_eq hg hf, evOL_eq hg hvs, evO_eq hg hf', evOL_eq hg hvs', hm, c1, if_true]
          refine ⟨⟨c2, fun e => by simpa using c3 e⟩, R, hcall, hnext⟩
        · exact (stk_no h).elim
      · exact (stk_no h).elim
    · rename_i hf hvs
      exact h o f args ats Q ho rfl (evO_eq hg hf) (evOL_eq hg hvs)
    · exact (stk_no h).elim
  · cases hr
end
end Go.Ab
end
