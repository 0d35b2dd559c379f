/- The abstract layer and its machine: what Go code does to lists, proved once over any program. -/
import Derived.Test.YtfokbedokggilaaDoorK11
import Derived.LoopNIn
set_option linter.all false
section
/- The abstract layer, part Vf: codes and functions, resolved, are what the machine does. -/
namespace Go.Ab
open Go.RowKit

section
variable {C : Env} {l : Lv} {nb : Nat} {gl : List (Nat × List AV)} {st : ASt} {pol : Pol}

theorem resG_eq {ops : Array Oper} {o : Oper} {g : Option (Nat × Bool)} {b : Bool} (h1 : resG ops.toList o.guard = some g) (h2 : guardR st g = some b) : guardL ops.toList st o.guard = some b := by
  unfold resG at h1
  unfold guardL
  split at h1
  · rename_i hn; simp only [Option.some.injEq] at h1; subst h1; rw [hn]; exact h2
  · rename_i j want hn
    split at h1
    · rename_i d hd
      simp only [Option.some.injEq] at h1; subst h1
      rw [hn]; simp only [hd, guardD]; exact h2
    · cases h1

theorem vOps_sound (hg : GlOk C gl) (hok : ∀ E, l.ok E → E.n0 ≤ nb) {ops : Array Oper} {Q : Exit → ASt → Prop} : ∀ {os : List Oper} {ros : List RO} {k : Nat} {st : ASt}, ops.toList.drop k = os → resOps C.P ops.toList os = some ros → vOps (real C l nb) gl pol nb st Q ros → AOps C l ops Q (List.range' k os.length) st
  | [], ros, k, st, _, hr, h => by
    simp only [resOps, Option.some.injEq] at hr; subst hr
    exact AOps.nil h
  | o :: os, ros, k, st, hd, hr, h => by
    simp only [resOps] at hr
    split at hr
    · rename_i ri g r h1 h2 h3
      simp only [Option.some.injEq] at hr; subst hr
      have ho : ops[k]? = some o := by
        have := congrArg (·[0]?) hd
        simpa [List.getElem?_drop] using this
      have hd' : ops.toList.drop (k + 1) = os := by
        rw [← List.drop_drop, hd]; rfl
      rw [List.length_cons, List.range'_succ]
      simp only [vOps] at h
      split at h
      · rename_i hb
        have hb' := (guardL_eq ops st o).trans (resG_eq h2 hb)
        refine AOps.cons ho hb' (fun _ => ?_) (fun e => by cases e)
        exact (vE_sound hg hok h1 h).mono fun st' h' => vOps_sound hg hok hd' h3 h'
      · rename_i hb
        have hb' := (guardL_eq ops st o).trans (resG_eq h2 hb)
        refine AOps.cons ho hb' (fun e => by cases e) (fun _ => ?_)
        exact vOps_sound hg hok hd' h3 h
      · exact (stk_no h).elim
    · cases hr

def DS (C : Env) (ops : Array Oper) (K : ASt → Prop) : List Oper → ASt → Prop
  | [], st => K st
  | o :: os, st => ∃ b, guardL ops.toList st o.guard = some b ∧ if b then ∃ v, SQ C st o v ∧ DS C ops K os (st.putO o.dst v) else DS C ops K os (st.putO o.dst (.sc undef))
theorem DS.sound {ops : Array Oper} {K : ASt → Prop} {l : Lv} {Q : Exit → ASt → Prop} (hK : ∀ st, K st → Q .normal st) {E : Entry} : ∀ {os : List Oper} {st : ASt} {a : Act} {w : World} {g : Gh}, DS C ops K os st → Rel C E st a w g →
    wpQuietIn (fen l) 0 C.P ops (fun w' => ∃ n, w' = w.drewN n) (fun a' => ∀ w', (∃ n, w' = w.drewN n) → lift C E Q .normal a' w') os a
  | [], st, a, w, g, h, hr => by
    rintro w' ⟨n, rfl⟩
    exact ⟨st, g, hK st h, hr.grow (grownBy_same rfl rfl rfl rfl)⟩
  | o :: os, st, a, w, g, h, hr => by
    obtain ⟨b, hb, h⟩ := h
    unfold wpQuietIn
    refine ⟨fun _ _ _ _ => trivial, ?_⟩
    rw [← guardL_eq] at hb
    rw [guardA_sound hr hb]
    cases b with
    | true =>
      simp only [if_true] at h ⊢
      obtain ⟨v, hv, h⟩ := h
      obtain ⟨x, h1, h2, h3⟩ := hv E a w g hr
      refine ⟨x, ?_, DS.sound hK h (RelX.put hr o.dst h1 h2)⟩
      rintro w' ⟨n, rfl⟩
      unfold Oper.quietAtIn
      rw [h3 (w.drewN n) rfl]
      exact ⟨rfl, rfl⟩
    | false =>
      simp only [Bool.false_eq_true, if_false] at h ⊢
      exact DS.sound hK h (RelX.put hr o.dst (.sc undef) (by simp [AV.mb]))
theorem AWp.drawS {id : Nat} {ops : Array Oper} {ok : Entry → Prop} {Q : Exit → ASt → Prop} (hm : C.P.follows .mixedOrders = true) (hB : Region.lexB .any ops = true) (h : DS C ops (Q .normal) ops.toList st) :
    AWp C ⟨none, ok⟩ (.region id ops true) Q st := fun E a w g _ hr => by
  refine wpIn_region_quiet (C := fun w' => ∃ n, w' = w.drewN n) rfl hm hB ⟨1, rfl⟩ ?_
  exact DS.sound (fun _ h => h) h hr

theorem vDrw_sound (hg : GlOk C gl) {ops : Array Oper} {K : ASt → Prop} : ∀ {os : List Oper} {ros : List RO} {st : ASt}, resOps C.P ops.toList os = some ros → vDrw (real C l nb) gl st K ros → DS C ops K os st
  | [], ros, st, hr, h => by
    simp only [resOps, Option.some.injEq] at hr; subst hr
    exact h
  | o :: os, ros, st, hr, h => by
    simp only [resOps] at hr
    split at hr
    · rename_i ri g r h1 h2 h3
      simp only [Option.some.injEq] at hr; subst hr
      simp only [vDrw] at h
      split at h
      · rename_i hb
        obtain ⟨v, q1, q2⟩ := vP_sound hg h1 h
        exact ⟨true, resG_eq h2 hb, v, q1, vDrw_sound hg h3 q2⟩
      · rename_i hb
        exact ⟨false, resG_eq h2 hb, vDrw_sound hg h3 h⟩
      · exact (stk_no h).elim
    · cases hr

theorem keepS_le (st : ASt) (k : Option (List Nat)) : (st.keepS k).Le st := by
  cases k with
  | none => exact ⟨rfl, fun _ _ h => h, fun _ _ h => h, rfl, rfl⟩
  | some ts =>
    refine ⟨rfl, fun t v h => ?_, fun _ _ h => h, rfl, rfl⟩
    simp only [ASt.keepS] at h
    have := get_filter_key (q := fun t => inL ts t) (l := st.s) (t := t)
    rw [this] at h
    split at h
    · exact h
    · cases h
theorem AWp.of_le {c : Code} {Q : Exit → ASt → Prop} {st st' : ASt} (hl : st'.Le st) (h : AWp C l c Q st') : AWp C l c Q st := fun E a w g hE hr => h E a w g hE (hl.rel hr)

theorem Fit.rel {st' st : ASt} (h : Fit nb st' st) {E : Entry} (hE : E.n0 ≤ nb) {a : Act} {w : World} {g : Gh} (hr : Rel C E st a w g) : Rel C E st' a w g := by
  obtain ⟨h1, h2, h3, h4, h5⟩ := h
  have q := hr.less st'.s st'.r (leL_get h2) (leL_get h3)
  obtain ⟨n, s, r, b, ls⟩ := st'
  simp only at h1 h2 h3 h4 h5 q
  subst h1 h4
  rcases h5 with rfl | ⟨p1, p2, p3, p4⟩
  · exact q
  · have q2 := trim_rel (nb := b.length) q (Nat.le_trans hE p1)
    have e : ASt.trim { st with s := s, r := r } b.length = ⟨st.n, s, r, b, st.l⟩ := by
      unfold ASt.trim
      rw [← p3, if_pos p4]
      split
      · rename_i hle
        have : st.b.take b.length = st.b := List.take_of_length_le hle
        rw [this] at p3; rw [p3]
      · rfl
    rw [e] at q2; exact q2

theorem AWp.loopF {α : Type} {c : Code} {Q : Exit → ASt → Prop} (hok : ∀ E, l.ok E → E.n0 ≤ nb) (S : α → ASt) (p : α → Prop) (μ : α → Nat) (x0 : α) (h0 : p x0) (hs : Fit nb (S x0) st)
    (hr : ∀ x, p x → AWp C l c (LoopE nb S p μ x Q) (S x)) : AWp C l (.loop c) Q st := fun E a w g hE hrel => by
  let fits : Act → World → Nat → Prop := fun a w n => ∃ x g, p x ∧ Rel C E (S x) a w g ∧ μ x = n
  have hI : ∀ a w, (∃ n, fits a w n) → ∃ n, fits a w n ∧ ∀ m, fits a w m → n ≤ m := fun a w h => least h
  let m : Act → World → Nat := fun a w => open Classical in if h : ∃ n, fits a w n then Classical.choose (hI a w h) else 0
  have hm : ∀ a w, (∃ n, fits a w n) → fits a w (m a w) ∧ ∀ k, fits a w k → m a w ≤ k := fun a w h => by
    simp only [m, h, dif_pos]; exact Classical.choose_spec (hI a w h)
  refine wpIn_loop (fun a w => ∃ n, fits a w n) m ⟨_, x0, g, h0, hs.rel (hok E hE) hrel, rfl⟩ fun a w hf => ?_
  obtain ⟨⟨x, g, hp, hx, hmx⟩, hmin⟩ := hm a w hf
  refine wpIn_mono (hr x hp E a w g hE hx) fun e a' w' hh => ?_
  obtain ⟨st', g', q1, q2⟩ := hh
  cases e with
  | normal =>
    obtain ⟨x', hp', hlt, hle⟩ := q1
    have hf' : fits a' w' (μ x') := ⟨x', g', hp', hle.rel (hok E hE) q2, rfl⟩
    refine ⟨⟨_, hf'⟩, ?_⟩
    have := (hm a' w' ⟨_, hf'⟩).2 _ hf'
    omega
  | exit id => exact ⟨st', g', q1, q2⟩
  | goto l => exact ⟨st', g', q1, q2⟩
  | ret => exact ⟨st', g', q1, q2⟩
  | panic ch => exact ⟨st', g', q1, q2⟩
  | outgrown => exact ⟨st', g', q1, q2⟩

theorem AWp.rounds {c : Code} {Q : Exit → ASt → Prop} (n : Nat) (h : ∀ E a w g, l.ok E → Rel C E st a w g → Code.roundsIn (fen l) 0 C.P c (lift C E Q) n a w) : AWp C l (.loop c) Q st := fun E a w g hE hr =>
  wpIn_loop_rounds n (h E a w g hE hr)
theorem lv_eta (l : Lv) (h : l.r = none) : l = ⟨none, l.ok⟩ := by cases l; simp only at h; subst h; rfl

theorem vC_sound (hg : GlOk C gl) (hok : ∀ E, l.ok E → E.n0 ≤ nb) (hm : C.P.follows .mixedOrders = true) {ann : List (Nat × List Nat)} : ∀ {c : Code} {rc : RC} {Q : Exit → ASt → Prop} {st : ASt}, resC C.P ann c = some rc → vC (real C l nb) gl pol nb rc Q st → AWp C l c Q st
  | .skip, rc, Q, st, hr, h => by
    simp only [resC, Option.some.injEq] at hr; subst hr
    exact fun _ _ _ g _ hr => wpIn_skip ⟨st, g, h, hr⟩
  | .label _, rc, Q, st, hr, h => by
    simp only [resC, Option.some.injEq] at hr; subst hr
    exact fun _ _ _ g _ hr => wpIn_label ⟨st, g, h, hr⟩
  | .region id ops false, rc, Q, st, hr, h => by
    simp only [resC, Option.map_eq_some_iff] at hr
    obtain ⟨ros, h1, rfl⟩ := hr
    refine AWp.of_le (keepS_le st (get ann id)) (AOps.region ?_)
    have := vOps_sound hg hok (k := 0) (by simp) h1 h
    simpa [List.range_eq_range'] using this
  | .region id ops true, rc, Q, st, hr, h => by
    simp only [resC] at hr
    split at hr
    · rename_i hB
      simp only [Option.map_eq_some_iff] at hr
      obtain ⟨ros, h1, rfl⟩ := hr
      obtain ⟨hl, h⟩ := h
      refine AWp.of_le (keepS_le st (get ann id)) ?_
      have := AWp.drawS (C := C) (id := id) (ok := l.ok) (Q := Q) hm hB (vDrw_sound hg h1 h)
      rw [← lv_eta l hl] at this; exact this
    · cases hr
  | .seq x y, rc, Q, st, hr, h => by
    simp only [resC] at hr
    split at hr
    · rename_i x' y' h1 h2
      simp only [Option.some.injEq] at hr; subst hr
      refine AWp.seq ((vC_sound hg hok hm h1 h).mono fun e st h' => ?_)
      cases e with
      | normal => exact vC_sound hg hok hm h2 h'
      | _ => exact h'
    · cases hr
  | .cond c x y, rc, Q, st, hr, h => by
    simp only [resC] at hr
    split at hr
    · rename_i x' y' h1 h2
      simp only [Option.some.injEq] at hr; subst hr
      simp only [vC] at h
      split at h
      · rename_i b hb
        split at h
        · exact AWp.cond (evO_eq hg hb) (fun _ => vC_sound hg hok hm h1 h) (fun e => by cases e)
        · exact AWp.cond (evO_eq hg hb) (fun e => by cases e) (fun _ => vC_sound hg hok hm h2 h)
      · exact (stk_no h).elim
    · cases hr
  | .block id x, rc, Q, st, hr, h => by
    simp only [resC, Option.map_eq_some_iff] at hr
    obtain ⟨x', h1, rfl⟩ := hr
    refine AWp.block ((vC_sound hg hok hm h1 h).mono fun e st h' => ?_)
    cases e <;> exact h'
  | .loop x, rc, Q, st, hr, h => by
    simp only [resC, Option.map_eq_some_iff] at hr
    obtain ⟨x', h1, rfl⟩ := hr
    rcases h with ⟨n, h⟩ | ⟨α, S, p, μ, x0, q1, q2, q3⟩
    · refine AWp.rounds n ?_
      induction n generalizing st with
      | zero => exact fun _ _ _ _ _ _ => h.elim
      | succ n ih =>
        intro E a w g hE hr
        refine wpIn_mono (vC_sound hg hok hm h1 h E a w g hE hr) fun e a w hh => ?_
        cases e with
        | normal => obtain ⟨st, g, h1, h2⟩ := hh; exact ih _ h1 E a w g hE h2
        | _ => exact hh
    · exact AWp.loopF hok S p μ x0 q1 q2 fun x hx => vC_sound hg hok hm h1 (q3 x hx)
  | .exit id, rc, Q, st, hr, h => by
    simp only [resC, Option.some.injEq] at hr; subst hr
    exact fun _ _ _ g _ hr => wpIn_exit ⟨st, g, h, hr⟩
  | .goto id, rc, Q, st, hr, h => by
    simp only [resC, Option.some.injEq] at hr; subst hr
    exact fun _ _ _ g _ hr => wpIn_goto ⟨st, g, h, hr⟩
  | .ret, rc, Q, st, hr, h => by
    simp only [resC, Option.some.injEq] at hr; subst hr
    exact fun _ _ _ g _ hr => wpIn_ret ⟨st, g, h, hr⟩
  | .rangeFunc f ps x y, rc, Q, st, hr, h => by
    simp only [resC] at hr
    split at hr
    · rename_i x' y' h1 h2
      simp only [Option.some.injEq] at hr; subst hr
      simp only [vC] at h
      split at h
      · rename_i v hv
        have := h f x y ann (evO_eq hg hv) h1 h2
        simpa using this
      · exact (stk_no h).elim
    · cases hr
  | .scope _, rc, Q, st, hr, h => by simp only [resC, Option.some.injEq] at hr; subst hr; exact h
  | .refuse _, rc, Q, st, hr, h => by simp only [resC, Option.some.injEq] at hr; subst hr; exact h

theorem vRes_sound : ∀ {rvs : List ResultVar} {rs : List RV} {K : List AV → Prop}, resR C.P rvs = some rs → vRes (real C l nb) st rs K → ∃ vs, resL C st rvs = some vs ∧ K vs
  | [], rs, K, hr, h => by simp only [resR, Option.some.injEq] at hr; subst hr; exact ⟨[], rfl, h⟩
  | .tmp t :: rvs, rs, K, hr, h => by
    simp only [resR, Option.map_eq_some_iff] at hr
    obtain ⟨r, h1, rfl⟩ := hr
    simp only [vRes] at h
    split at h
    · rename_i v hv
      obtain ⟨vs, q1, q2⟩ := vRes_sound h1 h
      exact ⟨v :: vs, by simp only [resL, hv, q1], q2⟩
    · exact (stk_no h).elim
  | .cell t T :: rvs, rs, K, hr, h => by
    simp only [resR] at hr
    split at hr
    · rename_i b n r hs h1
      simp only [Option.some.injEq] at hr; subst hr
      cases b with
      | true =>
        simp only [vRes] at h
        obtain ⟨u, cs, e1, e2, e3⟩ := vRange_sound h
        obtain ⟨vs, q1, q2⟩ := vRes_sound h1 e3
        exact ⟨_, by simp only [resL, e1, Option.bind_some, ASt.ld, hs, e2, Option.map_some, q1], q2⟩
      | false =>
        simp only [vRes] at h
        obtain ⟨u, cs, e1, e2, e3⟩ := vRange_sound h
        split at e3
        · rename_i v
          obtain ⟨vs, q1, q2⟩ := vRes_sound h1 e3
          exact ⟨v :: vs, by simp only [resL, e1, Option.bind_some, ASt.ld, hs, e2, q1]; rfl, q2⟩
        · exact (stk_no e3).elim
    · cases hr

theorem vEnd_sound {fn : Func} {rs : List RV} {R : AEnd → ASt → Prop} {nl : Nat} (hr : resR C.P fn.results.toList = some rs) {e : Exit} {st : ASt} (h : vEnd (real C l nb) nb nl rs R e st) : bodyQ C fn nb (fun ae st => R ae (st.dropL nl)) e st := by
  cases e with
  | normal => obtain ⟨vs, q1, q2⟩ := vRes_sound hr h; simp only [bodyQ, q1]; exact q2
  | ret => obtain ⟨vs, q1, q2⟩ := vRes_sound hr h; simp only [bodyQ, q1]; exact q2
  | panic ch =>
    unfold vEnd at h
    split at h
    · rename_i he; cases he
    · rename_i he; cases he
    · rename_i p he; cases he; exact ⟨_, rfl, h⟩
    · exact (stk_no h).elim
  | exit id => exact (stk_no h).elim
  | goto id => exact (stk_no h).elim
  | outgrown => exact (stk_no h).elim

theorem dropL_rel {E : Entry} {a : Act} {w : World} {g : Gh} {nl : Nat} (h : Rel C E st a w g) : Rel C E (st.dropL nl) a w g := by
  refine Rel.lpDrop (l1 := st.l.drop nl) (st := st) ?_
  rw [List.take_append_drop]; exact h
theorem ACallP.dropL {P : Entry → Prop} {f : FuncId} {st0 : ASt} {R : AEnd → ASt → Prop} (nl : Nat) (h : ACallP C P f st0 fun ae st => R ae (st.dropL nl)) : ACallP C P f st0 R :=
  ⟨h.1, fun E args w g hp hr => (h.2 E args w g hp hr).mono fun _ _ ⟨ae, vals, st1, g1, h1, h2, h3⟩ => ⟨ae, vals, st1.dropL nl, g1, h1, h2, dropL_rel h3⟩⟩

/-- A function: its code is run by the machine that asks. -/
theorem ACallP.vm0 {P : Entry → Prop} {f : FuncId} {ann : List (Nat × List Nat)} {fi : FnI} {st0 : ASt} {R : AEnd → ASt → Prop} (hf : fnOf C.P f ann = some fi) (hg : GlOk C gl) (hm : C.P.follows .mixedOrders = true) (hle : Nat.ble st0.n fi.n = true)
    (h : ∀ o, o = real C ⟨none, fun E => P E ∧ E.n0 ≤ st0.b.length⟩ st0.b.length → vC o gl pol st0.b.length fi.rc (vEnd o st0.b.length st0.l.length fi.rs R) { st0 with n := fi.n }) : ACallP C P f st0 R := by
  unfold fnOf at hf
  split at hf
  · rename_i fn hfn
    split at hf
    · rename_i c hc
      split at hf
      · rename_i hname
        split at hf
        · rename_i rs rc h1 h2
          simp only [Option.some.injEq] at hf; subst hf
          refine ACallP.dropL st0.l.length ?_
          refine ACallP.of_body hfn hc hname (Nat.le_of_ble_eq_true hle) ?_
          have := h _ rfl
          exact (vC_sound (l := ⟨none, fun E => P E ∧ E.n0 ≤ st0.b.length⟩) hg (fun E hE => hE.2) hm h2 this).mono fun e st he => vEnd_sound h1 he
        · cases hf
      · cases hf
    · cases hf
  · cases hf
theorem ACall.vm {f : FuncId} {ann : List (Nat × List Nat)} {fi : FnI} {st0 : ASt} {R : AEnd → ASt → Prop} (pol : Pol) (gl : List (Nat × List AV)) (hf : fnOf C.P f ann = some fi) (hg : GlOk C gl) (hm : C.P.follows .mixedOrders = true) (hle : Nat.ble st0.n fi.n = true)
    (h : ∀ o R', o = real C ⟨none, fun E => True ∧ E.n0 ≤ st0.b.length⟩ st0.b.length → (∀ ae st, R ae st → R' ae st) → vC o gl pol st0.b.length fi.rc (vEnd o st0.b.length st0.l.length fi.rs R') { st0 with n := fi.n }) : ACall C f st0 R :=
  ACallP.vm0 hf hg hm hle fun o ho => h o R ho fun _ _ h => h
end
end Go.Ab
end
section
/- The abstract layer, part Vg: answers to the questions. -/
namespace Go.Ab
open Go.RowKit

section
variable {C : Env} {l : Lv} {nb : Nat} {o : Ask → (Ans → Prop) → Prop} {K : Ans → Prop} {k k' : IntKind} {a b : Int}

/-! Comparisons. -/
theorem q_lss (ho : o = real C l nb) (h1 : a < b → K (.b true)) (h2 : ¬ a < b → K (.b false)) : o (.cmp .lss k a b) K := by
  subst ho
  by_cases h : a < b
  · exact ⟨true, by simp [bin2, h], h1 h⟩
  · exact ⟨false, by simp [bin2, h], h2 h⟩
theorem q_leq (ho : o = real C l nb) (h1 : a ≤ b → K (.b true)) (h2 : ¬ a ≤ b → K (.b false)) : o (.cmp .leq k a b) K := by
  subst ho
  by_cases h : a ≤ b
  · exact ⟨true, by simp [bin2, h], h1 h⟩
  · exact ⟨false, by simp [bin2, h], h2 h⟩
theorem q_gtr (ho : o = real C l nb) (h1 : b < a → K (.b true)) (h2 : ¬ b < a → K (.b false)) : o (.cmp .gtr k a b) K := by
  subst ho
  by_cases h : b < a
  · exact ⟨true, by simp [bin2, h], h1 h⟩
  · exact ⟨false, by simp [bin2, h], h2 h⟩
theorem q_geq (ho : o = real C l nb) (h1 : b ≤ a → K (.b true)) (h2 : ¬ b ≤ a → K (.b false)) : o (.cmp .geq k a b) K := by
  subst ho
  by_cases h : b ≤ a
  · exact ⟨true, by simp [bin2, h], h1 h⟩
  · exact ⟨false, by simp [bin2, h], h2 h⟩
theorem q_eql (ho : o = real C l nb) (h1 : a = b → K (.b true)) (h2 : ¬ a = b → K (.b false)) : o (.cmp .eql k a b) K := by
  subst ho
  by_cases h : a = b
  · exact ⟨true, by simp [bin2, h], h1 h⟩
  · exact ⟨false, by simp [bin2, h], h2 h⟩
theorem q_neq (ho : o = real C l nb) (h1 : ¬ a = b → K (.b true)) (h2 : a = b → K (.b false)) : o (.cmp .neq k a b) K := by
  subst ho
  by_cases h : a = b
  · exact ⟨false, by simp [bin2, h], h2 h⟩
  · exact ⟨true, by simp [bin2, h], h1 h⟩
/-! Where the answer is known. -/
theorem q_lssT (ho : o = real C l nb) (h : a < b) (hk : K (.b true)) : o (.cmp .lss k a b) K := q_lss ho (fun _ => hk) (fun h' => absurd h h')
theorem q_lssF (ho : o = real C l nb) (h : ¬ a < b) (hk : K (.b false)) : o (.cmp .lss k a b) K := q_lss ho (fun h' => absurd h' h) (fun _ => hk)
theorem q_leqT (ho : o = real C l nb) (h : a ≤ b) (hk : K (.b true)) : o (.cmp .leq k a b) K := q_leq ho (fun _ => hk) (fun h' => absurd h h')
theorem q_leqF (ho : o = real C l nb) (h : ¬ a ≤ b) (hk : K (.b false)) : o (.cmp .leq k a b) K := q_leq ho (fun h' => absurd h' h) (fun _ => hk)
theorem q_gtrT (ho : o = real C l nb) (h : b < a) (hk : K (.b true)) : o (.cmp .gtr k a b) K := q_gtr ho (fun _ => hk) (fun h' => absurd h h')
theorem q_gtrF (ho : o = real C l nb) (h : ¬ b < a) (hk : K (.b false)) : o (.cmp .gtr k a b) K := q_gtr ho (fun h' => absurd h' h) (fun _ => hk)
theorem q_geqT (ho : o = real C l nb) (h : b ≤ a) (hk : K (.b true)) : o (.cmp .geq k a b) K := q_geq ho (fun _ => hk) (fun h' => absurd h h')
theorem q_geqF (ho : o = real C l nb) (h : ¬ b ≤ a) (hk : K (.b false)) : o (.cmp .geq k a b) K := q_geq ho (fun h' => absurd h' h) (fun _ => hk)
theorem q_eqlT (ho : o = real C l nb) (h : a = b) (hk : K (.b true)) : o (.cmp .eql k a b) K := q_eql ho (fun _ => hk) (fun h' => absurd h h')
theorem q_eqlF (ho : o = real C l nb) (h : ¬ a = b) (hk : K (.b false)) : o (.cmp .eql k a b) K := q_eql ho (fun h' => absurd h' h) (fun _ => hk)
theorem q_neqT (ho : o = real C l nb) (h : ¬ a = b) (hk : K (.b true)) : o (.cmp .neq k a b) K := q_neq ho (fun _ => hk) (fun h' => absurd h (fun f => f h'))
theorem q_neqF (ho : o = real C l nb) (h : a = b) (hk : K (.b false)) : o (.cmp .neq k a b) K := q_neq ho (fun h' => absurd h h') (fun _ => hk)
theorem q_seql {s t : ByteArray} (ho : o = real C l nb) (h1 : s = t → K (.b true)) (h2 : ¬ s = t → K (.b false)) : o (.scmp .eql s t) K := by
  subst ho
  by_cases h : s = t
  · exact ⟨true, by simp [bin2, h], h1 h⟩
  · exact ⟨false, by simp [bin2, h], h2 h⟩
theorem q_sneq {s t : ByteArray} (ho : o = real C l nb) (h1 : ¬ s = t → K (.b true)) (h2 : s = t → K (.b false)) : o (.scmp .neq s t) K := by
  subst ho
  by_cases h : s = t
  · exact ⟨false, by simp [bin2, h], h2 h⟩
  · exact ⟨true, by simp [bin2, h], h1 h⟩
theorem q_slss {s t : ByteArray} (ho : o = real C l nb) (h1 : Op.bytesLess s.data.toList t.data.toList = true → K (.b true)) (h2 : Op.bytesLess s.data.toList t.data.toList = false → K (.b false)) : o (.scmp .lss s t) K := by
  subst ho
  cases h : Op.bytesLess s.data.toList t.data.toList with
  | true => exact ⟨true, by simp [bin2, h], h1 h⟩
  | false => exact ⟨false, by simp [bin2, h], h2 h⟩

theorem q_eqs {xs ys : List AV} (ho : o = real C l nb) (hk : eqK xs ys = true) (h1 : eqP xs ys → K (.b true)) (h2 : ¬ eqP xs ys → K (.b false)) : o (.eqs xs ys) K := by
  subst ho
  obtain ⟨t, e, ht⟩ := leavesEq_of hk
  refine ⟨t, e, ?_⟩
  cases t with
  | true => exact h1 (ht.1 rfl)
  | false => exact h2 (fun h => by have := ht.2 h; cases this)

/-! Sums and their like, wrapped. -/
theorem q_add (ho : o = real C l nb) (h : ∀ n, n = k.wrap (a + b) → K (.i n)) : o (.ar .add k a b) K := by
  subst ho; exact ⟨_, by simp [bin2], h _ rfl⟩
theorem q_sub (ho : o = real C l nb) (h : ∀ n, n = k.wrap (a - b) → K (.i n)) : o (.ar .sub k a b) K := by
  subst ho; exact ⟨_, by simp [bin2], h _ rfl⟩
theorem q_mul (ho : o = real C l nb) (h : ∀ n, n = k.wrap (a * b) → K (.i n)) : o (.ar .mul k a b) K := by
  subst ho; exact ⟨_, by simp [bin2], h _ rfl⟩
theorem q_quo (ho : o = real C l nb) (h0 : b ≠ 0) (h : ∀ n, n = k.wrap (a.tdiv b) → K (.i n)) : o (.ar .quo k a b) K := by
  subst ho; exact ⟨_, by simp [bin2, h0], h _ rfl⟩
theorem q_rem (ho : o = real C l nb) (h0 : b ≠ 0) (h : ∀ n, n = a.tmod b → K (.i n)) : o (.ar .rem k a b) K := by
  subst ho; exact ⟨_, by simp [bin2, h0], h _ rfl⟩
theorem q_and (ho : o = real C l nb) (h : ∀ n, n = iand k a b → K (.i n)) : o (.ar .and k a b) K := by
  subst ho; exact ⟨_, by simp [bin2], h _ rfl⟩
theorem q_or (ho : o = real C l nb) (h : ∀ n, n = ior k a b → K (.i n)) : o (.ar .or k a b) K := by
  subst ho; exact ⟨_, by simp [bin2], h _ rfl⟩
theorem q_xor (ho : o = real C l nb) (h : ∀ n, n = ixor k a b → K (.i n)) : o (.ar .xor k a b) K := by
  subst ho; exact ⟨_, by simp [bin2], h _ rfl⟩
theorem q_shl (ho : o = real C l nb) (h0 : 0 ≤ b) (h : ∀ n, n = ishl k a b → K (.i n)) : o (.sh .shl k a k' b) K := by
  subst ho; exact ⟨_, by simp [bin2, h0], h _ rfl⟩
theorem q_shr (ho : o = real C l nb) (h0 : 0 ≤ b) (h : ∀ n, n = ishr k a b → K (.i n)) : o (.sh .shr k a k' b) K := by
  subst ho; exact ⟨_, by simp [bin2, h0], h _ rfl⟩
theorem q_cv (ho : o = real C l nb) (h : ∀ n, n = k.wrap a → K (.i n)) : o (.cv k a) K := by
  subst ho; exact h _ rfl

/-! In range: no wrap. -/
theorem wrapI64 {x : Int} (h1 : -9223372036854775808 ≤ x) (h2 : x ≤ 9223372036854775807) : IntKind.i64.wrap x = x := wrap64 h1 h2
theorem wrapI32 {x : Int} (h1 : -2147483648 ≤ x) (h2 : x ≤ 2147483647) : IntKind.i32.wrap x = x := wrap32 h1 h2
theorem wrapU64 {x : Int} (h1 : 0 ≤ x) (h2 : x ≤ 18446744073709551615) : IntKind.u64.wrap x = x := by
  simp only [IntKind.wrap, IntKind.bits, IntKind.signed, Bool.false_and]; simp; omega
theorem wrapU32 {x : Int} (h1 : 0 ≤ x) (h2 : x ≤ 4294967295) : IntKind.u32.wrap x = x := by
  simp only [IntKind.wrap, IntKind.bits, IntKind.signed, Bool.false_and]; simp; omega
theorem wrapU16 {x : Int} (h1 : 0 ≤ x) (h2 : x ≤ 65535) : IntKind.u16.wrap x = x := by
  simp only [IntKind.wrap, IntKind.bits, IntKind.signed, Bool.false_and]; simp; omega
theorem q_add64 (ho : o = real C l nb) (h1 : -9223372036854775808 ≤ a + b) (h2 : a + b ≤ 9223372036854775807) (h : ∀ n, n = a + b → K (.i n)) : o (.ar .add .i64 a b) K :=
  q_add ho fun n hn => h n (hn.trans (wrapI64 h1 h2))
theorem q_sub64 (ho : o = real C l nb) (h1 : -9223372036854775808 ≤ a - b) (h2 : a - b ≤ 9223372036854775807) (h : ∀ n, n = a - b → K (.i n)) : o (.ar .sub .i64 a b) K :=
  q_sub ho fun n hn => h n (hn.trans (wrapI64 h1 h2))
theorem q_mul64 (ho : o = real C l nb) (h1 : -9223372036854775808 ≤ a * b) (h2 : a * b ≤ 9223372036854775807) (h : ∀ n, n = a * b → K (.i n)) : o (.ar .mul .i64 a b) K :=
  q_mul ho fun n hn => h n (hn.trans (wrapI64 h1 h2))
theorem q_add32 (ho : o = real C l nb) (h1 : -2147483648 ≤ a + b) (h2 : a + b ≤ 2147483647) (h : ∀ n, n = a + b → K (.i n)) : o (.ar .add .i32 a b) K :=
  q_add ho fun n hn => h n (hn.trans (wrapI32 h1 h2))
theorem q_sub32 (ho : o = real C l nb) (h1 : -2147483648 ≤ a - b) (h2 : a - b ≤ 2147483647) (h : ∀ n, n = a - b → K (.i n)) : o (.ar .sub .i32 a b) K :=
  q_sub ho fun n hn => h n (hn.trans (wrapI32 h1 h2))
theorem q_mul32 (ho : o = real C l nb) (h1 : -2147483648 ≤ a * b) (h2 : a * b ≤ 2147483647) (h : ∀ n, n = a * b → K (.i n)) : o (.ar .mul .i32 a b) K :=
  q_mul ho fun n hn => h n (hn.trans (wrapI32 h1 h2))
theorem q_addU8 (ho : o = real C l nb) (h1 : 0 ≤ a + b) (h2 : a + b ≤ 255) (h : ∀ n, n = a + b → K (.i n)) : o (.ar .add .u8 a b) K :=
  q_add ho fun n hn => h n (hn.trans (wrapU8 h1 h2))
theorem q_subU8 (ho : o = real C l nb) (h1 : 0 ≤ a - b) (h2 : a - b ≤ 255) (h : ∀ n, n = a - b → K (.i n)) : o (.ar .sub .u8 a b) K :=
  q_sub ho fun n hn => h n (hn.trans (wrapU8 h1 h2))
theorem q_addU64 (ho : o = real C l nb) (h1 : 0 ≤ a + b) (h2 : a + b ≤ 18446744073709551615) (h : ∀ n, n = a + b → K (.i n)) : o (.ar .add .u64 a b) K :=
  q_add ho fun n hn => h n (hn.trans (wrapU64 h1 h2))
theorem q_subU64 (ho : o = real C l nb) (h1 : 0 ≤ a - b) (h2 : a - b ≤ 18446744073709551615) (h : ∀ n, n = a - b → K (.i n)) : o (.ar .sub .u64 a b) K :=
  q_sub ho fun n hn => h n (hn.trans (wrapU64 h1 h2))
/-- By a constant: the literal that it comes to. -/
theorem q_arc {op : BinOp} {n : Int} (ho : o = real C l nb) (hn : bin2 op (.int k a) (.int k b) = some (.int k n)) (h : K (.i n)) : o (.ar op k a b) K := by
  subst ho; exact ⟨n, hn, h⟩
theorem q_addc {c : Int} (ho : o = real C l nb) (hc : a + b = c) (hw : k.wrap c = c) (h : K (.i c)) : o (.ar .add k a b) K := q_add ho fun n hn => by rw [hn, hc, hw]; exact h
theorem q_subc {c : Int} (ho : o = real C l nb) (hc : a - b = c) (hw : k.wrap c = c) (h : K (.i c)) : o (.ar .sub k a b) K := q_sub ho fun n hn => by rw [hn, hc, hw]; exact h
theorem q_quo64 (ho : o = real C l nb) (h0 : 0 ≤ a) (hb : 0 < b) (h2 : a ≤ 9223372036854775807) (h : ∀ n, n = a / b → K (.i n)) : o (.ar .quo .i64 a b) K :=
  q_quo ho (by omega) fun n hn => h n (by
    rw [hn, Int.tdiv_eq_ediv_of_nonneg h0]
    have h3 : 0 ≤ a / b := Int.ediv_nonneg h0 (by omega)
    have h4 : a / b ≤ a := Int.ediv_le_self b h0
    exact wrapI64 (by omega) (by omega))
theorem q_rem64 (ho : o = real C l nb) (h0 : 0 ≤ a) (hb : 0 < b) (h : ∀ n, n = a % b → K (.i n)) : o (.ar .rem k a b) K :=
  q_rem ho (by omega) fun n hn => h n (by rw [hn, Int.tmod_eq_emod_of_nonneg h0])
theorem q_quo32 (ho : o = real C l nb) (h0 : 0 ≤ a) (hb : 0 < b) (h2 : a ≤ 2147483647) (h : ∀ n, n = a / b → K (.i n)) : o (.ar .quo .i32 a b) K :=
  q_quo ho (by omega) fun n hn => h n (by
    rw [hn, Int.tdiv_eq_ediv_of_nonneg h0]
    have h3 : 0 ≤ a / b := Int.ediv_nonneg h0 (by omega)
    have h4 : a / b ≤ a := Int.ediv_le_self b h0
    exact wrapI32 (by omega) (by omega))
theorem q_cv64 (ho : o = real C l nb) (h1 : -9223372036854775808 ≤ a) (h2 : a ≤ 9223372036854775807) (h : K (.i a)) : o (.cv .i64 a) K :=
  q_cv ho fun n hn => by rw [hn, wrapI64 h1 h2]; exact h
theorem q_cv32 (ho : o = real C l nb) (h1 : -2147483648 ≤ a) (h2 : a ≤ 2147483647) (h : K (.i a)) : o (.cv .i32 a) K :=
  q_cv ho fun n hn => by rw [hn, wrapI32 h1 h2]; exact h
theorem q_cvU8 (ho : o = real C l nb) (h1 : 0 ≤ a) (h2 : a ≤ 255) (h : K (.i a)) : o (.cv .u8 a) K :=
  q_cv ho fun n hn => by rw [hn, wrapU8 h1 h2]; exact h
theorem q_cvU64 (ho : o = real C l nb) (h1 : 0 ≤ a) (h2 : a ≤ 18446744073709551615) (h : K (.i a)) : o (.cv .u64 a) K :=
  q_cv ho fun n hn => by rw [hn, wrapU64 h1 h2]; exact h
theorem q_cvU32 (ho : o = real C l nb) (h1 : 0 ≤ a) (h2 : a ≤ 4294967295) (h : K (.i a)) : o (.cv .u32 a) K :=
  q_cv ho fun n hn => by rw [hn, wrapU32 h1 h2]; exact h

/-! Shifts by a constant. -/
theorem q_shrc (b p : Int) (ho : o = real C l nb) (hb : 0 ≤ b ∧ b.toNat ≤ k.bits ∧ p = 2 ^ b.toNat) (_ : 0 ≤ a) (h : ∀ n, n = a / p → K (.i n)) : o (.sh .shr k a k' b) K :=
  q_shr ho hb.1 fun n hn => h n (by
    rw [hn, ishr, Nat.min_eq_left hb.2.1, ← hb.2.2]
    have : 0 ≤ p := by rw [hb.2.2]; exact Int.le_of_lt (Int.pow_pos (by decide))
    exact Int.fdiv_eq_ediv_of_nonneg _ this)
theorem q_shlc (b p : Int) (ho : o = real C l nb) (hb : 0 ≤ b ∧ b.toNat ≤ k.bits ∧ p = 2 ^ b.toNat) (h1 : 0 ≤ a * p) (h2 : a * p < 2 ^ (k.bits - 1)) (h : ∀ n, n = a * p → K (.i n)) : o (.sh .shl k a k' b) K :=
  q_shl ho hb.1 fun n hn => h n (by
    rw [hn, ishl, Nat.min_eq_left hb.2.1, ← hb.2.2]
    exact wrap_id h1 h2)

theorem q_andc (m : Nat) (b p : Int) (ho : o = real C l nb) (hb : m ≤ k.bits - 1 ∧ b = 2 ^ m - 1 ∧ p = 2 ^ m) (h0 : 0 ≤ a) (h1 : a < 2 ^ k.bits) (h : ∀ n, n = a % p → K (.i n)) : o (.ar .and k a b) K :=
  q_and ho fun n hn => h n (by rw [hn, hb.2.1, hb.2.2]; exact iand_mask h0 h1 hb.1)
theorem q_orc (m : Nat) (a d p : Int) (ho : o = real C l nb) (ha : a = d * 2 ^ m ∧ 0 ≤ d ∧ p = 2 ^ m) (h0 : 0 ≤ b) (h1 : b < p) (h2 : a + b < 2 ^ (k.bits - 1)) (h : ∀ n, n = a + b → K (.i n)) : o (.ar .or k a b) K :=
  q_or ho fun n hn => h n (by
    obtain ⟨rfl, e1, rfl⟩ := ha
    rw [hn]; exact ior_add e1 h0 h1 h2)

/-! Strings. -/
theorem q_slen {s : ByteArray} (ho : o = real C l nb) (h : ∀ n : Int, n = s.data.toList.length → K (.i n)) : o (.slen s) K := by subst ho; exact h _ rfl
theorem q_six {s : ByteArray} (ho : o = real C l nb) (h0 : 0 ≤ a) (h1 : a < s.data.toList.length) (h : ∀ b : UInt8, s.data.toList[a.toNat]? = some b → ∀ n : Int, n = b.toNat → n < 256 → K (.i n)) : o (.six s a) K := by
  subst ho
  have hlt : a.toNat < s.data.toList.length := by omega
  exact ⟨h0, _, List.getElem?_eq_getElem hlt, h _ (List.getElem?_eq_getElem hlt) _ rfl (by have := (s.data.toList[a.toNat]).toNat_lt; omega)⟩
theorem q_scat {s t : ByteArray} (ho : o = real C l nb) (h0 : s.size + t.size < 9223372036854775808) (h : ∀ u, u = s ++ t → K (.s u)) : o (.scat s t) K := by
  subst ho; exact ⟨_, by simp only [bin2, h0, if_true], h _ rfl⟩
theorem q_tobytes {s : ByteArray} (ho : o = real C l nb) (h : ∀ r, r = s.data.toList.map (fun b => AV.sc (.int .u8 b.toNat)) → K (.l r)) : o (.tobytes s) K := by subst ho; exact h _ rfl
theorem q_tostr {L : List AV} {bs : List UInt8} (ho : o = real C l nb) (hb : bytesOf L = some bs) (h : ∀ s : ByteArray, s = ⟨bs.toArray⟩ → K (.s s)) : o (.tostr L) K := by subst ho; exact ⟨bs, hb, h _ rfl⟩

/-! Lists. -/
variable {L M : List AV} {α : Type} {x y : List α} {f : α → AV}
theorem q_len (ho : o = real C l nb) (h : ∀ n : Int, n = L.length → K (.i n)) : o (.len L) K := by subst ho; exact h _ rfl
theorem q_lenM (ho : o = real C l nb) (hL : L = x.map f) (h : ∀ n : Int, n = x.length → K (.i n)) : o (.len L) K := q_len ho fun n hn => h n (by rw [hn, hL, List.length_map])
theorem q_lenc {n : Int} (ho : o = real C l nb) (hL : Int.ofNat L.length = n) (h : K (.i n)) : o (.len L) K := by subst ho; subst hL; exact h
theorem q_len0 (ho : o = real C l nb) (h : K (.i 0)) : o (.len []) K := by subst ho; exact h
theorem q_len1 {a0 : AV} (ho : o = real C l nb) (h : K (.i 1)) : o (.len [a0]) K := by subst ho; exact h
theorem q_len2 {a0 a1 : AV} (ho : o = real C l nb) (h : K (.i 2)) : o (.len [a0, a1]) K := by subst ho; exact h
theorem q_len3 {a0 a1 a2 : AV} (ho : o = real C l nb) (h : K (.i 3)) : o (.len [a0, a1, a2]) K := by subst ho; exact h
theorem q_len4 {a0 a1 a2 a3 : AV} (ho : o = real C l nb) (h : K (.i 4)) : o (.len [a0, a1, a2, a3]) K := by subst ho; exact h
theorem q_len5 {a0 a1 a2 a3 a4 : AV} (ho : o = real C l nb) (h : K (.i 5)) : o (.len [a0, a1, a2, a3, a4]) K := by subst ho; exact h
theorem q_len6 {a0 a1 a2 a3 a4 a5 : AV} (ho : o = real C l nb) (h : K (.i 6)) : o (.len [a0, a1, a2, a3, a4, a5]) K := by subst ho; exact h
theorem q_len7 {a0 a1 a2 a3 a4 a5 a6 : AV} (ho : o = real C l nb) (h : K (.i 7)) : o (.len [a0, a1, a2, a3, a4, a5, a6]) K := by subst ho; exact h
theorem q_len8 {a0 a1 a2 a3 a4 a5 a6 a7 : AV} (ho : o = real C l nb) (h : K (.i 8)) : o (.len [a0, a1, a2, a3, a4, a5, a6, a7]) K := by subst ho; exact h
theorem q_idx (ho : o = real C l nb) (h0 : 0 ≤ a) (h1 : a < L.length) (h : ∀ e, L[a.toNat]? = some e → K (.a e)) : o (.idx L a) K := by
  subst ho
  have hlt : a.toNat < L.length := by omega
  exact ⟨h0, _, List.getElem?_eq_getElem hlt, h _ (List.getElem?_eq_getElem hlt)⟩
theorem q_idxM (ho : o = real C l nb) (hL : L = x.map f) (h0 : 0 ≤ a) (h1 : a < x.length) (h : ∀ e, x[a.toNat]? = some e → K (.a (f e))) : o (.idx L a) K := by
  subst hL
  have hlt : a.toNat < x.length := by omega
  refine q_idx ho h0 (by rw [List.length_map]; exact h1) fun e he => ?_
  rw [List.getElem?_map, List.getElem?_eq_getElem hlt] at he
  simp only [Option.map_some, Option.some.injEq] at he
  rw [← he]; exact h _ (List.getElem?_eq_getElem hlt)
theorem q_idxc {e : AV} (ho : o = real C l nb) (h0 : 0 ≤ a) (he : L[a.toNat]? = some e) (h : K (.a e)) : o (.idx L a) K := by subst ho; exact ⟨h0, e, he, h⟩
theorem q_pos (ho : o = real C l nb) (h0 : 0 ≤ a) (h1 : a < L.length) (h : ∀ j : Nat, j = a.toNat → K (.n j)) : o (.pos L a) K := by
  subst ho
  exact ⟨h0, by omega, h _ rfl⟩
theorem q_posM (ho : o = real C l nb) (hL : L = x.map f) (h0 : 0 ≤ a) (h1 : a < x.length) (h : ∀ j : Nat, j = a.toNat → K (.n j)) : o (.pos L a) K :=
  q_pos ho h0 (by rw [hL, List.length_map]; exact h1) h
theorem q_nth {i : Nat} {e : AV} (ho : o = real C l nb) (he : L[i]? = some e) (h : K (.a e)) : o (.nth L i) K := by subst ho; exact ⟨e, he, h⟩
theorem q_nthM {i : Nat} (ho : o = real C l nb) (hL : L = x.map f) (hi : i < x.length) (h : ∀ e, x[i]? = some e → K (.a (f e))) : o (.nth L i) K :=
  q_nth ho (by rw [hL, List.getElem?_map, List.getElem?_eq_getElem hi]; rfl) (h _ (List.getElem?_eq_getElem hi))
theorem q_arr {n : Nat} (ho : o = real C l nb) (h0 : 0 ≤ a) (h1 : a < n) (h : ∀ j : Nat, j < n → j = a.toNat → K (.n j)) : o (.arr n a) K := by
  subst ho; exact ⟨h0, h1, h _ (by omega) rfl⟩
theorem q_arrc {n j : Nat} (ho : o = real C l nb) (h0 : a = (j : Int)) (h1 : j < n) (h : K (.n j)) : o (.arr n a) K := by
  subst ho; subst h0; exact ⟨by omega, by omega, by simpa using h⟩
theorem q_arrl {n : Nat} (ho : o = real C l nb) (h0 : 0 ≤ a) (h1 : a < n) (h : K (.n a.toNat)) : o (.arr n a) K := by subst ho; exact ⟨h0, h1, h⟩
theorem q_drop {n : Nat} {r : List AV} (ho : o = real C l nb) (h0 : n ≤ L.length) (hr : L.drop n = r) (h : K (.l r)) : o (.drop L n) K := by subst ho hr; exact ⟨h0, h⟩
theorem q_sub2 {i j : Int} (ho : o = real C l nb) (h0 : 0 ≤ i) (h1 : i ≤ j) (h2 : j ≤ L.length) (h : ∀ r, r = (L.take j.toNat).drop i.toNat → K (.l r)) : o (.sub L (some i) (some j) none) K := by
  subst ho; exact ⟨h0, h1, h2, (fun m hm => by cases hm), h _ rfl⟩
theorem q_subLo {i : Int} (ho : o = real C l nb) (h0 : 0 ≤ i) (h1 : i ≤ L.length) (h : ∀ r, r = L.drop i.toNat → K (.l r)) : o (.sub L (some i) none none) K := by
  subst ho; exact ⟨h0, h1, Int.le_refl _, (fun m hm => by cases hm), h _ (by simp)⟩
theorem q_subHi {j : Int} (ho : o = real C l nb) (h0 : 0 ≤ j) (h2 : j ≤ L.length) (h : ∀ r, r = L.take j.toNat → K (.l r)) : o (.sub L none (some j) none) K := by
  subst ho; exact ⟨Int.le_refl _, h0, h2, (fun m hm => by cases hm), h _ (by simp)⟩
theorem q_sub0 (ho : o = real C l nb) (h : K (.l L)) : o (.sub L none none none) K := by
  subst ho; exact ⟨Int.le_refl _, by simp, by simp, (fun m hm => by cases hm), by simpa using h⟩
theorem q_sub3 {i j : Int} (ho : o = real C l nb) (h0 : 0 ≤ i) (h1 : i ≤ j) (h2 : j ≤ L.length) (h : ∀ r, r = (L.take j.toNat).drop i.toNat → K (.l r)) : o (.sub L (some i) (some j) (some j)) K := by
  subst ho; exact ⟨h0, h1, h2, (fun m hm => by simpa using hm), h _ rfl⟩
theorem q_subHiL {j : Int} (ho : o = real C l nb) (h0 : 0 ≤ j) (h2 : Nat.ble j.toNat L.length = true) (h : K (.l (L.take j.toNat))) : o (.sub L none (some j) none) K :=
  q_subHi ho h0 (by have := Nat.le_of_ble_eq_true h2; omega) fun r hr => by rw [hr]; exact h
theorem q_subLoL {i : Int} (ho : o = real C l nb) (h0 : 0 ≤ i) (h2 : Nat.ble i.toNat L.length = true) (h : K (.l (L.drop i.toNat))) : o (.sub L (some i) none none) K :=
  q_subLo ho h0 (by have := Nat.le_of_ble_eq_true h2; omega) fun r hr => by rw [hr]; exact h
theorem q_sub2L {i j : Int} (ho : o = real C l nb) (h0 : 0 ≤ i) (h1 : i ≤ j) (h2 : Nat.ble j.toNat L.length = true) (h : K (.l ((L.take j.toNat).drop i.toNat))) : o (.sub L (some i) (some j) none) K :=
  q_sub2 ho h0 h1 (by have := Nat.le_of_ble_eq_true h2; omega) fun r hr => by rw [hr]; exact h
theorem q_sub2M {i j : Int} (ho : o = real C l nb) (hL : L = x.map f) (h0 : 0 ≤ i) (h1 : i ≤ j) (h2 : j ≤ x.length) (h : ∀ r, r = ((x.take j.toNat).drop i.toNat).map f → K (.l r)) : o (.sub L (some i) (some j) none) K :=
  q_sub2 ho h0 h1 (by rw [hL, List.length_map]; exact h2) fun r hr => h r (by rw [hr, hL, List.map_drop, List.map_take])
theorem q_subLoM {i : Int} (ho : o = real C l nb) (hL : L = x.map f) (h0 : 0 ≤ i) (h1 : i ≤ x.length) (h : ∀ r, r = (x.drop i.toNat).map f → K (.l r)) : o (.sub L (some i) none none) K :=
  q_subLo ho h0 (by rw [hL, List.length_map]; exact h1) fun r hr => h r (by rw [hr, hL, List.map_drop])
theorem q_subHiM {j : Int} (ho : o = real C l nb) (hL : L = x.map f) (h0 : 0 ≤ j) (h2 : j ≤ x.length) (h : ∀ r, r = (x.take j.toNat).map f → K (.l r)) : o (.sub L none (some j) none) K :=
  q_subHi ho h0 (by rw [hL, List.length_map]; exact h2) fun r hr => h r (by rw [hr, hL, List.map_take])
theorem q_sub3M {i j : Int} (ho : o = real C l nb) (hL : L = x.map f) (h0 : 0 ≤ i) (h1 : i ≤ j) (h2 : j ≤ x.length) (h : ∀ r, r = ((x.take j.toNat).drop i.toNat).map f → K (.l r)) : o (.sub L (some i) (some j) (some j)) K :=
  q_sub3 ho h0 h1 (by rw [hL, List.length_map]; exact h2) fun r hr => h r (by rw [hr, hL, List.map_drop, List.map_take])
theorem q_pop {j : Int} (ho : o = real C l nb) (h0 : 0 ≤ j) (h2 : j ≤ L.length) (h : ∀ r, r = L.take j.toNat → K (.l r)) : o (.pop L j) K := by subst ho; exact ⟨h0, h2, h _ rfl⟩
theorem q_popM {j : Int} (ho : o = real C l nb) (hL : L = x.map f) (h0 : 0 ≤ j) (h2 : j ≤ x.length) (h : ∀ r, r = (x.take j.toNat).map f → K (.l r)) : o (.pop L j) K :=
  q_pop ho h0 (by rw [hL, List.length_map]; exact h2) fun r hr => h r (by rw [hr, hL, List.map_take])
theorem q_upd {i off : Nat} {us r : List AV} (ho : o = real C l nb) (hu : updL L i off us = some r) (h : K (.l r)) : o (.upd L i off us) K := by subst ho; exact ⟨r, hu, h⟩
theorem q_app {by' : Nat} (ho : o = real C l nb) (h0 : (L.length + M.length) * by' ≤ 140737488355328) (h : ∀ r, r = L ++ M → K (.l r)) : o (.app by' L M) K := by subst ho; exact ⟨h0, h _ rfl⟩
theorem q_appL {by' : Nat} (ho : o = real C l nb) (h0 : (L.length + M.length) * by' ≤ 140737488355328) (h : K (.l (L ++ M))) : o (.app by' L M) K := by subst ho; exact ⟨h0, h⟩
theorem q_appM {by' : Nat} (ho : o = real C l nb) (hL : L = x.map f) (hM : M = y.map f) (h0 : (x.length + y.length) * by' ≤ 140737488355328) (h : ∀ r, r = (x ++ y).map f → K (.l r)) : o (.app by' L M) K :=
  q_app ho (by rw [hL, hM, List.length_map, List.length_map]; exact h0) fun r hr => h r (by rw [hr, hL, hM, List.map_append])
theorem q_make {by' : Nat} {u : AV} {i c : Int} (ho : o = real C l nb) (h0 : 0 ≤ i) (h1 : i ≤ c) (h2 : c * by' ≤ 140737488355328) (h : ∀ r, r = List.replicate i.toNat u → K (.l r)) : o (.make by' u i c) K := by subst ho; exact ⟨h0, h1, h2, h _ rfl⟩
theorem q_ne (ho : o = real C l nb) (h0 : L ≠ []) (h : K (.n 0)) : o (.ne L) K := by subst ho; exact ⟨by simpa using h0, h⟩

/-! Strings gone through. -/
theorem q_newo (ho : o = real C l nb) (h : ∀ lp, K (.n lp)) : o .newo K := by subst ho; exact h
theorem q_obj {ls : List (Nat × Obj)} {lp : Nat} (i : Nat) {ob : Obj} (ho : o = real C l nb) (hi : ls[i]? = some (lp, ob)) (h : K (.n i)) : o (.obj ls lp) K := by subst ho; exact ⟨i, ob, hi, h⟩
theorem q_nxt {s : ByteArray} {pos : Nat} (ho : o = real C l nb) (h1 : pos < s.size → ∀ (c : Int) (w : Nat), c = (Utf8.decode s pos).1 → w = pos + (Utf8.decode s pos).2 → K (.p c w)) (h2 : ¬ pos < s.size → K (.n 0)) : o (.nxt s pos) K := by
  subst ho
  simp only [real]
  split
  · rename_i h; exact h1 h _ _ rfl rfl
  · rename_i h; exact h2 h

/-! Calls, loops. -/
theorem q_call {fid : Nat} {st : ASt} {R : AEnd → ASt → Prop} (ho : o = real C l nb) (hc : ACall C fid st R) (h : ∀ ae st1, R ae st1 → K (.e ae st1)) : o (.call fid st) K := by subst ho; exact ⟨R, hc, h⟩
theorem q_ret {fid : Nat} {st st1 : ASt} (ho : o = real C l nb) (hc : ACall C fid st (Ret st1)) (h : K (.e .ret st1)) : o (.call fid st) K :=
  q_call ho hc fun ae st2 ⟨h1, h2⟩ => by subst h1 h2; exact h
theorem q_free {okE : Entry → Prop} (ho : o = real C ⟨none, okE⟩ nb) (h : K (.n 0)) : o .free K := by subst ho; exact ⟨rfl, h⟩
/-- The first n rounds. -/
theorem q_unr {B : (Exit → ASt → Prop) → ASt → Prop} {Q : Exit → ASt → Prop} {st : ASt} (n : Nat) (ho : o = real C l nb) (h : unr B Q n st) : o (.loop B Q st) K := by subst ho; exact .inl ⟨n, h⟩
theorem q_loop {α : Type} {B : (Exit → ASt → Prop) → ASt → Prop} {Q : Exit → ASt → Prop} {st : ASt} (ho : o = real C l nb) (S : α → ASt) (p : α → Prop) (μ : α → Nat) (x0 : α) (h0 : p x0) (hf : Fit nb (S x0) st)
    (h : ∀ x, p x → ∀ Q' : Exit → ASt → Prop, (∀ st', (∃ x', p x' ∧ μ x' < μ x ∧ Fit nb (S x') st') → Q' .normal st') → (∀ e st', e ≠ .normal → Q e st' → Q' e st') → B Q' (S x)) : o (.loop B Q st) K := by
  subst ho
  refine .inr ⟨α, S, p, μ, x0, h0, hf, fun x hx => h x hx _ (fun st' h => h) (fun e st' hne h => ?_)⟩
  cases e with
  | normal => exact (hne rfl).elim
  | _ => exact h
end
end Go.Ab
end
section
/- The abstract layer, part Vh: calls, loops over functions and yields, carried out in place. -/
namespace Go.Ab
open Go.RowKit

section
variable {C : Env} {l : Lv} {nb : Nat} {o : Ask → (Ans → Prop) → Prop} {K : Ans → Prop} {st : ASt}

/-- A call, carried out in place. -/
theorem q_inl {fid : Nat} {ann : List (Nat × List Nat)} {fi : FnI} (pol : Pol) (gl : List (Nat × List AV)) (ho : o = real C l nb) (hf : fnOf C.P fid ann = some fi) (hg : GlOk C gl) (hm : C.P.follows .mixedOrders = true) (hle : Nat.ble st.n fi.n = true)
    (h : ∀ o', o' = real C ⟨none, fun E => True ∧ E.n0 ≤ st.b.length⟩ st.b.length → vC o' gl pol st.b.length fi.rc (vEnd o' st.b.length st.l.length fi.rs fun ae st1 => K (.e ae st1)) { st with n := fi.n }) : o (.call fid st) K := by
  subst ho
  exact ⟨_, ACallP.vm0 hf hg hm hle h, fun ae st1 h => h⟩

/-- A loop over a function, carried out in place. -/
theorem q_rfun {ok : Entry → Prop} {gf : Nat} {cap : List AV} {ps : List Nat} {a b : RC} {Q : Exit → ASt → Prop} {ann : List (Nat × List Nat)} {fi : FnI} (pol : Pol) (gl : List (Nat × List AV)) (ho : o = real C ⟨none, ok⟩ nb) (hno : noRefL cap = true)
    (hf : fnOf C.P gf ann = some fi) (hg : GlOk C gl) (hm : C.P.follows .mixedOrders = true) (hle : Nat.ble (cap.length + 1) fi.n = true)
    (h : ∀ (lp : Nat) (r : Loop) (o1 : Ask → (Ans → Prop) → Prop) (R' : AEnd → ASt → Prop), r.state = .ready → r.pending = none → r.params.toList = ps → r.tmps.size = st.n → (∃ ann, resC C.P ann r.assign = some a ∧ resC C.P ann r.body = some b) →
      o1 = real C ⟨none, fun E => SlotsOk (noRefS st.s) r.tmps st.b.length E ∧ E.n0 ≤ st.b.length⟩ st.b.length →
      (∀ st1 r1, st1.l = st.l ++ [(lp, .loop r1)] → r1.state ≠ .busy → r1.pending = none → Q .normal (st.behind st1) → R' .ret st1) →
      (∀ st1 r1, st1.l = st.l ++ [(lp, .loop r1)] → r1.state ≠ .busy → r1.pending = some .ret → Q .ret (st.behind st1) → R' .ret st1) →
      (∀ st1 r1 id, st1.l = st.l ++ [(lp, .loop r1)] → r1.state ≠ .busy → r1.pending = some (.exit id) → Q (.exit id) (st.behind st1) → R' .ret st1) →
      vC o1 gl pol st.b.length fi.rc (vEnd o1 st.b.length (st.l ++ [(lp, Obj.loop r)]).length fi.rs R') ⟨fi.n, zipI 0 (.fn (.yield lp) [] [] :: cap), [], st.b, st.l ++ [(lp, .loop r)]⟩) : o (.rfun (.fn (.func gf) [] cap) ps a b Q st) K := by
  subst ho
  intro f ca cb ann hfv ha hb
  refine AWp.rangeFunc hfv hno fun lp r h1 h2 h3 h4 h5 h6 => ?_
  refine ⟨fun ae st1 => ae = .ret ∧ ∃ r1 : Loop, st1.l = st.l ++ [(lp, .loop r1)] ∧ r1.state ≠ .busy ∧ match r1.pending with
          | none => Q .normal (st.behind st1)
          | some c => AWp C ⟨none, ok⟩ c Q (st.behind st1), ?_, fun ae st1 h => h⟩
  refine ACallP.vm0 (st0 := ⟨cap.length + 1, zipI 0 (.fn (.yield lp) [] [] :: cap), [], st.b, st.l ++ [(lp, .loop r)]⟩) (pol := pol) (gl := gl) hf hg hm hle fun o1 ho1 => ?_
  refine h lp r o1 _ h1 h2 (by rw [h3]) h6 ⟨ann, by rw [h4]; exact ha, by rw [h5]; exact hb⟩ ho1 ?_ ?_ ?_
  · exact fun st1 r1 q1 q2 q3 q4 => ⟨rfl, r1, q1, q2, by rw [q3]; exact q4⟩
  · exact fun st1 r1 q1 q2 q3 q4 => ⟨rfl, r1, q1, q2, by rw [q3]; exact fun _ _ _ g _ hr => wpIn_ret ⟨_, g, q4, hr⟩⟩
  · exact fun st1 r1 id q1 q2 q3 q4 => ⟨rfl, r1, q1, q2, by rw [q3]; exact fun _ _ _ g _ hr => wpIn_exit ⟨_, g, q4, hr⟩⟩

/-- What is to hold behind the assignments of a round. -/
def yA (B : (Exit → ASt → Prop) → ASt → Prop) (i lp : Nat) (r : Loop) (Q : Exit → ASt → Prop) : Exit → ASt → Prop
  | .normal, st1 => st1.l[i]? = some (lp, .loop r) ∧ B Q { st1 with l := st1.l.set i (lp, .loop { r with state := .busy }) }
  | _, _ => False
/-- What is to hold behind a round. -/
def yR (st : ASt) (d : Option Nat) (K : ASt → Prop) : AEnd → ASt → Prop
  | .ret, st1 => match st.after [] true d st1 with
    | some st2 => K st2
    | none => False
  | _, _ => False

/-- A call of yield, carried out in place: record number i. -/
theorem q_yld {lp i n nbO : Nat} {vs : List AV} {d : Option Nat} {Kk : ASt → Prop} {r : Loop} {s : List (Nat × AV)} {ps : List Nat} {a b : RC} (pol : Pol) (gl : List (Nat × List AV)) (ho : o = real C l nb) (hP : ∀ E, l.ok E → SlotsOk s r.tmps nbO E)
    (hno : noRefL vs = true) (hi : st.l[i]? = some (lp, .loop r)) (hst : r.state = .ready) (hps : r.params.toList = ps) (hlen : ps.length = vs.length) (hn : r.tmps.size = n) (hc : ∃ ann, resC C.P ann r.assign = some a ∧ resC C.P ann r.body = some b)
    (hg : GlOk C gl) (hm : C.P.follows .mixedOrders = true)
    (h : ∀ o2, o2 = real C ⟨some lp, fun E => SlotsOk s r.tmps nbO E ∧ E.n0 ≤ st.b.length⟩ st.b.length → vC o2 gl pol st.b.length a (yA (fun Q st' => vC o2 gl pol st.b.length b Q st') i lp r (roundQ i lp r st.b.length (yR st d Kk))) (putL ⟨n, s, [], st.b, st.l⟩ ps vs)) : o (.yld lp vs d Kk st) K := by
  subst ho
  intro op f args Ts Q hop hd hf hargs
  obtain ⟨ann, ha, hb⟩ := hc
  refine AOp.yield hP hop hf hargs hno hi (R := yR st d Kk) ?_ (fun st1 h1 => by rw [hd]; exact h1)
  have e1 : calleeSt st vs [] true = ⟨vs.length, zipI 0 vs, [], st.b, st.l⟩ := rfl
  rw [e1]
  refine AYield.of_body hi hst hps hlen ?_
  rw [hn]
  have h1 := vC_sound (l := ⟨some lp, fun E => SlotsOk s r.tmps nbO E ∧ E.n0 ≤ st.b.length⟩) hg (fun E hE => hE.2) hm ha (h _ rfl)
  refine h1.mono fun e st1 he => ?_
  cases e with
  | normal => exact ⟨he.1, vC_sound (l := ⟨some lp, fun E => SlotsOk s r.tmps nbO E ∧ E.n0 ≤ st.b.length⟩) hg (fun E hE => hE.2) hm hb he.2⟩
  | _ => exact he
end

/-! Words for contracts. -/
/-- All numbers are bytes. -/
def By (x : List Int) : Prop := ∀ n ∈ x, 0 ≤ n ∧ n < 256
theorem By.drop {x : List Int} (h : By x) (i : Nat) : By (x.drop i) := fun n hn => h n (List.mem_of_mem_drop hn)
theorem By.take {x : List Int} (h : By x) (i : Nat) : By (x.take i) := fun n hn => h n (List.mem_of_mem_take hn)
theorem By.app {x y : List Int} (h : By x) (h2 : By y) : By (x ++ y) := fun n hn => by
  rcases List.mem_append.1 hn with hn | hn
  · exact h n hn
  · exact h2 n hn
theorem By.nil : By [] := fun n hn => by cases hn
/-- Bytes as a string, and a string's bytes. -/
def toS (x : List Int) : ByteArray := ⟨(x.map fun n => UInt8.ofNat n.toNat).toArray⟩
def bt (s : ByteArray) : List Int := s.data.toList.map fun b => (b.toNat : Int)
theorem bt_toS {x : List Int} (h : By x) : bt (toS x) = x := by
  unfold bt toS
  simp only [List.map_map]
  conv => rhs; rw [← List.map_id x]
  refine List.map_congr_left fun n hn => ?_
  obtain ⟨h1, h2⟩ := h n hn
  simp only [Function.comp, id]
  rw [UInt8.toNat_ofNat_of_lt' (by show n.toNat < 256; omega)]
  omega
theorem toS_inj {x y : List Int} (hx : By x) (hy : By y) (h : toS x = toS y) : x = y := by rw [← bt_toS hx, ← bt_toS hy, h]
theorem bt_by (s : ByteArray) : By (bt s) := fun n hn => by
  obtain ⟨b, _, rfl⟩ := List.mem_map.1 hn
  have := b.toNat_lt
  exact ⟨by omega, by omega⟩
theorem toS_bt (s : ByteArray) : toS (bt s) = s := by
  unfold bt toS
  simp only [List.map_map]
  have : (s.data.toList.map ((fun n : Int => UInt8.ofNat n.toNat) ∘ fun b : UInt8 => (b.toNat : Int))) = s.data.toList := by
    conv => rhs; rw [← List.map_id s.data.toList]
    refine List.map_congr_left fun b _ => ?_
    simp
  rw [this]
theorem bt_inj {s t : ByteArray} (h : bt s = bt t) : s = t := by rw [← toS_bt s, ← toS_bt t, h]
theorem bt_len (s : ByteArray) : (bt s).length = s.data.toList.length := by simp [bt]
theorem bytesOf_vu (x : List Int) : bytesOf (x.map fun n => AV.sc (.int .u8 n)) = some (x.map fun n => UInt8.ofNat n.toNat) := by
  induction x with
  | nil => rfl
  | cons a x ih => simp only [List.map_cons, bytesOf, ih, Option.map_some]
theorem q_tostrM {C : Env} {l : Lv} {nb : Nat} {o : Ask → (Ans → Prop) → Prop} {K : Ans → Prop} {L : List AV} {x : List Int} (ho : o = real C l nb) (hL : L = x.map fun n => AV.sc (.int .u8 n)) (h : ∀ s, s = toS x → K (.s s)) : o (.tostr L) K :=
  q_tostr ho (by rw [hL]; exact bytesOf_vu x) h
theorem q_tobytesM {C : Env} {l : Lv} {nb : Nat} {o : Ask → (Ans → Prop) → Prop} {K : Ans → Prop} {s : ByteArray} (ho : o = real C l nb) (h : ∀ r, r = (bt s).map (fun n => AV.sc (.int .u8 n)) → K (.l r)) : o (.tobytes s) K :=
  q_tobytes ho fun r hr => h r (by rw [hr]; simp [bt, List.map_map, Function.comp])

abbrev vi (n : Int) : AV := .sc (.int .i64 n)
abbrev vr (n : Int) : AV := .sc (.int .i32 n)
abbrev vu (n : Int) : AV := .sc (.int .u8 n)
abbrev vb (b : Bool) : AV := .sc (.bool b)
abbrev vs (s : ByteArray) : AV := .sc (.string s)
def Ret1 {α : Type} (f : α → AV) (P : α → Prop) (ae : AEnd) (st : ASt) : Prop := ae = .ret ∧ ∃ a, P a ∧ st = ⟨1, [(0, f a)], [], [], []⟩
def Ret2 {α β : Type} (f : α → AV) (g : β → AV) (P : α → β → Prop) (ae : AEnd) (st : ASt) : Prop := ae = .ret ∧ ∃ a b, P a b ∧ st = ⟨2, [(0, f a), (1, g b)], [], [], []⟩
def Ret3 {α β γ : Type} (f : α → AV) (g : β → AV) (k : γ → AV) (P : α → β → γ → Prop) (ae : AEnd) (st : ASt) : Prop := ae = .ret ∧ ∃ a b c, P a b c ∧ st = ⟨3, [(0, f a), (1, g b), (2, k c)], [], [], []⟩
/-- A row as the first of some results. -/
def RetL1 (sz : Nat) (P : List AV → Prop) (ae : AEnd) (st : ASt) : Prop := ae = .ret ∧ ∃ L, P L ∧ st = ⟨1, [(0, .own 100000)], [(100000, (sz, L))], [], []⟩
def RetL2 {β : Type} (sz : Nat) (g : β → AV) (P : List AV → β → Prop) (ae : AEnd) (st : ASt) : Prop := ae = .ret ∧ ∃ L b, P L b ∧ st = ⟨2, [(0, .own 100000), (1, g b)], [(100000, (sz, L))], [], []⟩
def RetL3 {β γ : Type} (sz : Nat) (g : β → AV) (k : γ → AV) (P : List AV → β → γ → Prop) (ae : AEnd) (st : ASt) : Prop := ae = .ret ∧ ∃ L b c, P L b c ∧ st = ⟨3, [(0, .own 100000), (1, g b), (2, k c)], [(100000, (sz, L))], [], []⟩
/-- All rows are shared. -/
def ASt.shareR (st : ASt) : ASt := st.r.foldl (fun s p => s.share p.1) st
theorem shareR_rel {C : Env} {E : Entry} {a : Act} {w : World} : ∀ (rs : List (Nat × (Nat × List AV))) {st : ASt} {g : Gh}, Rel C E st a w g → ∃ g', Rel C E (rs.foldl (fun s p => s.share p.1) st) a w g'
  | [], _, g, h => ⟨g, h⟩
  | p :: rs, st, g, h => by
    obtain ⟨g', h'⟩ := h.share p.1
    exact shareR_rel rs h'
theorem ACallP.share {C : Env} {P : Entry → Prop} {f : FuncId} {st0 : ASt} {R : AEnd → ASt → Prop} (h : ACallP C P f st0 fun ae st => R ae st.shareR) : ACallP C P f st0 R :=
  ⟨h.1, fun E args w g hp hr => (h.2 E args w g hp hr).mono fun _ _ ⟨ae, vals, st1, g1, h1, h2, h3⟩ => by
    obtain ⟨g2, h4⟩ := shareR_rel st1.r h3
    exact ⟨ae, vals, st1.shareR, g2, h1, h2, h4⟩⟩
theorem ACall.share {C : Env} {f : FuncId} {st0 : ASt} {R : AEnd → ASt → Prop} (h : ACall C f st0 fun ae st => R ae st.shareR) : ACall C f st0 R := ACallP.share h
theorem RetL1.share {C : Env} {f : FuncId} {st0 : ASt} {sz : Nat} {P : List AV → Prop} (h : ACall C f st0 (RetL1 sz P)) : ACall C f st0 (Ret1 (.sl sz) P) :=
  ACall.share (h.mono fun ae st ⟨h1, L, h2, h3⟩ => by subst h3; exact ⟨h1, L, h2, rfl⟩)
theorem RetL2.share {C : Env} {f : FuncId} {st0 : ASt} {sz : Nat} {β : Type} {g : β → AV} {P : List AV → β → Prop} (hg : ∀ b, ∃ v, g b = .sc v) (h : ACall C f st0 (RetL2 sz g P)) : ACall C f st0 (Ret2 (.sl sz) g P) :=
  ACall.share (h.mono fun ae st ⟨h1, L, b, h2, h3⟩ => by
    subst h3
    refine ⟨h1, L, b, h2, ?_⟩
    obtain ⟨v, hv⟩ := hg b
    simp only [ASt.shareR, List.foldl_cons, List.foldl_nil, ASt.share, get, if_true, List.map_cons, List.map_nil, hv, del]
    rfl)
end Go.Ab
end
section
/-! A call whose contract is Ret1, Ret2 or Ret3: what follows, for all results. -/
namespace Go.Ab
section
variable {C : Env} {l : Lv} {nb : Nat} {o : Ask → (Ans → Prop) → Prop} {K : Ans → Prop} {fid : Nat} {st : ASt}
theorem q_call1 {α : Type} {f : α → AV} {P : α → Prop} (ho : o = real C l nb) (hc : ACall C fid st (Ret1 f P)) (h : ∀ a, P a → K (.e .ret ⟨1, [(0, f a)], [], [], []⟩)) : o (.call fid st) K :=
  q_call ho hc fun ae st2 ⟨h1, a, h2, h3⟩ => by subst h1 h3; exact h a h2
theorem q_call2 {α β : Type} {f : α → AV} {g : β → AV} {P : α → β → Prop} (ho : o = real C l nb) (hc : ACall C fid st (Ret2 f g P)) (h : ∀ a b, P a b → K (.e .ret ⟨2, [(0, f a), (1, g b)], [], [], []⟩)) : o (.call fid st) K :=
  q_call ho hc fun ae st2 ⟨h1, a, b, h2, h3⟩ => by subst h1 h3; exact h a b h2
theorem q_call3 {α β γ : Type} {f : α → AV} {g : β → AV} {k : γ → AV} {P : α → β → γ → Prop} (ho : o = real C l nb) (hc : ACall C fid st (Ret3 f g k P)) (h : ∀ a b c, P a b c → K (.e .ret ⟨3, [(0, f a), (1, g b), (2, k c)], [], [], []⟩)) : o (.call fid st) K :=
  q_call ho hc fun ae st2 ⟨h1, a, b, c, h2, h3⟩ => by subst h1 h3; exact h a b c h2
/-! Bytes: cut off, joined. -/
theorem wrapU8m {a : Int} : IntKind.u8.wrap a = a % 256 := by
  simp only [IntKind.wrap, IntKind.bits, IntKind.signed, Bool.false_and]; simp
theorem q_cvU8m {a : Int} (ho : o = real C l nb) (h : ∀ n : Int, n = a % 256 → K (.i n)) : o (.cv .u8 a) K :=
  q_cv ho fun n hn => h n (by rw [hn, wrapU8m])
theorem q_orU8 {a b : Int} (p : Nat) (c : Int) (ho : o = real C l nb) (hk : (List.range p).all (fun i => decide (ior .u8 c (i : Int) = c + i)) = true) (ha : a = c) (h0 : 0 ≤ b) (h1 : b < p) (h : ∀ n : Int, n = c + b → K (.i n)) : o (.ar .or .u8 a b) K :=
  q_or ho fun n hn => h n (by
    have h2 := List.all_eq_true.1 hk b.toNat (List.mem_range.2 (by omega))
    have e : (b.toNat : Int) = b := by omega
    rw [e] at h2
    rw [hn, ha]; exact of_decide_eq_true h2)
end
end Go.Ab
end
section
/- The abstract layer, part Cm: the arguments of a law, one by one; its call. -/
namespace Go.Ab
open Go.RowKit Go.ChangeShapes Go.WideShapes

def ArgsR (W : World) (avs : List AV) (vs : List Value) : Prop := avs.length = vs.length ∧ ∀ (i : Nat) (a : AV) (v : Value), avs[i]? = some a → vs[i]? = some v → Rv W (gInit W) a v ∧ a.mb = 0
theorem ArgsR.nil {W : World} : ArgsR W [] [] := ⟨rfl, fun i a v h => by simp at h⟩
theorem ArgsR.cons {W : World} {a : AV} {v : Value} {avs : List AV} {vs : List Value} (h : Rv W (gInit W) a v ∧ a.mb = 0) (hs : ArgsR W avs vs) : ArgsR W (a :: avs) (v :: vs) :=
  ⟨by simp [hs.1], fun i b u hb hu => by
    cases i with
    | zero => simp at hb hu; subst hb hu; exact h
    | succ i => exact hs.2 i b u (by simpa using hb) (by simpa using hu)⟩

theorem args_cons {P : Program} {H : Type} {enc : TypeId × Value → H} {W : World} {base : Nat} {t : TypeId} {ts : List TypeId} {vs : List Value} {ds : List (DataW H)} {ps : List MemPlace} {α : Type} {g : α → AV} {ok : α → Prop}
    (h : DataW.TrodAll enc P W 0 (fun _ => true) true (t :: ts) vs ds ps) (hval : ∀ (j : Nat) (t' : TypeId) (v : Value), (t :: ts)[j]? = some t' → vs[j]? = some v → Value.okWide P W .any base t' v) (r : Rd P t g ok)
    (hg : ∀ a, ok a → match P.underlying t with
      | some (.struct _) | some (.array _ _) => ∃ cs, g a = .agg cs
      | _ => (g a).cells = [g a]) :
    ∃ (a : α) (v : Value) (vs' : List Value), vs = v :: vs' ∧ ok a ∧ (Rv W (gInit W) (g a) v ∧ (g a).mb = 0) ∧ (∃ (ds' : List (DataW H)) (ps' : List MemPlace), DataW.TrodAll enc P W 0 (fun _ => true) true ts vs' ds' ps') ∧
      ∀ (j : Nat) (t' : TypeId) (v : Value), ts[j]? = some t' → vs'[j]? = some v → Value.okWide P W .any base t' v := by
  obtain ⟨v, vs', d, ds', p, q, rfl, rfl, rfl, h1, h2⟩ := trodAll_cons h
  obtain ⟨a, ha, hr⟩ := r.param h1 (hval 0 t v rfl rfl) hg
  exact ⟨a, v, vs', rfl, ha, hr, ⟨ds', q, h2⟩, fun j t' u ht hu => hval (j + 1) t' u (by simpa using ht) (by simpa using hu)⟩

/-- A law's call. -/
theorem law_calls {C : Env} {W : World} {f : FuncId} {args : Array Value} {avs : List AV} (hA : ACall C f ⟨avs.length, zipI 0 avs, [], [], []⟩ (Ret1 vb fun t => t = true)) (h : ArgsR W avs args.toList) (hG : ∀ i cs, C.G i = some cs → GlobR W (gInit W) i cs) :
    Calls C.P f args W fun e w' => e = .returned (.bool true) ∧ W.grownBy w' none := by
  have hl : avs.length = args.size := by rw [h.1, Array.length_toList]
  have hA' : ACall C f ⟨args.size, zipI 0 avs, [], [], []⟩ (Ret ⟨1, [(0, .sc (.bool true))], [], [], []⟩) := by
    rw [← hl]
    exact hA.mono fun ae st ⟨h1, a, h2, h3⟩ => by subst h2; exact ⟨h1, h3⟩
  refine calls_true hA' (fun t v ht => ?_) hG
  rw [get_zipI] at ht
  simp only [Nat.zero_le, if_true, Nat.sub_zero] at ht
  have hlt : t < args.size := by
    rcases Nat.lt_or_ge t args.size with h1 | h1
    · exact h1
    · rw [List.getElem?_eq_none (by omega)] at ht; cases ht
  have h2 := h.2 t v args[t] ht (by simp [hlt])
  exact ⟨args[t], Array.getElem?_eq_getElem hlt, h2.1, h2.2⟩
end Go.Ab
end
