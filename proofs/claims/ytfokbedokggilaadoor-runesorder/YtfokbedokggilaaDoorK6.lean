/- The abstract layer and its machine: what Go code does to lists, proved once over any program. -/
import Derived.Test.YtfokbedokggilaaDoorK5
import Derived.Laws.Strings
set_option linter.all false
section
/- The abstract layer, part W: what is left to show of a code, step by step. -/
namespace Go.Ab
open Go.RowKit

def iand (k : IntKind) (a b : Int) : Int := k.wrap (BitVec.ofInt k.bits a &&& BitVec.ofInt k.bits b).toNat
def ior (k : IntKind) (a b : Int) : Int := k.wrap (BitVec.ofInt k.bits a ||| BitVec.ofInt k.bits b).toNat
def ixor (k : IntKind) (a b : Int) : Int := k.wrap (BitVec.ofInt k.bits a ^^^ BitVec.ofInt k.bits b).toNat
def iandn (k : IntKind) (a b : Int) : Int := k.wrap (BitVec.ofInt k.bits a &&& ~~~BitVec.ofInt k.bits b).toNat
def ishl (k : IntKind) (a b : Int) : Int := k.wrap (a * 2 ^ (min b.toNat k.bits))
def ishr (k : IntKind) (a b : Int) : Int := a.fdiv (2 ^ (min b.toNat k.bits))

/-- Operators on scalars. -/
def bin2 (op : BinOp) (x y : Value) : Option Value := match x, y with
  | .int k a, .int k' b => match op with
    | .add => if k = k' then some (.int k (k.wrap (a + b))) else none
    | .sub => if k = k' then some (.int k (k.wrap (a - b))) else none
    | .mul => if k = k' then some (.int k (k.wrap (a * b))) else none
    | .quo => if k = k' ∧ b ≠ 0 then some (.int k (k.wrap (a.tdiv b))) else none
    | .rem => if k = k' ∧ b ≠ 0 then some (.int k (a.tmod b)) else none
    | .and => if k = k' then some (.int k (iand k a b)) else none
    | .or => if k = k' then some (.int k (ior k a b)) else none
    | .xor => if k = k' then some (.int k (ixor k a b)) else none
    | .andNot => if k = k' then some (.int k (iandn k a b)) else none
    | .shl => if 0 ≤ b then some (.int k (ishl k a b)) else none
    | .shr => if 0 ≤ b then some (.int k (ishr k a b)) else none
    | .eql => if k = k' then some (.bool (decide (a = b))) else none
    | .neq => if k = k' then some (.bool (!decide (a = b))) else none
    | .lss => if k = k' then some (.bool (decide (a < b))) else none
    | .leq => if k = k' then some (.bool (decide (a ≤ b))) else none
    | .gtr => if k = k' then some (.bool (decide (b < a))) else none
    | .geq => if k = k' then some (.bool (decide (b ≤ a))) else none
  | .string a, .string b => match op with
    | .add => if a.size + b.size < 9223372036854775808 then some (.string (a ++ b)) else none
    | .eql => some (.bool (decide (a = b)))
    | .neq => some (.bool (!decide (a = b)))
    | .lss => some (.bool (Op.bytesLess a.data.toList b.data.toList))
    | _ => none
  | _, _ => none

theorem bytes_ext {a b : ByteArray} : (a.data.toList == b.data.toList) = decide (a = b) := by
  by_cases h : a = b
  · subst h; simp
  · have : ¬ a.data.toList = b.data.toList := fun e => h (by cases a; cases b; simp only [ByteArray.mk.injEq]; exact Array.toList_inj.1 e)
    rw [decide_eq_false h]; exact beq_eq_false_iff_ne.2 this

theorem bin2_run {P : Program} {op : BinOp} {x y v : Value} (h : bin2 op x y = some v) (T : TypeId) (X Y : Operand) (w : World) :
    (do eqGuard op T X Y x y; binOp op T x y : Sem Value).run P w = .ok v w := by
  unfold bin2 at h
  split at h
  · rename_i k a k' b
    have hg : (eqGuard op T X Y (.int k a) (.int k' b)).run P w = .ok () w := by unfold eqGuard; cases op <;> rfl
    rw [Sem.run_bind, hg, Result.andThen_ok]
    have hq : ∀ (a b : Int), (a == b) = decide (a = b) := fun _ _ => rfl
    cases op <;> simp only at h <;> first
      | (cases h; done)
      | (obtain ⟨rfl, rfl⟩ : k = k' ∧ _ = v := by simpa using h
         simp [binOp, Op.intArith, Op.intCmp, Op.intBits, iand, ior, ixor, iandn, bne, hq]; done)
      | (obtain ⟨⟨rfl, hb⟩, rfl⟩ : (k = k' ∧ b ≠ 0) ∧ _ = v := by simpa using h
         simp [binOp, Op.intDiv, hb]; done)
      | (obtain ⟨hb, rfl⟩ : 0 ≤ b ∧ _ = v := by simpa using h
         have : ¬ b < 0 := by omega
         simp [binOp, Op.shift, this, ishl, ishr]; done)
  · rename_i a b
    have hg : (eqGuard op T X Y (.string a) (.string b)).run P w = .ok () w := by unfold eqGuard; cases op <;> rfl
    rw [Sem.run_bind, hg, Result.andThen_ok]
    cases op <;> simp only at h <;> first
      | (cases h; done)
      | (simp only [Option.some.injEq] at h; subst h; simp only [binOp, Op.stringOp, ByteArray.toList_eq, bytes_ext, Sem.run_pure]; done)
      | (split at h
         · rename_i hc
           simp only [Option.some.injEq] at h; subst h
           have : ¬ (((a.size + b.size : Nat) : Int) > IntKind.i64.max) := by simp [IntKind.max, IntKind.signed, IntKind.bits]; omega
           simp only [binOp, Op.stringOp, this, if_false, Sem.run_pure]
         · cases h)
  · cases h

/-- Operations on scalars, the short way. -/
def pop2 (C : Env) (st : ASt) (o : Oper) : Option AV := match o.op with
  | .binOp op _ x y _ => match st.ev C x, st.ev C y with
    | some (.sc a), some (.sc b) => (bin2 op a b).map .sc
    | _, _ => none
  | .unOp .not _ x => match st.ev C x with
    | some (.sc (.bool b)) => some (.sc (.bool !b))
    | _ => none
  | .convert S D x => match st.ev C x with
    | some (.sc (.int _ n)) => match C.P.underlying S, C.P.underlying D with
      | some _, some (.int k) => some (.sc (.int k (k.wrap n)))
      | _, _ => none
    | _ => none
  | .index T x i => match st.ev C x, st.ev C i with
    | some (.sc (.string s)), some (.sc (.int _ i)) => match C.P.underlying T with
      | some .string => if 0 ≤ i then match s.data.toList[i.toNat]? with
          | some b => some (.sc (.int .u8 b.toNat))
          | none => none
        else none
      | _ => none
    | _, _ => none
  | .call { callee := .builtin .len, args, argTypes } => match args.toList, argTypes.toList with
    | [x], [T] => match st.ev C x with
      | some (.sc (.string s)) => match C.P.underlying T with
        | some .string => some (.sc (.int .i64 s.data.toList.length))
        | _ => none
      | _ => none
    | _, _ => none
  | _ => none

section
variable {C : Env} {E : Entry} {st : ASt} {a : Act} {w w' : World} {g : Gh}
theorem scEq {v : Value} {x : Operand} (h : Rel C E st a w g) (hx : st.ev C x = some (.sc v)) : a.eval x = v := by
  have := (ev_sound h hx).1
  generalize a.eval x = z at this
  cases this; rfl
theorem pop2_ok (h : Rel C E st a w g) {o : Oper} {v : AV} (hp : pop2 C st o = some v) : ∃ u, v = .sc u ∧ ∀ w', (execOp a.eval o).run C.P w' = .ok (.value u) w' := by
  have fin : ∀ {u : Value}, v = .sc u → (∀ w', (execOp a.eval o).run C.P w' = .ok (.value u) w') → ∃ u, v = .sc u ∧ ∀ w', (execOp a.eval o).run C.P w' = .ok (.value u) w' := fun {u} e hr => ⟨u, e, hr⟩
  unfold pop2 at hp
  split at hp
  · rename_i op T x y _ ho
    split at hp
    · rename_i p q hx hy
      simp only [Option.map_eq_some_iff] at hp
      obtain ⟨u, hu, rfl⟩ := hp
      refine fin rfl fun w' => ?_
      unfold execOp
      have := bin2_run (P := C.P) hu T x y w'
      simp only [ho, scEq h hx, scEq h hy, Sem.run_bind] at this ⊢
      rw [this, Result.andThen_ok, Sem.run_pure]
    · cases hp
  · rename_i T x ho
    split at hp
    · rename_i b hx
      simp only [Option.some.injEq] at hp; subst hp
      refine fin rfl fun w' => ?_
      unfold execOp
      simp only [ho, scEq h hx, Op.unary, Sem.run_bind, Sem.run_pure, Result.andThen_ok]
    · cases hp
  · rename_i S D x ho
    split at hp
    · rename_i k0 n hx
      split at hp
      · rename_i d k hS hD
        simp only [Option.some.injEq] at hp; subst hp
        refine fin rfl fun w' => ?_
        unfold execOp
        simp only [ho, scEq h hx, convert, Conv.intToInt, Sem.run_bind, run_underlying hS, run_underlying hD, Sem.run_pure, Result.andThen_ok]
      · cases hp
    · cases hp
  · rename_i T x i ho
    split at hp
    · rename_i s k n hx hi
      split at hp
      · rename_i hT
        split at hp
        · rename_i h0
          split at hp
          · rename_i b hb
            simp only [Option.some.injEq] at hp; subst hp
            refine fin rfl fun w' => ?_
            unfold execOp
            have hb' : s[n.toNat]? = some b := by
              have hlt : n.toNat < s.size := by
                rcases Nat.lt_or_ge n.toNat s.data.toList.length with q | q
                · simpa using q
                · rw [List.getElem?_eq_none q] at hb; cases hb
              rw [ByteArray.getElem?_lt' s _ hlt]
              rw [Array.getElem?_toList] at hb
              have : s.data[n.toNat]? = some s[n.toNat] := by
                have : n.toNat < s.data.size := hlt
                rw [Array.getElem?_eq_getElem this]; rfl
              rw [← this]; exact hb
            simp only [ho, scEq h hx, scEq h hi, Instr.index, asIntOf, Sem.run_bind, run_underlying hT, Sem.run_pure, Result.andThen_ok, h0, if_true, hb']
          · cases hp
        · cases hp
      · cases hp
    · cases hp
  · rename_i args ats ho
    split at hp
    · rename_i x T hargs hats
      split at hp
      · rename_i s hx
        split at hp
        · rename_i hT
          simp only [Option.some.injEq] at hp; subst hp
          refine fin rfl fun w' => ?_
          have e1 : args = #[x] := by rw [← Array.toList_inj, hargs]
          have e2 : ats = #[T] := by rw [← Array.toList_inj, hats]
          subst e1 e2
          unfold execOp
          simp [ho, resolve, invoke, builtin, Builtin.len_, scEq h hx, run_underlying hT, goInt]
        · cases hp
      · cases hp
    · cases hp
  · cases hp
theorem pop2_step (h : Rel C E st a w g) {o : Oper} {v : AV} (hp : pop2 C st o = some v) : StepOk C E a w o (st.putO o.dst v) := by
  obtain ⟨u, rfl, hr⟩ := pop2_ok h hp
  exact ⟨_, u, w, g, hr w, .inl rfl, RelX.put h o.dst (.sc u) (by simp [AV.mb])⟩
end

section
variable (C : Env) (pol : Pol) (l : Lv) (o : Oper) (K : ASt → Prop) (Q : Exit → ASt → Prop) (st : ASt)
def s4 : Option ASt → Prop
  | some st' => K st'
  | none => AOp C l o K Q st
def s3 : Option AV → Prop
  | some v => K (st.putO o.dst v)
  | none => s4 C l o K Q st (eop C pol st o)
def s2 : Option AV → Prop
  | some v => K (st.putO o.dst v)
  | none => s3 C pol l o K Q st (plain C st o)
def s1 : Option AV → Prop
  | some v => K (st.putO o.dst v)
  | none => s2 C pol l o K Q st (pop1 C st o)

/-- One operation. -/
def Wop : Prop := match o.op with
  | .call { callee := .value f, args := args, argTypes := Ts } => Wcall C pol f args.toList Ts.toList o.dst K Q st
  | _ => s1 C pol l o K Q st (pop2 C st o)
end

theorem pop1_step {C : Env} {E : Entry} {st : ASt} {a : Act} {w : World} {g : Gh} (h : Rel C E st a w g) {o : Oper} {v : AV} (hp : pop1 C st o = some v) : StepOk C E a w o (st.putO o.dst v) := by
  obtain ⟨x, h1, h2, h3⟩ := pop1_sound h hp
  exact ⟨_, x, w, g, h3 w rfl, .inl rfl, RelX.put h o.dst h1 h2⟩
theorem plain_step {C : Env} {E : Entry} {st : ASt} {a : Act} {w : World} {g : Gh} (h : Rel C E st a w g) {o : Oper} {v : AV} (hp : plain C st o = some v) : StepOk C E a w o (st.putO o.dst v) := by
  obtain ⟨x, h1, h2, h3⟩ := plain_sound h hp
  exact ⟨_, x, w, g, h3 w rfl, .inl rfl, RelX.put h o.dst h1 h2⟩

theorem Wop.sound {C : Env} {pol : Pol} {l : Lv} {o : Oper} {K : ASt → Prop} {Q : Exit → ASt → Prop} {st : ASt} (h : Wop C pol l o K Q st) : AOp C l o K Q st := by
  unfold Wop at h
  split at h
  · rename_i ho; exact Wcall.sound ho h
  · cases h2 : pop2 C st o with
    | some v => rw [h2] at h; exact .step (fun _ _ _ _ hr => pop2_step hr h2) h
    | none =>
      rw [h2] at h
      simp only [s1] at h
      cases h3 : pop1 C st o with
      | some v => rw [h3] at h; exact .step (fun _ _ _ _ hr => pop1_step hr h3) h
      | none =>
        rw [h3] at h
        simp only [s2] at h
        cases h4 : plain C st o with
        | some v => rw [h4] at h; exact .step (fun _ _ _ _ hr => plain_step hr h4) h
        | none =>
          rw [h4] at h
          simp only [s3] at h
          cases h5 : eop C pol st o with
          | some st' => rw [h5] at h; exact .eop h5 h
          | none => rw [h5] at h; exact h

def gdB (C : Env) (pol : Pol) (l : Lv) (o : Oper) (K : ASt → Prop) (Q : Exit → ASt → Prop) (st : ASt) : Bool → Prop
  | true => Wop C pol l o K Q st
  | false => K (st.putO o.dst (.sc undef))
def gdO (C : Env) (pol : Pol) (l : Lv) (o : Oper) (K : ASt → Prop) (Q : Exit → ASt → Prop) (st : ASt) : Option Bool → Prop
  | some b => gdB C pol l o K Q st b
  | none => False

def Wops (C : Env) (pol : Pol) (l : Lv) (ops : Array Oper) (Q : Exit → ASt → Prop) : List Oper → ASt → Prop
  | [], st => Q .normal st
  | o :: os, st => gdO C pol l o (Wops C pol l ops Q os) Q st (guardA ops st o)

theorem Wops.sound {C : Env} {pol : Pol} {l : Lv} {ops : Array Oper} {Q : Exit → ASt → Prop} : ∀ {os : List Oper} {k : Nat} {st : ASt}, ops.toList.drop k = os → Wops C pol l ops Q os st → AOps C l ops Q (List.range' k os.length) st
  | [], k, st, _, h => AOps.nil h
  | o :: os, k, st, hd, h => by
    unfold Wops at h
    have ho : ops[k]? = some o := by
      have := congrArg (·[0]?) hd
      simpa [List.getElem?_drop] using this
    have hd' : ops.toList.drop (k + 1) = os := by
      rw [← List.drop_drop, hd]; rfl
    rw [List.length_cons, List.range'_succ]
    cases hb : guardA ops st o with
    | none => rw [hb] at h; exact h.elim
    | some b =>
      rw [hb] at h
      refine AOps.cons ho hb (fun e => ?_) (fun e => ?_)
      · subst e; exact (Wop.sound h).mono fun st' h' => Wops.sound hd' h'
      · subst e; exact Wops.sound hd' h

def cdB {α : Type} (A B : α → Prop) (st : α) : Bool → Prop
  | true => A st
  | false => B st
def cdO (A B : ASt → Prop) (st : ASt) : Option AV → Prop
  | some (.sc (.bool b)) => cdB A B st b
  | _ => False

def W (C : Env) (pol : Pol) (l : Lv) : Code → (Exit → ASt → Prop) → ASt → Prop
  | .skip, Q, st => Q .normal st
  | .label _, Q, st => Q .normal st
  | .region _ ops false, Q, st => Wops C pol l ops Q ops.toList st
  | .seq x y, Q, st => W C pol l x (AThen (W C pol l y Q) Q) st
  | .cond c x y, Q, st => cdO (W C pol l x Q) (W C pol l y Q) st (st.ev C c)
  | .block id c, Q, st => W C pol l c (ABlock id Q) st
  | .exit id, Q, st => Q (.exit id) st
  | .goto id, Q, st => Q (.goto id) st
  | .ret, Q, st => Q .ret st
  | c, Q, st => AWp C l c Q st

section
variable {C : Env} {pol : Pol} {l : Lv}
theorem W.sound : ∀ {c : Code} {Q : Exit → ASt → Prop} {st : ASt}, W C pol l c Q st → AWp C l c Q st
  | .skip, Q, st, h => fun _ _ _ g _ hr => wpIn_skip ⟨st, g, h, hr⟩
  | .label _, Q, st, h => fun _ _ _ g _ hr => wpIn_label ⟨st, g, h, hr⟩
  | .region _ ops false, Q, st, h => AOps.region (by
      have := Wops.sound (k := 0) (by simp) h
      simpa [List.range_eq_range'] using this)
  | .region _ ops true, Q, st, h => h
  | .seq x y, Q, st, h => AWp.seq ((W.sound (c := x) h).mono fun e st h' => by
      cases e with
      | normal => exact W.sound (c := y) h'
      | _ => exact h')
  | .cond c x y, Q, st, h => by
    unfold W cdO at h
    split at h
    · rename_i b hc
      exact AWp.cond hc (fun e => by subst e; exact W.sound h) (fun e => by subst e; exact W.sound h)
    · exact h.elim
  | .block id c, Q, st, h => AWp.block (W.sound (c := c) h)
  | .exit id, Q, st, h => fun _ _ _ g _ hr => wpIn_exit ⟨st, g, h, hr⟩
  | .goto id, Q, st, h => fun _ _ _ g _ hr => wpIn_goto ⟨st, g, h, hr⟩
  | .ret, Q, st, h => fun _ _ _ g _ hr => wpIn_ret ⟨st, g, h, hr⟩
  | .loop _, Q, st, h => h
  | .rangeFunc .., Q, st, h => h
  | .scope _, Q, st, h => h
  | .refuse _, Q, st, h => h
end

/-- What a function's end is to come to. -/
def bodyR (C : Env) (rs : List ResultVar) (nb : Nat) (R : AEnd → ASt → Prop) : Exit → ASt → Prop
  | .normal, st | .ret, st => match resL C st rs with
    | some vs => R .ret (retSt nb st vs)
    | none => False
  | .panic ch, st => ∃ p, ch = [{ v := p, recovered := false }] ∧ R (.panic p) { st with n := 0, s := [], r := [] }
  | _, _ => False
def GoR (R : AEnd → ASt → Prop) (nb : Nat) (st : ASt) : Option (List AV) → Prop
  | some vs => R .ret (retSt nb st vs)
  | none => False
theorem gor_some {R : AEnd → ASt → Prop} {nb : Nat} {st : ASt} (vs : List AV) : GoR R nb st (some vs) = R .ret (retSt nb st vs) := rfl
theorem bodyR_ret {C : Env} {rs : List ResultVar} {nb : Nat} {R : AEnd → ASt → Prop} {st : ASt} : bodyR C rs nb R .ret st = GoR R nb st (resL C st rs) := by
  show (match resL C st rs with | some vs => R .ret (retSt nb st vs) | none => False) = _
  cases resL C st rs <;> rfl
theorem bodyR_normal {C : Env} {rs : List ResultVar} {nb : Nat} {R : AEnd → ASt → Prop} {st : ASt} : bodyR C rs nb R .normal st = GoR R nb st (resL C st rs) := bodyR_ret

/-- What is still to be done. -/
inductive It where
  | c (x : Code)
  | o (ops : Array Oper) (os : List Oper)
  | b (id : Nat)

section
variable (C : Env) (pol : Pol) (l : Lv) (Q : Exit → ASt → Prop)
def Kn : List It → Exit → ASt → Prop
  | [], e, st => Q e st
  | .c x :: k, .normal, st => W C pol l x (Kn k) st
  | .o ops os :: k, .normal, st => Wops C pol l ops (Kn k) os st
  | .b id :: k, .exit id', st => if id' = id then Kn k .normal st else Kn k (.exit id') st
  | .b _ :: k, e, st => Kn k e st
  | _ :: k, e, st => Kn k e st

def dstAt : List Oper → Nat → Option Tmp
  | [], _ => none
  | o :: os, j => if j = 0 then o.dst else dstAt os (j - 1)
theorem dstAt_eq : ∀ (l : List Oper) (j : Nat), dstAt l j = (l[j]?).bind (·.dst)
  | [], j => by simp [dstAt]
  | o :: os, 0 => by simp [dstAt]
  | o :: os, j + 1 => by simp [dstAt, dstAt_eq os j]
def guardV (want : Bool) : Option AV → Option Bool
  | some (.sc (.bool b)) => some (b == want)
  | some (.sc (.tuple _)) => some false
  | _ => none
def guardD (st : ASt) (want : Bool) : Option Tmp → Option Bool
  | some d => guardV want (get st.s d)
  | none => none
def guardL (ops : List Oper) (st : ASt) : Option (Nat × Bool) → Option Bool
  | none => some true
  | some (j, want) => guardD st want (dstAt ops j)
theorem guardL_eq (ops : Array Oper) (st : ASt) (o : Oper) : guardA ops st o = guardL ops.toList st o.guard := by
  unfold guardA guardL
  cases o.guard with
  | none => rfl
  | some p =>
    obtain ⟨j, want⟩ := p
    simp only [dstAt_eq, Array.getElem?_toList, guardD]
    cases (ops[j]?).bind (·.dst) with
    | none => rfl
    | some d =>
      simp only [guardV]
      cases get st.s d with
      | none => rfl
      | some v => cases v <;> first | rfl | (rename_i v; cases v <;> rfl)

/-- The whole of it, as a state of a machine. -/
def Go (k : List It) (e : Exit) (st : ASt) : Prop := Kn C pol l Q k e st
def GoC (k : List It) (x : Code) (st : ASt) : Prop := W C pol l x (Kn C pol l Q k) st
def GoO (k : List It) (ops : Array Oper) (os : List Oper) (st : ASt) : Prop := Wops C pol l ops (Kn C pol l Q k) os st
def GoG (k : List It) (ops : Array Oper) (o : Oper) (os : List Oper) (st : ASt) (b : Option Bool) : Prop := gdO C pol l o (GoO C pol l Q k ops os) (Kn C pol l Q k) st b
def GoB (k : List It) (ops : Array Oper) (o : Oper) (os : List Oper) (st : ASt) (b : Bool) : Prop := gdB C pol l o (GoO C pol l Q k ops os) (Kn C pol l Q k) st b
def GoP (k : List It) (ops : Array Oper) (o : Oper) (os : List Oper) (st : ASt) : Prop := Wop C pol l o (GoO C pol l Q k ops os) (Kn C pol l Q k) st
/-- Is this a call of a function value? -/
def isCall : Op → Bool
  | .call { callee := .value _, .. } => true
  | _ => false
def GoX (k : List It) (ops : Array Oper) (o : Oper) (os : List Oper) (st : ASt) : Bool → Prop
  | true => match o.op with
    | .call { callee := .value f, args := args, argTypes := Ts } => Wcall C pol f args.toList Ts.toList o.dst (GoO C pol l Q k ops os) (Kn C pol l Q k) st
    | _ => False
  | false => s1 C pol l o (GoO C pol l Q k ops os) (Kn C pol l Q k) st (pop2 C st o)
def GoCall (k : List It) (ops : Array Oper) (f : Operand) (args : List Operand) (Ts : List TypeId) (d : Option Nat) (os : List Oper) (st : ASt) : Prop := Wcall C pol f args Ts d (GoO C pol l Q k ops os) (Kn C pol l Q k) st
def Go1 (k : List It) (ops : Array Oper) (o : Oper) (os : List Oper) (st : ASt) (v : Option AV) : Prop := s1 C pol l o (GoO C pol l Q k ops os) (Kn C pol l Q k) st v
def Go2 (k : List It) (ops : Array Oper) (o : Oper) (os : List Oper) (st : ASt) (v : Option AV) : Prop := s2 C pol l o (GoO C pol l Q k ops os) (Kn C pol l Q k) st v
def Go3 (k : List It) (ops : Array Oper) (o : Oper) (os : List Oper) (st : ASt) (v : Option AV) : Prop := s3 C pol l o (GoO C pol l Q k ops os) (Kn C pol l Q k) st v
def Go4 (k : List It) (ops : Array Oper) (o : Oper) (os : List Oper) (st : ASt) (v : Option ASt) : Prop := s4 C l o (GoO C pol l Q k ops os) (Kn C pol l Q k) st v
def GoD (k : List It) (x y : Code) (st : ASt) (v : Option AV) : Prop := cdO (GoC C pol l Q k x) (GoC C pol l Q k y) st v
def GoDB (k : List It) (x y : Code) (st : ASt) (b : Bool) : Prop := cdB (GoC C pol l Q k x) (GoC C pol l Q k y) st b

variable (k : List It) (st : ASt)
theorem go_nil (e : Exit) : Go C pol l Q [] e st = Q e st := rfl
theorem go_c (x : Code) : Go C pol l Q (.c x :: k) .normal st = GoC C pol l Q k x st := rfl
theorem go_o (ops : Array Oper) (os : List Oper) : Go C pol l Q (.o ops os :: k) .normal st = GoO C pol l Q k ops os st := rfl
theorem go_b (id : Nat) : Go C pol l Q (.b id :: k) .normal st = Go C pol l Q k .normal st := rfl
theorem go_ret (i : It) : Go C pol l Q (i :: k) .ret st = Go C pol l Q k .ret st := by cases i <;> rfl
theorem go_exit_c (x : Code) (id : Nat) : Go C pol l Q (.c x :: k) (.exit id) st = Go C pol l Q k (.exit id) st := rfl
theorem go_exit_o (ops : Array Oper) (os : List Oper) (id : Nat) : Go C pol l Q (.o ops os :: k) (.exit id) st = Go C pol l Q k (.exit id) st := rfl
theorem go_exit_b (id id' : Nat) : Go C pol l Q (.b id :: k) (.exit id') st = if id' = id then Go C pol l Q k .normal st else Go C pol l Q k (.exit id') st := rfl
theorem go_panic (i : It) (ch : List PanicEntry) : Go C pol l Q (i :: k) (.panic ch) st = Go C pol l Q k (.panic ch) st := by cases i <;> rfl
theorem goc_skip : GoC C pol l Q k .skip st = Go C pol l Q k .normal st := rfl
theorem goc_label (n : Nat) : GoC C pol l Q k (.label n) st = Go C pol l Q k .normal st := rfl
theorem goc_region (id : Nat) (ops : Array Oper) : GoC C pol l Q k (.region id ops false) st = GoO C pol l Q k ops ops.toList st := rfl
theorem goc_seq (x y : Code) : GoC C pol l Q k (.seq x y) st = GoC C pol l Q (.c y :: k) x st := by
  have : AThen (W C pol l y (Kn C pol l Q k)) (Kn C pol l Q k) = Kn C pol l Q (.c y :: k) := by
    funext e st; cases e <;> rfl
  show W C pol l x (AThen (W C pol l y (Kn C pol l Q k)) (Kn C pol l Q k)) st = _
  rw [this]; rfl
theorem goc_block (id : Nat) (x : Code) : GoC C pol l Q k (.block id x) st = GoC C pol l Q (.b id :: k) x st := by
  have : ABlock id (Kn C pol l Q k) = Kn C pol l Q (.b id :: k) := by
    funext e st; cases e <;> rfl
  show W C pol l x (ABlock id (Kn C pol l Q k)) st = _
  rw [this]; rfl
theorem goc_cond (c : Operand) (x y : Code) : GoC C pol l Q k (.cond c x y) st = GoD C pol l Q k x y st (st.ev C c) := rfl
theorem goc_exit (id : Nat) : GoC C pol l Q k (.exit id) st = Go C pol l Q k (.exit id) st := rfl
theorem goc_ret : GoC C pol l Q k .ret st = Go C pol l Q k .ret st := rfl
theorem goc_loop (x : Code) : GoC C pol l Q k (.loop x) st = AWp C l (.loop x) (Go C pol l Q k) st := rfl
theorem god_some (x y : Code) (b : Bool) : GoD C pol l Q k x y st (some (.sc (.bool b))) = GoDB C pol l Q k x y st b := rfl
theorem godb_true (x y : Code) : GoDB C pol l Q k x y st true = GoC C pol l Q k x st := rfl
theorem godb_false (x y : Code) : GoDB C pol l Q k x y st false = GoC C pol l Q k y st := rfl
variable (ops : Array Oper) (o : Oper) (os : List Oper)
theorem goo_nil : GoO C pol l Q k ops [] st = Go C pol l Q k .normal st := rfl
theorem goo_cons : GoO C pol l Q k ops (o :: os) st = GoG C pol l Q k ops o os st (guardL ops.toList st o.guard) := by rw [← guardL_eq]; rfl
theorem gog_some (b : Bool) : GoG C pol l Q k ops o os st (some b) = GoB C pol l Q k ops o os st b := rfl
theorem gob_true : GoB C pol l Q k ops o os st true = GoP C pol l Q k ops o os st := rfl
theorem gob_false : GoB C pol l Q k ops o os st false = GoO C pol l Q k ops os (st.putO o.dst (.sc undef)) := rfl
theorem go1_some (v : AV) : Go1 C pol l Q k ops o os st (some v) = GoO C pol l Q k ops os (st.putO o.dst v) := rfl
theorem go1_none : Go1 C pol l Q k ops o os st none = Go2 C pol l Q k ops o os st (pop1 C st o) := rfl
theorem go2_some (v : AV) : Go2 C pol l Q k ops o os st (some v) = GoO C pol l Q k ops os (st.putO o.dst v) := rfl
theorem go2_none : Go2 C pol l Q k ops o os st none = Go3 C pol l Q k ops o os st (plain C st o) := rfl
theorem go3_some (v : AV) : Go3 C pol l Q k ops o os st (some v) = GoO C pol l Q k ops os (st.putO o.dst v) := rfl
theorem go3_none : Go3 C pol l Q k ops o os st none = Go4 C pol l Q k ops o os st (eop C pol st o) := rfl
theorem go4_none : Go4 C pol l Q k ops o os st none = AOp C l o (GoO C pol l Q k ops os) (Go C pol l Q k) st := rfl
theorem go4_some (st' : ASt) : Go4 C pol l Q k ops o os st (some st') = GoO C pol l Q k ops os st' := rfl
theorem gop_split : GoP C pol l Q k ops o os st = GoX C pol l Q k ops o os st (isCall o.op) := by
  unfold GoP Wop GoX
  split
  · rename_i ho; simp only [ho, isCall]
  · rename_i hne
    have : isCall o.op = false := by
      unfold isCall
      split
      · rename_i f args Ts ho; exact absurd ho (hne f args Ts)
      · rfl
    rw [this]
theorem gox_false : GoX C pol l Q k ops o os st false = Go1 C pol l Q k ops o os st (pop2 C st o) := rfl
theorem gox_true {d : Option Tmp} {f : Operand} {args : Array Operand} {Ts : Array TypeId} {ty : TypeId} {pos : String} {af : Array Edge} {gd : Option (Nat × Bool)} :
    GoX C pol l Q k ops ⟨d, .call ⟨.value f, args, Ts⟩, ty, pos, af, gd⟩ os st true = GoCall C pol l Q k ops f args.toList Ts.toList d os st := rfl
end

section
variable {C : Env} {pol : Pol} {l : Lv} {Q : Exit → ASt → Prop} {k : List It} {st : ASt} {ops : Array Oper} {o : Oper} {os : List Oper} {x y : Code}
theorem gob_b {b : Bool} (ht : b = true → GoP C pol l Q k ops o os st) (hf : b = false → GoO C pol l Q k ops os (st.putO o.dst (.sc undef))) : GoB C pol l Q k ops o os st b := by
  cases b
  · exact hf rfl
  · exact ht rfl
theorem gob_d {p : Prop} {_ : Decidable p} (ht : p → GoP C pol l Q k ops o os st) (hf : ¬p → GoO C pol l Q k ops os (st.putO o.dst (.sc undef))) : GoB C pol l Q k ops o os st (decide p) :=
  gob_b (fun h => ht (of_decide_eq_true h)) (fun h => hf (of_decide_eq_false h))
theorem gob_n {p : Prop} {_ : Decidable p} (ht : p → GoO C pol l Q k ops os (st.putO o.dst (.sc undef))) (hf : ¬p → GoP C pol l Q k ops o os st) : GoB C pol l Q k ops o os st (!decide p) :=
  gob_b (fun h => hf (by simpa using h)) (fun h => ht (by simpa using h))
theorem godb_b {b : Bool} (ht : b = true → GoC C pol l Q k x st) (hf : b = false → GoC C pol l Q k y st) : GoDB C pol l Q k x y st b := by
  cases b
  · exact hf rfl
  · exact ht rfl
theorem godb_d {p : Prop} {_ : Decidable p} (ht : p → GoC C pol l Q k x st) (hf : ¬p → GoC C pol l Q k y st) : GoDB C pol l Q k x y st (decide p) :=
  godb_b (fun h => ht (of_decide_eq_true h)) (fun h => hf (of_decide_eq_false h))
theorem godb_n {p : Prop} {_ : Decidable p} (ht : p → GoC C pol l Q k y st) (hf : ¬p → GoC C pol l Q k x st) : GoDB C pol l Q k x y st (!decide p) :=
  godb_b (fun h => hf (by simpa using h)) (fun h => ht (by simpa using h))
end

theorem eqself {α : Type} (a : α) : (a = a) = True := eq_self a

/-- The rules, in one: of a machine over abstract states. -/
theorem ab : (type_of% @goc_seq) ∧ (type_of% @goc_region) ∧ (type_of% @goc_block) ∧ (type_of% @goc_cond) ∧ (type_of% @goc_ret) ∧ (type_of% @goc_exit) ∧ (type_of% @goc_skip) ∧ (type_of% @goc_label) ∧ (type_of% @goc_loop) ∧
    (type_of% @goo_nil) ∧ (type_of% @goo_cons) ∧ (type_of% @gog_some) ∧ (type_of% @gob_true) ∧ (type_of% @gob_false) ∧ (type_of% @gop_split) ∧ (type_of% @gox_true) ∧ (type_of% @gox_false) ∧
    (type_of% @go1_some) ∧ (type_of% @go1_none) ∧ (type_of% @go2_some) ∧ (type_of% @go2_none) ∧ (type_of% @go3_some) ∧ (type_of% @go3_none) ∧ (type_of% @go4_some) ∧ (type_of% @god_some) ∧ (type_of% @godb_true) ∧ (type_of% @godb_false) ∧
    (type_of% @go_nil) ∧ (type_of% @go_c) ∧ (type_of% @go_o) ∧ (type_of% @go_b) ∧ (type_of% @go_ret) ∧ (type_of% @go_exit_c) ∧ (type_of% @go_exit_o) ∧ (type_of% @go_exit_b) ∧ (type_of% @go_panic) ∧ (type_of% @bodyR_ret) ∧ (type_of% @bodyR_normal) ∧ (type_of% @gor_some) :=
  ⟨@goc_seq, @goc_region, @goc_block, @goc_cond, @goc_ret, @goc_exit, @goc_skip, @goc_label, @goc_loop, @goo_nil, @goo_cons, @gog_some, @gob_true, @gob_false, @gop_split, @gox_true, @gox_false,
    @go1_some, @go1_none, @go2_some, @go2_none, @go3_some, @go3_none, @go4_some, @god_some, @godb_true, @godb_false, @go_nil, @go_c, @go_o, @go_b, @go_ret, @go_exit_c, @go_exit_o, @go_exit_b, @go_panic, @bodyR_ret, @bodyR_normal, @gor_some⟩

/-- What the words of states come to. -/
theorem ad : (type_of% @isCall.eq_def) ∧ (type_of% @guardL.eq_def) ∧ (type_of% @guardD.eq_def) ∧ (type_of% @guardV.eq_def) ∧ (type_of% @dstAt.eq_1) ∧ (type_of% @dstAt.eq_2) ∧ (type_of% @pop2.eq_def) ∧ (type_of% @pop1.eq_def) ∧ (type_of% @plain.eq_def) ∧ (type_of% @plainOp.eq_def) ∧ (type_of% @eop.eq_def) ∧
    (type_of% @ASt.ev.eq_def) ∧ (type_of% @get.eq_1) ∧ (type_of% @get.eq_2) ∧ (type_of% @put.eq_1) ∧ (type_of% @put.eq_2) ∧ (type_of% @del.eq_1) ∧ (type_of% @del.eq_2) ∧ (type_of% @ASt.put.eq_def) ∧ (type_of% @ASt.putO.eq_def) ∧ (type_of% @bin2.eq_def) ∧ (type_of% @ofV.eq_def) ∧ (type_of% @ofLeaf.eq_def) ∧
    (type_of% @intOf?.eq_def) ∧ (type_of% @evL.eq_1) ∧ (type_of% @evL.eq_2) ∧ (type_of% @Option.map_some.{0,0}) ∧ (type_of% @Option.map_none.{0,0}) ∧ (type_of% @Option.bind_some.{0,0}) ∧ (type_of% @Option.bind_none.{0,0}) ∧ (type_of% @ASt.list.eq_def) ∧ (type_of% @ASt.at.eq_def) ∧ (type_of% @AV.plus.eq_def) ∧ (type_of% @ASt.ld.eq_def) ∧ (type_of% @ASt.range.eq_def) ∧ (type_of% @bounds.eq_def) ∧
    (type_of% @Bool.false_and) ∧ (type_of% @Bool.true_and) ∧ (type_of% @Bool.and_true) ∧ (type_of% @Bool.and_false) ∧ (type_of% @Bool.false_eq_true) ∧ (type_of% @beq_true) ∧ (type_of% @beq_false) ∧ (type_of% @Bool.not_true) ∧ (type_of% @Bool.not_false) ∧ (type_of% @decide_true) ∧ (type_of% @decide_false) :=
  ⟨@isCall.eq_def, @guardL.eq_def, @guardD.eq_def, @guardV.eq_def, @dstAt.eq_1, @dstAt.eq_2, @pop2.eq_def, @pop1.eq_def, @plain.eq_def, @plainOp.eq_def, @eop.eq_def,
    @ASt.ev.eq_def, @get.eq_1, @get.eq_2, @put.eq_1, @put.eq_2, @del.eq_1, @del.eq_2, @ASt.put.eq_def, @ASt.putO.eq_def, @bin2.eq_def, @ofV.eq_def, @ofLeaf.eq_def,
    @intOf?.eq_def, @evL.eq_1, @evL.eq_2, @Option.map_some.{0,0}, @Option.map_none.{0,0}, @Option.bind_some.{0,0}, @Option.bind_none.{0,0}, @ASt.list.eq_def, @ASt.at.eq_def, @AV.plus.eq_def, @ASt.ld.eq_def, @ASt.range.eq_def, @bounds.eq_def,
    @Bool.false_and, @Bool.true_and, @Bool.and_true, @Bool.and_false, @Bool.false_eq_true, @beq_true, @beq_false, @Bool.not_true, @Bool.not_false, @decide_true, @decide_false⟩

/-- The results' rows, one by one. -/
def rr : Nat → List AV → ASt → ASt
  | _, [], st => st
  | i, _ :: vs, st => rr (i + 1) vs (retRow st i)
theorem rr_eq : ∀ (vs : List AV) (i : Nat) (st : ASt), (List.range' i vs.length).foldl retRow st = rr i vs st
  | [], i, st => rfl
  | _ :: vs, i, st => by simp only [List.length_cons, List.range'_succ, List.foldl_cons, rr]; exact rr_eq vs (i + 1) _
def retG (nb : Nat) (st : ASt) : ASt := ({ st with r := only (fun k _ => (ownsL (st.s.map (·.2))).contains k) st.r } : ASt).trim nb
def retB (nb : Nat) (st : ASt) (vs : List AV) : Bool → ASt
  | true => ASt.trim ⟨vs.length, zipI 0 vs, [], st.b, st.l⟩ nb
  | false => retG nb (rr 0 vs ⟨vs.length, zipI 0 vs, st.r, st.b, st.l⟩)
theorem ret_noRef : ∀ (vs : List AV) (i : Nat) (st : ASt), (∀ t v, get st.s t = some v → v.noRef = true) → rr i vs st = st
  | [], _, _, _ => rfl
  | _ :: vs, i, st, h => by
    simp only [rr]
    have : retRow st i = st := by
      unfold retRow
      split
      · rename_i k hk; have := h i _ hk; simp [AV.noRef] at this
      · rename_i b j hk; have := h i _ hk; simp [AV.noRef] at this
      · rfl
    rw [this]; exact ret_noRef vs (i + 1) st h
mutual
theorem noRef_owns : ∀ (a : AV), a.noRef = true → a.owns = []
  | .sc _, _ | .nil, _ | .sl _ _, _ | .slx _ _, _ | .bp _ _, _ | .rp _, _ | .dead, _ => rfl
  | .agg cs, h => by simp only [AV.noRef] at h; simp only [AV.owns]; exact noRefL_owns cs h
  | .tup cs, h => by simp only [AV.noRef] at h; simp only [AV.owns]; exact noRefL_owns cs h
  | .fn _ f c, h => by simp only [AV.noRef, Bool.and_eq_true] at h; simp only [AV.owns, noRefL_owns f h.1, noRefL_owns c h.2, List.append_nil]
  | .own _, h | .ocl _ _, h | .ep _ _ _ _, h | .ec _ _ _ _ _, h | .ow _ _, h => by simp [AV.noRef] at h
theorem noRefL_owns : ∀ (l : List AV), noRefL l = true → ownsL l = []
  | [], _ => rfl
  | a :: l, h => by simp only [noRefL, Bool.and_eq_true] at h; simp only [ownsL, noRef_owns a h.1, noRefL_owns l h.2, List.append_nil]
end
theorem zipI_snd {α : Type} : ∀ (l : List α) (i : Nat), (zipI i l).map (·.2) = l
  | [], _ => rfl
  | a :: l, i => by simp [zipI, zipI_snd l]
theorem retSt_eq (nb : Nat) (st : ASt) (vs : List AV) : retSt nb st vs = retB nb st vs (noRefL vs) := by
  have h0 : retSt nb st vs = retG nb (rr 0 vs ⟨vs.length, zipI 0 vs, st.r, st.b, st.l⟩) := by
    unfold retSt retG
    rw [List.range_eq_range', rr_eq]
  rw [h0]
  cases hn : noRefL vs with
  | false => rfl
  | true =>
    rw [ret_noRef vs 0 _ (fun t v ht => by
      simp only [get_zipI, Nat.zero_le, if_true, Nat.sub_zero] at ht; exact noRefL_get hn ht)]
    unfold retB retG
    have : only (fun k (_ : Nat × List AV) => (ownsL ((zipI 0 vs).map (·.2))).contains k) st.r = [] := by
      rw [zipI_snd, noRefL_owns vs hn]
      simp only [List.contains_nil, only, bad, Bool.not_false, List.filter_eq_nil_iff]
      intro p hp
      simp only [Bool.not_eq_true, Bool.not_eq_false', List.contains_eq_mem, List.mem_map, List.mem_filter, decide_eq_true_eq]
      exact ⟨p, ⟨hp, trivial⟩, rfl⟩
    simp only [this]

theorem ret_iff {st st' : ASt} : Ret st .ret st' = (st' = st) := by simp [Ret]

/-- How functions end. -/
theorem ae : (type_of% @resL.eq_1) ∧ (type_of% @resL.eq_2) ∧ (type_of% @resL.eq_3) ∧ (type_of% @retSt_eq) ∧ (type_of% @retB.eq_1) ∧ (type_of% @retB.eq_2) ∧ (type_of% @retG.eq_def) ∧ (type_of% @rr.eq_1) ∧ (type_of% @rr.eq_2) ∧ (type_of% @retRow.eq_def) ∧
    (type_of% @ASt.trim.eq_def) ∧ (∀ i, zipI i ([] : List AV) = []) ∧ (∀ i (a : AV) l, zipI i (a :: l) = (i, a) :: zipI (i + 1) l) ∧ (type_of% @noRefL.eq_1) ∧ (type_of% @noRefL.eq_2) ∧
    (∀ v, (AV.sc v).noRef = true) ∧ (AV.nil.noRef = true) ∧ (∀ sz l, (AV.sl sz l).noRef = true) ∧ (∀ sz l, (AV.slx sz l).noRef = true) ∧ (∀ b o, (AV.bp b o).noRef = true) ∧ (∀ cs, (AV.agg cs).noRef = noRefL cs) ∧ (∀ cs, (AV.tup cs).noRef = noRefL cs) ∧
    (∀ f x c, (AV.fn f x c).noRef = (noRefL x && noRefL c)) ∧ (∀ k, (AV.own k).noRef = false) ∧ (∀ b j, (AV.ocl b j).noRef = false) ∧
    (([] : List AV).length = 0) ∧ (∀ (a : AV) l, (a :: l).length = l.length + 1) ∧ (([] : List (List AV)).length = 0) ∧ (∀ (a : List AV) l, (a :: l).length = l.length + 1) ∧ (type_of% @ret_iff) :=
  ⟨@resL.eq_1, @resL.eq_2, @resL.eq_3, @retSt_eq, @retB.eq_1, @retB.eq_2, @retG.eq_def, @rr.eq_1, @rr.eq_2, @retRow.eq_def, @ASt.trim.eq_def, fun _ => rfl, fun _ _ _ => rfl, @noRefL.eq_1, @noRefL.eq_2,
    fun _ => rfl, rfl, fun _ _ => rfl, fun _ _ => rfl, fun _ _ => rfl, fun _ => rfl, fun _ => rfl, fun _ _ _ => rfl, fun _ => rfl, fun _ _ => rfl, rfl, fun _ _ => rfl, rfl, fun _ _ => rfl, @ret_iff⟩

/-- The call, once its contract is at hand. -/
def GoN (C : Env) (pol : Pol) (l : Lv) (Q : Exit → ASt → Prop) (k : List It) (ops : Array Oper) (os : List Oper) (st st' : ASt) (ks : List Nat) (pass lend : Bool) (d : Option Nat) (ae : AEnd) (st1 : ASt) : Prop :=
  callNext st st' ks pass lend d (GoO C pol l Q k ops os) (Kn C pol l Q k) ae st1
def GoCB (C : Env) (pol : Pol) (l : Lv) (Q : Exit → ASt → Prop) (k : List It) (ops : Array Oper) (os : List Oper) (st : ASt) (d : Option Nat) (fid : FuncId) (st' : ASt) (as : List AV) (rs : List (Nat × (Nat × List AV))) (ks : List Nat) (lend pass : Bool) : Prop :=
  (mbL as ≤ (if pass then st'.b else []).length ∧ (lend = true → ks = [])) ∧ ∃ R, ACall C fid (calleeSt st' as rs pass) R ∧ ∀ ae st1, R ae st1 → GoN C pol l Q k ops os st st' ks pass lend d ae st1
def GoCP (C : Env) (pol : Pol) (l : Lv) (Q : Exit → ASt → Prop) (k : List It) (ops : Array Oper) (os : List Oper) (st : ASt) (d : Option Nat) : Option (FuncId × ASt × List AV × List AV × List (Nat × (Nat × List AV)) × List Nat) → Prop
  | some (fid, st', _, as, rs, ks) => GoCB C pol l Q k ops os st d fid st' as rs ks (pol.fl.contains fid) (!(pol.fl.contains fid) && mbL as != 0)
  | none => False
def GoNR (C : Env) (pol : Pol) (l : Lv) (Q : Exit → ASt → Prop) (k : List It) (ops : Array Oper) (os : List Oper) : Option ASt → Prop
  | some st2 => GoO C pol l Q k ops os st2
  | none => False
def GoNL (C : Env) (pol : Pol) (l : Lv) (Q : Exit → ASt → Prop) (k : List It) (ops : Array Oper) (os : List Oper) (st : ASt) (d : Option Nat) : Option AV → Prop
  | some v => v.flat = true ∧ GoO C pol l Q k ops os (st.putO d v)
  | none => False
section
variable (C : Env) (pol : Pol) (l : Lv) (Q : Exit → ASt → Prop) (k : List It) (ops : Array Oper) (os : List Oper) (st st' st1 : ASt) (d : Option Nat) (ks : List Nat) (pass : Bool)
theorem gocall_eq (f : Operand) (args : List Operand) (Ts : List TypeId) : GoCall C pol l Q k ops f args Ts d os st = GoCP C pol l Q k ops os st d (callPrep C st pol.mv f args Ts) := by
  unfold GoCall Wcall GoCP
  cases callPrep C st pol.mv f args Ts with
  | none => rfl
  | some p => rfl
theorem gocp_some (fid : FuncId) (vs as : List AV) (rs : List (Nat × (Nat × List AV))) : GoCP C pol l Q k ops os st d (some (fid, st', vs, as, rs, ks)) =
    GoCB C pol l Q k ops os st d fid st' as rs ks (pol.fl.contains fid) (!(pol.fl.contains fid) && mbL as != 0) := rfl
theorem gon_ret : GoN C pol l Q k ops os st st' ks pass false d .ret st1 = GoNR C pol l Q k ops os (st'.after ks pass d st1) := by
  unfold GoN callNext GoNR
  simp only [Bool.false_eq_true, if_false]
  cases st'.after ks pass d st1 <;> rfl
theorem gon_lend : GoN C pol l Q k ops os st st' ks pass true d .ret st1 = GoNL C pol l Q k ops os st d (resV st1) := by
  unfold GoN callNext GoNL
  simp only [if_true]
  cases resV st1 <;> rfl
theorem gonr_some : GoNR C pol l Q k ops os (some st1) = GoO C pol l Q k ops os st1 := rfl
theorem gonl_some (v : AV) : GoNL C pol l Q k ops os st d (some v) = (v.flat = true ∧ GoO C pol l Q k ops os (st.putO d v)) := rfl
end
section
variable {C : Env} {pol : Pol} {l : Lv} {Q : Exit → ASt → Prop} {k : List It} {ops : Array Oper} {os : List Oper} {st st' : ASt} {d : Option Nat} {ks : List Nat}
/-- A call that returns in one state. -/
theorem gocb_ret {fid : FuncId} {as : List AV} {rs : List (Nat × (Nat × List AV))} {lend pass : Bool} {stc st1 : ASt} (hc : ACall C fid stc (Ret st1)) (he : calleeSt st' as rs pass = stc) (hb : mbL as ≤ (if pass then st'.b else []).length) (hk : lend = true → ks = [])
    (hn : GoN C pol l Q k ops os st st' ks pass lend d .ret st1) : GoCB C pol l Q k ops os st d fid st' as rs ks lend pass := by
  subst he
  exact ⟨⟨hb, hk⟩, _, hc, fun ae st2 ⟨h1, h2⟩ => by subst h1 h2; exact hn⟩
theorem gocb {fid : FuncId} {as : List AV} {rs : List (Nat × (Nat × List AV))} {lend pass : Bool} {stc : ASt} {R : AEnd → ASt → Prop} (hc : ACall C fid stc R) (he : calleeSt st' as rs pass = stc) (hb : mbL as ≤ (if pass then st'.b else []).length) (hk : lend = true → ks = [])
    (hn : ∀ ae st1, R ae st1 → GoN C pol l Q k ops os st st' ks pass lend d ae st1) : GoCB C pol l Q k ops os st d fid st' as rs ks lend pass := by
  subst he
  exact ⟨⟨hb, hk⟩, _, hc, hn⟩
end
theorem left_nil (st : ASt) : st.left [] false = st := by
  have h1 : ∀ (α : Type) (l : List (Nat × α)) (p : Nat → α → Bool), (∀ k v, p k v = true) → only p l = l := fun α l p hp => by
    unfold only bad
    have : l.filter (fun x => !p x.1 x.2) = [] := by
      rw [List.filter_eq_nil_iff]; intro x _; simp [hp]
    rw [this]; simp
  unfold ASt.left
  rw [h1 _ _ _ (fun k v => by simp), h1 _ _ _ (fun k v => by simp)]
theorem shareL_rules : (∀ st : ASt, st.shareL [] = st) ∧ (∀ (st : ASt) k vs, st.shareL (.own k :: vs) = (st.share k).shareL vs) ∧ (∀ (st : ASt) b j vs, st.shareL (.ocl b j :: vs) = (st.shareC b j).shareL vs) ∧ (∀ (st : ASt) v vs, st.shareL (.sc v :: vs) = st.shareL vs) ∧ (∀ (st : ASt) vs, st.shareL (.nil :: vs) = st.shareL vs) ∧
    (∀ (st : ASt) n l vs, st.shareL (.sl n l :: vs) = st.shareL vs) ∧ (∀ (st : ASt) n l vs, st.shareL (.slx n l :: vs) = st.shareL vs) ∧ (∀ (st : ASt) b o vs, st.shareL (.bp b o :: vs) = st.shareL vs) ∧ (∀ (st : ASt) f x c vs, st.shareL (.fn f x c :: vs) = st.shareL vs) ∧ (∀ (st : ASt) c vs, st.shareL (.rp c :: vs) = st.shareL vs) ∧ (∀ (st : ASt) c vs, st.shareL (.tup c :: vs) = st.shareL vs) :=
  ⟨fun _ => rfl, fun _ _ _ => rfl, fun _ _ _ _ => rfl, fun _ _ _ => rfl, fun _ _ => rfl, fun _ _ _ _ => rfl, fun _ _ _ _ => rfl, fun _ _ _ _ => rfl, fun _ _ _ _ _ => rfl, fun _ _ _ => rfl, fun _ _ _ => rfl⟩
theorem convL_rules : (∀ C Ts, convL C Ts [] = []) ∧ (∀ C T Ts v vs, convL C (T :: Ts) (v :: vs) = argA (hints C.P 9 T) v :: convL C Ts vs) ∧ (∀ C v vs, convL C [] (v :: vs) = v :: vs) := ⟨fun _ Ts => by cases Ts <;> rfl, fun _ _ _ _ _ => rfl, fun _ _ _ => rfl⟩
/-- Calls. -/
theorem ac : (type_of% @gocall_eq) ∧ (type_of% @gocp_some) ∧ (type_of% @gon_ret) ∧ (type_of% @gon_lend) ∧ (type_of% @gonr_some) ∧ (type_of% @gonl_some) ∧ (type_of% @callPrep.eq_def) ∧ (type_of% @shareL_rules) ∧ (type_of% @keepL.eq_1) ∧ (type_of% @keepL.eq_2) ∧ (type_of% @convL_rules) ∧
    (type_of% @argA.eq_def) ∧ (type_of% @argLeaf.eq_def) ∧ (type_of% @argLeaves.eq_1) ∧ (type_of% @argLeaves.eq_2) ∧ (type_of% @moveArgs.eq_1) ∧ (type_of% @moveArgs.eq_2) ∧ (type_of% @calleeSt.eq_def) ∧ (type_of% @ASt.after.eq_def) ∧ (type_of% @left_nil) ∧ (type_of% @ASt.back.eq_def) ∧ (type_of% @resV.eq_def) ∧ (type_of% @getAll.eq_1) ∧ (type_of% @getAll.eq_2) ∧
    (type_of% @mbL.eq_1) ∧ (type_of% @mbL.eq_2) ∧ (∀ v, (AV.sc v).mb = 0) ∧ (AV.nil.mb = 0) ∧ (∀ sz l, (AV.sl sz l).mb = 0) ∧ (∀ sz l, (AV.slx sz l).mb = 0) ∧ (∀ b o, (AV.bp b o).mb = b + 1) ∧ (∀ cs, (AV.agg cs).mb = mbL cs) ∧ (∀ cs, (AV.tup cs).mb = mbL cs) ∧ (∀ f x c, (AV.fn f x c).mb = max (mbL x) (mbL c)) ∧ (∀ k, (AV.own k).mb = 0) ∧
    (∀ v, (AV.sc v).owns = []) ∧ (AV.nil.owns = []) ∧ (∀ sz l, (AV.sl sz l).owns = []) ∧ (∀ k, (AV.own k).owns = [k]) ∧ (∀ cs, (AV.tup cs).owns = ownsL cs) ∧ (∀ cs, (AV.agg cs).owns = ownsL cs) ∧ (type_of% @ownsL.eq_1) ∧ (type_of% @ownsL.eq_2) ∧ (type_of% @AV.cells.eq_def) ∧
    (∀ n v, shiftA n (AV.sc v) = .sc v) ∧ (∀ n, shiftA n AV.nil = .nil) ∧ (∀ n sz l, shiftA n (AV.sl sz l) = .sl sz l) ∧ (∀ n k, shiftA n (AV.own k) = .own (n + k)) ∧ (∀ n cs, shiftA n (AV.tup cs) = .tup (shiftL n cs)) ∧ (∀ n cs, shiftA n (AV.agg cs) = .agg (shiftL n cs)) ∧ (type_of% @shiftL.eq_1) ∧ (type_of% @shiftL.eq_2) ∧
    (∀ v, (AV.sc v).noCel = true) ∧ (AV.nil.noCel = true) ∧ (∀ sz l, (AV.sl sz l).noCel = true) ∧ (∀ k, (AV.own k).noCel = true) ∧ (∀ cs, (AV.tup cs).noCel = noCelL cs) ∧ (∀ cs, (AV.agg cs).noCel = noCelL cs) ∧ (type_of% @noCelL.eq_1) ∧ (type_of% @noCelL.eq_2) :=
  ⟨@gocall_eq, @gocp_some, @gon_ret, @gon_lend, @gonr_some, @gonl_some, @callPrep.eq_def, @shareL_rules, @keepL.eq_1, @keepL.eq_2, @convL_rules, @argA.eq_def, @argLeaf.eq_def, @argLeaves.eq_1, @argLeaves.eq_2, @moveArgs.eq_1, @moveArgs.eq_2, @calleeSt.eq_def, @ASt.after.eq_def, @left_nil, @ASt.back.eq_def, @resV.eq_def, @getAll.eq_1, @getAll.eq_2,
    @mbL.eq_1, @mbL.eq_2, fun _ => rfl, rfl, fun _ _ => rfl, fun _ _ => rfl, fun _ _ => rfl, fun _ => rfl, fun _ => rfl, fun _ _ _ => rfl, fun _ => rfl, fun _ => rfl, rfl, fun _ _ => rfl, fun _ => rfl, fun _ => rfl, fun _ => rfl, @ownsL.eq_1, @ownsL.eq_2, @AV.cells.eq_def,
    fun _ _ => rfl, fun _ => rfl, fun _ _ _ => rfl, fun _ _ => rfl, fun _ _ => rfl, fun _ _ => rfl, @shiftL.eq_1, @shiftL.eq_2, fun _ => rfl, rfl, fun _ _ => rfl, fun _ => rfl, fun _ => rfl, fun _ => rfl, @noCelL.eq_1, @noCelL.eq_2⟩

theorem ACallP.go {C : Env} {P : Entry → Prop} {pol : Pol} {f : FuncId} {fn : Func} {c : Code} {st0 : ASt} {R : AEnd → ASt → Prop} {n nb : Nat} {rs : List ResultVar} (hf : C.P.funcs[f]? = some fn) (hb : fn.body = some c) (hname : (fn.name != "runtime.NumGoroutine") = true)
    (hn : fn.ntmps = n) (hr : fn.results.toList = rs) (hnb : st0.b.length = nb) (hle : Nat.ble st0.n n = true) (h : GoC C pol ⟨none, fun E => P E ∧ E.n0 ≤ nb⟩ (bodyR C rs nb R) [] c { st0 with n := n }) : ACallP C P f st0 R := by
  subst hn hr hnb
  exact ACallP.of_body hf hb hname (Nat.le_of_ble_eq_true hle) (W.sound (by
    have e : bodyQ C fn st0.b.length R = bodyR C fn.results.toList st0.b.length R := by funext e st; cases e <;> rfl
    rw [e]; exact h))
theorem ACall.go {C : Env} {pol : Pol} {f : FuncId} {fn : Func} {c : Code} {st0 : ASt} {R : AEnd → ASt → Prop} {n nb : Nat} {rs : List ResultVar} (hf : C.P.funcs[f]? = some fn) (hb : fn.body = some c) (hname : (fn.name != "runtime.NumGoroutine") = true)
    (hn : fn.ntmps = n) (hr : fn.results.toList = rs) (hnb : st0.b.length = nb) (hle : Nat.ble st0.n n = true) (h : GoC C pol ⟨none, fun E => True ∧ E.n0 ≤ nb⟩ (bodyR C rs nb R) [] c { st0 with n := n }) : ACall C f st0 R :=
  ACallP.go hf hb hname hn hr hnb hle h
end Go.Ab
end
