/- The abstract layer and its machine: what Go code does to lists, proved once over any program. -/
import Derived.Test.YtfokbedokggilaaDoorW16
set_option linter.all false
section
/-! Where paths meet again: a body cut in two. -/
namespace Go.Ab
/-- The slots that a code takes first. -/
def headK : RC → Option (List Nat)
  | .reg k _ => k
  | .seq x _ => headK x
  | _ => none
def spl : Nat → RC → Option (RC × RC)
  | 0, .seq x y => some (x, y)
  | n + 1, .seq x y => match spl n y with
    | some (u, v) => some (.seq x u, v)
    | none => none
  | _, _ => none
section
variable {o : Ask → (Ans → Prop) → Prop} {gl : List (Nat × List AV)} {pol : Pol} {nb : Nat}
theorem keepS_idem (st : ASt) (ks : List Nat) : (st.keepS (some ks)).keepS (some ks) = st.keepS (some ks) := by
  simp only [ASt.keepS, List.filter_filter, Bool.and_self]
theorem vC_head : ∀ {c : RC} {ks : List Nat} {Q : Exit → ASt → Prop} {st : ASt}, headK c = some ks → vC o gl pol nb c Q (st.keepS (some ks)) → vC o gl pol nb c Q st
  | .reg k ops, ks, Q, st, h, hv => by
    simp only [headK] at h; subst h
    simp only [vC, keepS_idem] at hv ⊢
    exact hv
  | .seq x y, ks, Q, st, h, hv => by
    simp only [headK] at h
    simp only [vC] at hv ⊢
    exact vC_head h hv
  | .skip, _, _, _, h, _ | .drw _ _, _, _, _, h, _ | .cond _ _ _, _, _, _, h, _ | .block _ _, _, _, _, h, _ | .loop _, _, _, _, h, _ | .rfun _ _ _ _, _, _, _, h, _ | .exit _, _, _, _, h, _ | .goto _, _, _, _, h, _ | .ret, _, _, _, h, _ | .raw _, _, _, _, h, _ => by cases h
theorem vC_seq (x y : RC) (Q : Exit → ASt → Prop) (st : ASt) : vC o gl pol nb (.seq x y) Q st = vC o gl pol nb x (seqQ (fun Q st => vC o gl pol nb y Q st) Q) st := by simp only [vC]
theorem spl_eq : ∀ {n : Nat} {c x y : RC}, spl n c = some (x, y) → ∀ (Q : Exit → ASt → Prop) (st : ASt), vC o gl pol nb c Q st = vC o gl pol nb (.seq x y) Q st
  | 0, c, x, y, h, Q, st => by
    cases c with
    | seq u v =>
      simp only [spl, Option.some.injEq, Prod.mk.injEq] at h
      obtain ⟨rfl, rfl⟩ := h
      rfl
    | _ => cases h
  | n + 1, c, x, y, h, Q, st => by
    cases c with
    | seq u v =>
      simp only [spl] at h
      split at h
      · rename_i p q hs
        simp only [Option.some.injEq, Prod.mk.injEq] at h
        obtain ⟨rfl, rfl⟩ := h
        have ih := spl_eq hs
        rw [vC_seq, vC_seq, vC_seq]
        congr 1
        funext e st'
        cases e with
        | normal => show vC o gl pol nb v Q st' = vC o gl pol nb p (seqQ (fun Q st => vC o gl pol nb q Q st) Q) st'; rw [ih, vC_seq]
        | _ => rfl
      · cases h
    | _ => cases h
/-- What comes behind is carried out once, from a state that all paths lead to. -/
theorem vC_cut (n : Nat) (ks : List Nat) (st0 : ASt) {c x y : RC} {Q : Exit → ASt → Prop} {st : ASt} (hs : spl n c = some (x, y)) (hy : headK y = some ks) (h2 : vC o gl pol nb y Q st0)
    (h : ∀ T : ASt → Prop, (∀ st, st.keepS (some ks) = st0 → T st) → vC o gl pol nb x (seqQ (fun _ st => T st) Q) st) : vC o gl pol nb c Q st := by
  rw [spl_eq hs, vC_seq]
  have h3 := h (fun st => vC o gl pol nb y Q st) fun st e => vC_head hy (by rw [e]; exact h2)
  have e : seqQ (fun Q st => vC o gl pol nb y Q st) Q = seqQ (fun _ st => vC o gl pol nb y Q st) Q := by
    funext e st; cases e <;> rfl
  rw [e]; exact h3
/-- The same, what holds at the cut in mind. -/
theorem vC_cutP {α : Type} (n : Nat) (ks : List Nat) (S : α → ASt) (p : α → Prop) {c x y : RC} {Q : Exit → ASt → Prop} {st : ASt} (hs : spl n c = some (x, y)) (hy : headK y = some ks) (h2 : ∀ a, p a → vC o gl pol nb y Q (S a))
    (h : ∀ T : ASt → Prop, (∀ st a, st.keepS (some ks) = S a → p a → T st) → vC o gl pol nb x (seqQ (fun _ st => T st) Q) st) : vC o gl pol nb c Q st := by
  rw [spl_eq hs, vC_seq]
  have h3 := h (fun st => vC o gl pol nb y Q st) fun st a e ha => vC_head hy (by rw [e]; exact h2 a ha)
  have e : seqQ (fun Q st => vC o gl pol nb y Q st) Q = seqQ (fun _ st => vC o gl pol nb y Q st) Q := by
    funext e st; cases e <;> rfl
  rw [e]; exact h3
end
end Go.Ab
end
