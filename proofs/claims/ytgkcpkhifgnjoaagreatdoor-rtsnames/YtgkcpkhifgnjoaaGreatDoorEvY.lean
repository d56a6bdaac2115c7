/- A table of functions, out of what is known of each. -/
import Derived.Test.YtgkcpkhifgnjoaaGreatDoorEvV
namespace Go.Ev
open Go

def EntryOk (P : Program) (f : Nat) : Entry → Prop
  | .code fn => ∃ F, P.funcs[f]? = some F ∧ convF P F = some fn ∧ (F.name == "runtime.NumGoroutine") = false
  | .ext run => ∀ args h nx k, run args h nx k = true → ∃ v h' nx', k v h' nx' = true ∧ CallSem P f args h.get nx v h'.get nx'

def EntsOk (P : Program) : List (Nat × Entry) → Prop
  | [] => True
  | x :: l => EntryOk P x.1 x.2 ∧ EntsOk P l

def build : List (Nat × Entry) → PT
  | [] => .e
  | x :: l => T.set (some x.2) (pos x.1) (build l)

theorem EntsOk.table {P : Program} {l : List (Nat × Entry)} (h : EntsOk P l) (hl : l.all (fun x => Nat.blt x.1 4294967296) = true) : TableSound P (build l) := by
  have key : ∀ (l : List (Nat × Entry)), EntsOk P l → l.all (fun x => Nat.blt x.1 4294967296) = true → ∀ f, f < 4294967296 → ∀ e, (build l).get (pos f) = some e → EntryOk P f e := by
    intro l
    induction l with
    | nil => intro _ _ f _ e he; simp [build] at he
    | cons x l ih =>
      intro h hl f hf e he
      simp only [List.all_cons, Bool.and_eq_true] at hl
      have hx : x.1 < 4294967296 := Nat.le_of_ble_eq_true hl.1
      by_cases hxf : x.1 = f
      · subst hxf
        simp only [build, T.get_set_same, Option.some.injEq] at he
        subst he; exact h.1
      · have : pos x.1 ≠ pos f := fun e => hxf (pos_inj (by omega) (by omega) e)
        simp only [build, T.get_set_other _ _ _ _ this] at he
        exact ih h.2 hl.2 f hf e he
  intro f hf
  have := key l h hl f hf
  split
  · rename_i fn hg; exact this _ hg
  · rename_i run hg; exact this _ hg
  · trivial
end Go.Ev
