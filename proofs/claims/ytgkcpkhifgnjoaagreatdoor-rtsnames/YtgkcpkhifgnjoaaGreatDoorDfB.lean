/- The conversion of a function that defers one closure. -/
import Derived.Test.YtgkcpkhifgnjoaaGreatDoorDfA
namespace Go.Ev
open Go

def splitN : Nat → Code → Option (List Code × Nat × Oper × Oper × Code)
  | 0, .seq (.region id ⟨[o1, o2]⟩ false) B => some ([], id, o1, o2, B)
  | n + 1, .seq a b => match splitN n b with
    | some (l, x) => some (a :: l, x)
    | none => none
  | _, _ => none

theorem splitN_eq : ∀ (n : Nat) (c : Code) {As : List Code} {id : Nat} {o1 o2 : Oper} {B : Code}, splitN n c = some (As, id, o1, o2, B) → c = seqCode As (.seq (.region id #[o1, o2] false) B)
  | 0, c, As, id, o1, o2, B, h => by
    unfold splitN at h
    split at h
    · simp only [Option.some.injEq, Prod.mk.injEq] at h
      obtain ⟨rfl, rfl, rfl, rfl, rfl⟩ := h
      rfl
    · rename_i he; cases he
    · cases h
  | n + 1, c, As, id, o1, o2, B, h => by
    unfold splitN at h
    split at h
    · rename_i he; cases he
    · rename_i m a b he
      simp only [Nat.succ.injEq] at he
      subst he
      split at h
      · rename_i l x hx
        simp only [Option.some.injEq, Prod.mk.injEq] at h
        obtain ⟨rfl, rfl⟩ := h
        rw [splitN_eq n b hx]; rfl
      · cases h
    · cases h

structure DFunc where
  pre : List C
  d : Nat
  f : Nat
  caps : List Opd
  body : C
  post : C
  results : List RV

def DFunc.entry (ih : Run) (x : DFunc) : Entry := .ext (dferX ih x.pre x.d x.f x.caps x.body x.post x.results)

def noneOf {α : Type} : Option α → Bool
  | none => true
  | some _ => false

def convDf (P : Program) (n : Nat) (F : Func) : Option DFunc :=
  match F.body, convR P F.results.toList with
  | some c, some r => match splitN n c with
    | some (As, _, o1, o2, B) => match o1.op, o1.dst, o2.op with
      | .makeFunc (.func f) ⟨[]⟩ capsO, some d, .defer { callee := .value (.tmp d'), args := ⟨[]⟩, argTypes := _ } => match allOf opd capsO.toList, P.funcs[f]? with
        | some caps, some G => match G.body, G.results with
          | some cg, ⟨[]⟩ => bif noneOf o1.guard && noneOf o2.guard && noneOf o2.dst && Nat.beq d d' && Nat.blt d F.ntmps && Nat.blt d 4294967296 && !(G.name == "runtime.NumGoroutine") && !(F.name == "runtime.NumGoroutine")
            then some ⟨As.map (convC P F.ntmps), d, f, caps, convC P G.ntmps cg, convC P F.ntmps B, r⟩ else none
          | _, _ => none
        | _, _ => none
      | _, _, _ => none
    | none => none
  | _, _ => none

theorem noneOf_eq {α : Type} {x : Option α} (h : noneOf x = true) : x = none := by cases x <;> first | rfl | cases h

theorem convDf_ok {P : Program} {ih : Run} (hih : RSound P ih) {f0 n : Nat} {F : Func} (hF : P.funcs[f0]? = some F) {x : DFunc} (h : convDf P n F = some x) : EntryOk P f0 (x.entry ih) := by
  unfold convDf at h
  split at h
  · rename_i c r hb hr
    split at h
    · rename_i As id o1 o2 B hsp
      split at h
      · rename_i f capsO d d' ats h1 h2 h3
        split at h
        · rename_i caps G hcaps hG
          split at h
          · rename_i cg hGb hGr
            cases hc : (noneOf o1.guard && noneOf o2.guard && noneOf o2.dst && Nat.beq d d' && Nat.blt d F.ntmps && Nat.blt d 4294967296 && !(G.name == "runtime.NumGoroutine") && !(F.name == "runtime.NumGoroutine")) with
            | false => rw [hc] at h; cases h
            | true =>
              rw [hc] at h
              simp only [cond_true, Option.some.injEq] at h
              subst h
              simp only [Bool.and_eq_true, Bool.not_eq_true'] at hc
              obtain ⟨⟨⟨⟨⟨⟨⟨c1, c2⟩, c3⟩, c4⟩, c5⟩, c6⟩, c7⟩, c8⟩ := hc
              have c4 := Nat.eq_of_beq_eq_true c4
              subst c4
              have hbody := splitN_eq n c hsp
              rw [hbody] at hb
              exact dfer_ok hih hF c8 hb h1 h2 (noneOf_eq c1) h3 (noneOf_eq c3) (noneOf_eq c2) hcaps hr hG c7 hGb hGr (blt_lt c5) (blt_lt c6)
          · cases h
        · cases h
      · cases h
    · cases h
  · cases h
end Go.Ev
