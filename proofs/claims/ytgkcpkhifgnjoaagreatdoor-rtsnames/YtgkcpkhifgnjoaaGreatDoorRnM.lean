/- A call that was reckoned apart: its answer, where its argument and what it reaches stand as they stood there. -/
import Derived.Test.YtgkcpkhifgnjoaaGreatDoorDfB
namespace Go.Ev
open Go

structure Memo where
  nx : Pos
  arg : AV
  ids : List (Pos × AObj)
  v : AV
  nx' : Pos

def heapL : List (Pos × AObj) → H
  | [] => .e
  | (id, o) :: l => T.set (some o) id (heapL l)

theorem heapL_get : ∀ {l : List (Pos × AObj)} {p : Pos} {o : AObj}, (heapL l).get p = some o → (p, o) ∈ l
  | [], p, o, h => by simp [heapL] at h
  | (id, o') :: l, p, o, h => by
    simp only [heapL] at h
    by_cases e : id = p
    · subst e; rw [T.get_set_same] at h; cases h; simp
    · rw [T.get_set_other _ _ _ _ e] at h
      exact List.mem_cons_of_mem _ (heapL_get h)

/-- Do these blocks stand so? -/
def stand (h : H) : List (Pos × AObj) → Bool
  | [] => true
  | (id, o) :: l => (match h.get id with | some o' => o'.beq o | none => false) && stand h l

theorem stand_get {h : H} : ∀ {l : List (Pos × AObj)}, stand h l = true → ∀ p o, (p, o) ∈ l → h.get p = some o
  | [], _, p, o, hm => by simp at hm
  | (id, o') :: l, hs, p, o, hm => by
    simp only [stand, Bool.and_eq_true] at hs
    simp only [List.mem_cons, Prod.mk.injEq] at hm
    rcases hm with ⟨rfl, rfl⟩ | hm
    · cases hg : h.get p with
      | none => rw [hg] at hs; cases hs.1
      | some o2 => rw [hg] at hs; rw [AObj.beq_eq hs.1]
    · exact stand_get hs.2 p o hm

/-- What is asked of a run. -/
def Memo.want (x : Memo) (v : AV) (h : H) (nx : Pos) : Bool := v.beq x.v && nx.beq x.nx' && stand h x.ids

/-- What a run told. -/
def Memo.Ok (P : Program) (f : Nat) (x : Memo) : Prop := ∃ v h' nx', x.want v h' nx' = true ∧ CallSem P f [x.arg] (heapL x.ids).get x.nx v h'.get nx'

def memoX : List Memo → List AV → H → Pos → (AV → H → Pos → Bool) → Bool
  | [], _, _, _, _ => bad "memo"
  | x :: l, args, h, nx, k => bif nx.beq x.nx then (match args with
      | [a] => bif a.beq x.arg && stand h x.ids then k x.v h x.nx' else bad "memo: not so"
      | _ => bad "memo: arguments")
    else memoX l args h nx k

theorem memo_sem {P : Program} {f : Nat} {x : Memo} (hx : x.Ok P f) {h : H} (hs : stand h x.ids = true) : CallSem P f [x.arg] h.get x.nx x.v h.get x.nx' := by
  obtain ⟨v, h', nx', hw, hle, hsem⟩ := hx
  simp only [Memo.want, Bool.and_eq_true] at hw
  obtain ⟨⟨w1, w2⟩, w3⟩ := hw
  have w1 := AV.beq_eq w1
  have w2 := (Pos.beq_iff _ _).1 w2
  subst w1; subst w2
  have hsub : Sub (heapL x.ids).get h.get := fun id o hg => stand_get hs id o (heapL_get hg)
  refine ⟨hle, fun m w L hr hl hfr => ?_⟩
  have fin : ∀ V w', (∃ m', VRel m' x.v V ∧ DoneG m (heapL x.ids).get x.nx w m' h'.get x.nx' w') → ∃ m', VRel m' x.v V ∧ DoneG m h.get x.nx w m' h.get x.nx' w' := by
    rintro V w' ⟨m', hv, d⟩
    have d2 := frame hr hsub d
    have hsame : Sub h.get (upd (heapL x.ids).get h'.get h.get) := by
      intro id o hg
      unfold upd
      cases hA : (heapL x.ids).get id with
      | some oA =>
        have h1 := hsub id oA hA
        have h2 : o = oA := by rw [hg] at h1; exact Option.some.inj h1
        subst h2
        rw [stand_get w3 id o (heapL_get hA)]
      | none =>
        cases hC : h'.get id with
        | none => exact hg
        | some oC =>
          exfalso
          obtain ⟨s, k1, k2, k3⟩ := hr.obj id o hg
          have k4 := d.ext.le _ _ k1
          obtain ⟨id0, o0, s0, j1, j2, j3⟩ := d.ext.dom id oC s hC k4 k2
          have := hr.inj id0 id o0 o s0 s (hsub _ _ j1) hg j2 k1 j3
          subst this
          rw [hA] at j1; cases j1
    exact ⟨m', hv, ⟨d2.rep.sub hsame, d2.ext.sub hsame, d2.only⟩⟩
  rcases hsem m w L (hr.sub hsub) hl hfr with ⟨V, w', e1, e2⟩ | ⟨e1, e2⟩
  · exact .inl ⟨V, w', e1, fin V w' e2⟩
  · refine .inr ⟨e1, Calls.mono e2 ?_⟩
    rintro e w' ⟨V, rfl, h2⟩
    exact ⟨V, rfl, fin V w' h2⟩

theorem memo_ok {P : Program} {f : Nat} : ∀ {l : List Memo}, (∀ x ∈ l, x.Ok P f) → EntryOk P f (.ext (memoX l))
  | [], _ => fun args h nx k hk => bad_ne hk
  | x :: l, hl => fun args h nx k hk => by
    simp only [memoX] at hk
    cases hb : nx.beq x.nx with
    | false =>
      rw [hb] at hk
      exact memo_ok (fun y hy => hl y (List.mem_cons_of_mem _ hy)) args h nx k hk
    | true =>
      rw [hb] at hk; simp only [cond_true] at hk
      have := (Pos.beq_iff _ _).1 hb
      subst this
      split at hk
      · rename_i a
        cases hc : (a.beq x.arg && stand h x.ids) with
        | false => rw [hc] at hk; exact bad_ne hk
        | true =>
          rw [hc] at hk; simp only [cond_true] at hk
          simp only [Bool.and_eq_true] at hc
          have e := AV.beq_eq hc.1
          subst e
          exact ⟨_, _, _, hk, memo_sem (hl x (by simp)) hc.2⟩
      · exact bad_ne hk

theorem memo_of_run {P : Program} {prog : PT} (hP : P.follows .mixedOrders = true) (hT : TableSound P prog) (n : Nat) {f : Nat} {x : Memo} (hk : callK prog (run prog n) f [x.arg] (heapL x.ids) x.nx x.want = true) : x.Ok P f := by
  obtain ⟨v, h', nx', h1, h2⟩ := eval_sound hP hT n hk
  exact ⟨v, h', nx', h1, h2⟩
end Go.Ev
