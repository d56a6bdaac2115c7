/- Memory as a function; one operation, a call or none; the frame rule. -/
import Derived.Test.YtgkcpkhifgnjoaaGreatDoorEvO
namespace Go.Ev
open Go

abbrev G := Pos → Option AObj

structure RepG (m : PM) (g : G) (w : World) : Prop where
  obj : ∀ id o, g id = some o → ∃ s, m id = some s ∧ s.blk < w.heap.size ∧ ORep m w s o
  inj : ∀ id id' o o' s s', g id = some o → g id' = some o' → m id = some s → m id' = some s' → s.blk = s'.blk → id = id'

structure ExtG (m : PM) (g : G) (w : World) (m' : PM) (g' : G) (w' : World) : Prop where
  le : PLe m m'
  size : w.heap.size ≤ w'.heap.size
  keep : ∀ b, b < w.heap.size → (∀ id o s, g id = some o → m id = some s → s.blk ≠ b) → w'.heap[b]? = w.heap[b]?
  dom : ∀ id o s, g' id = some o → m' id = some s → s.blk < w.heap.size → ∃ id0 o0 s0, g id0 = some o0 ∧ m id0 = some s0 ∧ s0.blk = s.blk
  tape : w'.tape = w.tape
  os : w'.os = w.os
  out : w'.output = w.output

structure DoneG (m : PM) (g : G) (nx : Pos) (w : World) (m' : PM) (g' : G) (nx' : Pos) (w' : World) : Prop where
  rep : RepG m' g' w'
  ext : ExtG m g w m' g' w'
  only : Only m m' nx nx'

theorem Rep.toG {m : PM} {h : H} {w : World} (hr : Rep m h w) : RepG m h.get w := ⟨hr.obj, hr.inj⟩
theorem RepG.toRep {m : PM} {h : H} {w : World} (hr : RepG m h.get w) : Rep m h w := ⟨hr.obj, hr.inj⟩
theorem Ext.toG {m m' : PM} {h h' : H} {w w' : World} (x : Ext m h w m' h' w') : ExtG m h.get w m' h'.get w' := ⟨x.le, x.size, x.keep, x.dom, x.tape, x.os, x.out⟩
theorem Done.toG {m m' : PM} {h h' : H} {nx nx' : Pos} {w w' : World} (x : Done m h nx w m' h' nx' w') : DoneG m h.get nx w m' h'.get nx' w' := ⟨x.rep.toG, x.ext.toG, x.only⟩

theorem ExtG.refl (m : PM) (g : G) (w : World) : ExtG m g w m g w :=
  ⟨PLe.refl m, Nat.le_refl _, fun _ _ _ => rfl, fun id o s h1 h2 _ => ⟨id, o, s, h1, h2, rfl⟩, rfl, rfl, rfl⟩

theorem ExtG.trans {m m' m'' : PM} {g g' g'' : G} {w w' w'' : World} (a : ExtG m g w m' g' w') (b : ExtG m' g' w' m'' g'' w'') : ExtG m g w m'' g'' w'' := {
  le := a.le.trans b.le
  size := Nat.le_trans a.size b.size
  keep := fun k hk hn => by
    rw [b.keep k (Nat.lt_of_lt_of_le hk a.size) ?_, a.keep k hk hn]
    intro id o s h1 h2 h3
    obtain ⟨id0, o0, s0, g1, g2, g3⟩ := a.dom id o s h1 h2 (by omega)
    exact hn id0 o0 s0 g1 g2 (by omega)
  dom := fun id o s h1 h2 h3 => by
    obtain ⟨id0, o0, s0, g1, g2, g3⟩ := b.dom id o s h1 h2 (Nat.lt_of_lt_of_le h3 a.size)
    obtain ⟨id1, o1, s1, k1, k2, k3⟩ := a.dom id0 o0 s0 g1 g2 (by omega)
    exact ⟨id1, o1, s1, k1, k2, by omega⟩
  tape := b.tape.trans a.tape
  os := b.os.trans a.os
  out := b.out.trans a.out }

theorem DoneG.refl {m : PM} {g : G} {nx : Pos} {w : World} (hr : RepG m g w) : DoneG m g nx w m g nx w := ⟨hr, ExtG.refl m g w, Only.refl m nx nx⟩

theorem DoneG.trans {m m' m'' : PM} {g g' g'' : G} {a b c : Pos} {w w' w'' : World} (x : DoneG m g a w m' g' b w') (y : DoneG m' g' b w' m'' g'' c w'') (hab : a.toNat ≤ b.toNat) (hbc : b.toNat ≤ c.toNat) :
    DoneG m g a w m'' g'' c w'' :=
  ⟨y.rep, x.ext.trans y.ext, fun id hid => by rw [y.only id (by omega), x.only id (by omega)]⟩

def Sub (A g : G) : Prop := ∀ id o, A id = some o → g id = some o

theorem RepG.sub {m : PM} {A g : G} {w : World} (hr : RepG m g w) (hs : Sub A g) : RepG m A w :=
  ⟨fun id o h => hr.obj id o (hs _ _ h), fun a b o1 o2 s1 s2 g1 g2 => hr.inj a b o1 o2 s1 s2 (hs _ _ g1) (hs _ _ g2)⟩

theorem ExtG.sub {m m' : PM} {A C C' : G} {w w' : World} (x : ExtG m A w m' C w') (hs : Sub C' C) : ExtG m A w m' C' w' :=
  { x with dom := fun id o s h => x.dom id o s (hs _ _ h) }

/-- A stretch of memory turned into another. -/
def upd (A C g : G) : G := fun id => match C id with
  | some o => some o
  | none => match A id with
    | some _ => none
    | none => g id

theorem upd_cases {A C g : G} {id : Pos} {o : AObj} (h : upd A C g id = some o) : C id = some o ∨ (C id = none ∧ A id = none ∧ g id = some o) := by
  unfold upd at h
  split at h
  · rename_i o' hc; left; rw [hc]; exact h
  · rename_i hc
    split at h
    · cases h
    · rename_i ha; exact .inr ⟨hc, ha, h⟩

/-- What is told of a stretch of memory holds in any memory that it is a stretch of. -/
theorem frame {m m' : PM} {A C g : G} {nx nx' : Pos} {w w' : World} (hr : RepG m g w) (hs : Sub A g) (d : DoneG m A nx w m' C nx' w') : DoneG m g nx w m' (upd A C g) nx' w' := by
  have old : ∀ id o, A id = none → g id = some o → ∃ s, m id = some s ∧ m' id = some s ∧ s.blk < w.heap.size ∧ ORep m w s o ∧ w'.heap[s.blk]? = w.heap[s.blk]? := by
    intro id o ha hg
    obtain ⟨s, h1, h2, h3⟩ := hr.obj id o hg
    refine ⟨s, h1, d.ext.le _ _ h1, h2, h3, d.ext.keep _ h2 fun id0 o0 s0 g1 g2 e => ?_⟩
    have := hr.inj id0 id o0 o s0 s (hs _ _ g1) hg g2 h1 e
    subst this; rw [g1] at ha; cases ha
  have meet : ∀ id id' o o' s s', C id = some o → A id' = none → g id' = some o' → m' id = some s → m' id' = some s' → s.blk = s'.blk → False := by
    intro id id' o o' s s' hc ha hg h1 h2 e
    obtain ⟨s'', k1, k2, k3, _⟩ := old id' o' ha hg
    rw [h2] at k2; cases k2
    obtain ⟨id0, o0, s0, g1, g2, g3⟩ := d.ext.dom id o s hc h1 (by omega)
    have := hr.inj id0 id' o0 o' s0 s' (hs _ _ g1) hg g2 k1 (by omega)
    subst this; rw [g1] at ha; cases ha
  refine ⟨⟨?_, ?_⟩, ⟨d.ext.le, d.ext.size, ?_, ?_, d.ext.tape, d.ext.os, d.ext.out⟩, d.only⟩
  · intro id o h
    rcases upd_cases h with hc | ⟨_, ha, hg⟩
    · exact d.rep.obj id o hc
    · obtain ⟨s, h1, h2, h3, h4, h5⟩ := old id o ha hg
      exact ⟨s, h2, Nat.lt_of_lt_of_le h3 d.ext.size, h4.move d.ext.le h5⟩
  · intro id id' o o' s s' h h' k k' e
    rcases upd_cases h with hc | ⟨_, ha, hg⟩ <;> rcases upd_cases h' with hc' | ⟨_, ha', hg'⟩
    · exact d.rep.inj id id' o o' s s' hc hc' k k' e
    · exact (meet id id' o o' s s' hc ha' hg' k k' e).elim
    · exact (meet id' id o' o s' s hc' ha hg k' k e.symm).elim
    · obtain ⟨t, h1, h2, _⟩ := old id o ha hg
      obtain ⟨t', h1', h2', _⟩ := old id' o' ha' hg'
      rw [k] at h2; cases h2
      rw [k'] at h2'; cases h2'
      exact hr.inj id id' o o' s s' hg hg' h1 h1' e
  · intro b hb hn
    exact d.ext.keep b hb fun id o s h1 h2 => hn id o s (hs _ _ h1) h2
  · intro id o s h h1 h2
    rcases upd_cases h with hc | ⟨_, ha, hg⟩
    · obtain ⟨id0, o0, s0, g1, g2, g3⟩ := d.ext.dom id o s hc h1 h2
      exact ⟨id0, o0, s0, hs _ _ g1, g2, g3⟩
    · obtain ⟨t, k1, k2, _⟩ := old id o ha hg
      rw [h1] at k2; cases k2
      exact ⟨id, o, s, hg, k1, rfl⟩

/-! ### one operation -/

/-- What a call of a function does. -/
def CallOk (P : Program) (f : FuncId) (args : Array Value) (w : World) (T : Value → World → Prop) : Prop :=
  (∃ V w', (callFunc f args).run P w = .ok (.value V) w' ∧ T V w') ∨
  ((callFunc f args).run P w = .ok (.enter f args) w ∧ Calls P f args w fun e w' => ∃ V, e = .returned V ∧ T V w')

def CallSem (P : Program) (f : FuncId) (args : List AV) (g : G) (nx : Pos) (v : AV) (g' : G) (nx' : Pos) : Prop :=
  nx.toNat ≤ nx'.toNat ∧ ∀ m w L, RepG m g w → LRel m args L → Free m nx nx' →
    CallOk P f L.toArray w fun V w' => ∃ m', VRel m' v V ∧ DoneG m g nx w m' g' nx' w'

/-- A way to call that keeps to what the model does. -/
def CallSound (P : Program) (call : CallK) : Prop := ∀ f args h nx k, call f args h nx k = true → ∃ v h' nx', k v h' nx' = true ∧ CallSem P f args h.get nx v h'.get nx'

/-- What an operation does, with what stands in its slots. -/
def OSem (P : Program) (o : Oper) (ρ : Fr) (g : G) (nx : Pos) (v : AV) (g' : G) (nx' : Pos) : Prop :=
  nx.toNat ≤ nx'.toNat ∧ ∀ m w a, RepG m g w → FRel m ρ a → Free m nx nx' → ∀ (b : Act) K Q,
    (∀ m' w' V, VRel m' v V → DoneG m g nx w m' g' nx' w' → K (b.put o.dst V) w') → o.upon P b K Q ((execOp a.eval o).run P w)

theorem OpSem.toO {P : Program} {o : Oper} {ρ : Fr} {h h' : H} {nx nx' : Pos} {v : AV} (s : OpSem P o ρ h nx v h' nx') : OSem P o ρ h.get nx v h'.get nx' := by
  refine ⟨s.1, fun m w a hr hf hfr b K Q hK => ?_⟩
  obtain ⟨m', w', r, h1, h2, h3⟩ := s.2 m w a hr.toRep hf hfr
  rw [h1]
  cases r with
  | value V => exact hK m' w' V h2 h3.toG
  | skip =>
    have h2 : v = undefA := h2
    subst h2
    exact hK m' w' undef ⟨[], rfl, rfl⟩ h3.toG
  | _ => exact h2.elim

theorem CallOk.upon {P : Program} {f : FuncId} {args : Array Value} {w : World} {T : Value → World → Prop} {o : Oper} {a : Act} {K : Act → World → Prop} {Q : Exit → Act → World → Prop} (h : CallOk P f args w T)
    (he : (execOp a.eval o).run P w = (callFunc f args).run P w) {b : Act} (hK : ∀ V w', T V w' → K (b.put o.dst V) w') : o.upon P b K Q ((execOp a.eval o).run P w) := by
  rw [he]
  rcases h with ⟨V, w', h1, h2⟩ | ⟨h1, h2⟩
  · rw [h1]; exact hK V w' h2
  · rw [h1]
    refine Calls.mono h2 ?_
    rintro e w' ⟨V, rfl, h⟩
    exact hK V w' h

theorem opd_fn {x : Operand} {y : Opd} (hx : opd x = some y) {m : PM} {ρ : Fr} {a : Act} (hf : FRel m ρ a) {f : Nat} {caps : List AV} (hev : ev ρ y = .fn f caps) :
    ∃ L, LRel m caps L ∧ a.eval x = .func (.func f) #[] L.toArray := by
  have := opd_sound hx hf; rw [hev] at this; exact this

theorem exec_call {P : Program} {o : Oper} {c : Call} (ho : o.op = .call c) {x : Operand} (hc : c.callee = .value x) (a : Act) (w : World) {f : FuncId} {caps : Array Value} (hx : a.eval x = .func (.func f) #[] caps) :
    (execOp a.eval o).run P w = (callFunc f (c.args.map a.eval ++ caps)).run P w := by
  simp [execOp, ho, resolve, hc, hx, Deferred.ofValue, invoke]

theorem conv_call {P : Program} {o : Oper} {f : Nat} {args : List Opd} (h : conv P o = .call f args) : ∃ c, o.op = .call c ∧ c.callee = .value (.func f) ∧ allOf opd c.args.toList = some args := by
  unfold conv at h
  repeat' split at h
  all_goals first
    | (cases h; done)
    | (simp only [OpK.call.injEq] at h; obtain ⟨rfl, rfl⟩ := h; exact ⟨_, by assumption, by assumption, by assumption⟩)
    | (simp only [cond_eq_ite] at h; (repeat' split at h) <;> cases h)

theorem conv_callV {P : Program} {o : Oper} {f : Opd} {args : List Opd} (h : conv P o = .callV f args) : ∃ c x, o.op = .call c ∧ c.callee = .value x ∧ opd x = some f ∧ allOf opd c.args.toList = some args := by
  unfold conv at h
  repeat' split at h
  all_goals first
    | (cases h; done)
    | (simp only [OpK.callV.injEq] at h; obtain ⟨rfl, rfl⟩ := h; exact ⟨_, _, by assumption, by assumption, by assumption, by assumption⟩)
    | (simp only [cond_eq_ite] at h; (repeat' split at h) <;> cases h)

theorem oneK_sound {P : Program} {call : CallK} (hcall : CallSound P call) {o : Oper} {ρ : Fr} {h : H} {nx : Pos} {k : AV → H → Pos → Bool} (hk : oneK call ρ h nx (conv P o) k = true) :
    ∃ v h' nx', k v h' nx' = true ∧ OSem P o ρ h.get nx v h'.get nx' := by
  unfold oneK at hk
  split at hk
  · rename_i f args hc
    obtain ⟨v, h', nx', h1, h2, h3⟩ := hcall _ _ _ _ _ hk
    obtain ⟨c, ho, hcc, ha⟩ := conv_call hc
    refine ⟨v, h', nx', h1, h2, fun m w a hr hf hfr b K Q hK => ?_⟩
    refine (h3 m w _ hr (opds_sound hf ha) hfr).upon ?_ fun V w' ⟨m', e1, e2⟩ => hK m' w' V e1 e2
    have e : Array.map a.eval c.args = (List.map a.eval c.args.toList).toArray := by rw [← Array.toList_map]
    rw [exec_call ho hcc a w rfl, e]; simp
  · rename_i fo args hc
    split at hk
    · rename_i f caps hev
      obtain ⟨v, h', nx', h1, h2, h3⟩ := hcall _ _ _ _ _ hk
      obtain ⟨c, x, ho, hcc, hx, ha⟩ := conv_callV hc
      refine ⟨v, h', nx', h1, h2, fun m w a hr hf hfr b K Q hK => ?_⟩
      obtain ⟨L, g1, g2⟩ := opd_fn hx hf hev
      refine (h3 m w _ hr ((opds_sound hf ha).append g1) hfr).upon ?_ fun V w' ⟨m', e1, e2⟩ => hK m' w' V e1 e2
      have e : Array.map a.eval c.args = (List.map a.eval c.args.toList).toArray := by rw [← Array.toList_map]
      rw [exec_call ho hcc a w g2, e]; simp
    · exact bad_ne hk
  · obtain ⟨v, h', nx', h1, h2⟩ := simple_sound (P := P) (o := o) (ρ := ρ) (h := h) (nx := nx) (K := k) hk
    exact ⟨v, h', nx', h1, h2.toO⟩

end Go.Ev
