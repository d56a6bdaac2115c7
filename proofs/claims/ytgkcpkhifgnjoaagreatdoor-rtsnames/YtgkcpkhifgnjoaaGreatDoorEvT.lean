/- Regions, in order or in any order. -/
import Derived.Test.YtgkcpkhifgnjoaaGreatDoorEvS
import Derived.Conc.LoneCalls
import Derived.Conc.LoneSelect
namespace Go.Ev
open Go

section
variable {P : Program} {ops : Array Oper}

theorem wantedK_sound {o : Oper} {gd : Option (Pos × Bool)} (hg : guardOf ops o = some gd) {m : PM} {ρ : Fr} {a : Act} (hf : ∀ t, t ∈ o.looksAt ops → t < 4294967296 → VRel m (getF ρ (pos t)) (a.tmps.getD t undef)) :
    wantedK ρ gd = Region.wanted o (yielded ops a.tmps) := by
  unfold guardOf at hg
  cases hgu : o.guard with
  | none => rw [hgu] at hg; simp at hg; subst hg; simp [wantedK, Region.wanted, hgu]
  | some jw =>
    obtain ⟨j, want⟩ := jw
    rw [hgu] at hg
    simp only at hg
    split at hg
    · rename_i d hd
      split at hg
      · rename_i hlt
        simp at hg; subst hg
        have hmem : d ∈ o.looksAt ops := by simp [Oper.looksAt, hgu, hd]
        have h1 := hf d hmem hlt
        have hy : yielded ops a.tmps j = match a.tmps.getD d undef with | .bool b => some b | _ => none := by
          unfold yielded
          rw [hd]
          simp only [Option.bind_some, Array.getD_eq_getD_getElem?]
          cases a.tmps[d]? with
          | none => rfl
          | some V => cases V <;> rfl
        simp only [wantedK, Region.wanted, hgu, hy]
        unfold getF at h1
        cases hρ : ρ.get (pos d) with
        | none =>
          rw [hρ] at h1
          obtain ⟨L, _, h1⟩ := h1
          rw [h1]; simp
        | some v =>
          rw [hρ] at h1
          simp only [Option.getD_some] at h1
          cases v with
          | bool c =>
            have h1 : a.tmps.getD d undef = .bool c := h1
            rw [h1]; cases c <;> cases want <;> rfl
          | fn f caps => obtain ⟨L, _, h1⟩ := h1; rw [h1]; simp
          | agg l => obtain ⟨L, _, h1⟩ := h1; rw [h1]; simp
          | tup l => obtain ⟨L, _, h1⟩ := h1; rw [h1]; simp
          | iface t v => obtain ⟨U, _, h1⟩ := h1; rw [h1]; simp
          | ptr id off => obtain ⟨s, _, h1⟩ := h1; rw [h1]; simp
          | slice id off l c => obtain ⟨s, _, h1⟩ := h1; rw [h1]; simp
          | gsl id es lo len => obtain ⟨s, _, _, h1⟩ := h1; rw [h1]; simp
          | gend id => obtain ⟨s, _, h1⟩ := h1; rw [h1]; simp
          | map id => obtain ⟨s, _, h1⟩ := h1; rw [h1]; simp
          | chan id => obtain ⟨s, _, h1⟩ := h1; rw [h1]; simp
          | int k n => have h1 : a.tmps.getD d undef = _ := h1; rw [h1]; simp
          | str n v => have h1 : a.tmps.getD d undef = _ := h1; rw [h1]; simp
          | nilPtr => have h1 : a.tmps.getD d undef = _ := h1; rw [h1]; simp
          | nilSl => have h1 : a.tmps.getD d undef = _ := h1; rw [h1]; simp
          | nilMap => have h1 : a.tmps.getD d undef = _ := h1; rw [h1]; simp
          | nilChan => have h1 : a.tmps.getD d undef = _ := h1; rw [h1]; simp
          | nilFn => have h1 : a.tmps.getD d undef = _ := h1; rw [h1]; simp
          | nilIface => have h1 : a.tmps.getD d undef = _ := h1; rw [h1]; simp
          | opq U => obtain ⟨h1, h2⟩ := h1; rw [h1]; cases U <;> first | (cases h2; done) | simp
      · cases hg
    · cases hg

/-- An operation converted: as it should be, or bad. -/
theorem convOp_cases (P : Program) (nt : Nat) (ops : Array Oper) (o : Oper) :
    (∃ g, guardOf ops o = some g ∧ (∀ d, o.dst = some d → d < nt ∧ d < 4294967296) ∧ convOp P nt ops o = { dst := o.dst.map pos, guard := g, op := conv P o }) ∨
    convOp P nt ops o = { dst := none, guard := none, op := .bad "op" } := by
  unfold convOp
  split
  · rename_i g hg hd
    refine .inl ⟨g, hg, fun d hd' => ?_, rfl⟩
    rw [hd'] at hd
    simpa using hd
  · exact .inr rfl

theorem FRel.put {m : PM} {ρ : Fr} {a : Act} (h : FRel m ρ a) {d : Option Nat} {v : AV} {V : Value} (hv : VRel m v V) (hd : ∀ x, d = some x → x < a.tmps.size) {ρ' : Fr} (e : frF ρ' = putF (frF ρ) d v) : FRel m ρ' (a.put d V) := by
  rw [frel_iff, e]
  exact (frel_iff.1 h).put hv hd

theorem undef_rel (m : PM) : VRel m undefA undef := ⟨[], rfl, rfl⟩

/-! ### in order -/
/-- The rest of a region in its order, from the machine's side. -/
def wpIR (P : Program) (ops : Array Oper) (Q : Exit → Act → World → Prop) (l : List Nat) (a : Act) (w : World) : Prop :=
  ∀ (b : Frame) (k : List Item) (cs : List Frame), ∃ e a' w', Q e a' w' ∧ Arrives P (lone (b.at a (.inRegion ops l :: k)) cs w) b k cs e a' w'

theorem wpIR_nil {Q : Exit → Act → World → Prop} {a : Act} {w : World} (h : Q .normal a w) : wpIR P ops Q [] a w := fun _ _ _ => ⟨.normal, a, w, h, .one step_region_end⟩

theorem wpIR_skip {Q : Exit → Act → World → Prop} {a : Act} {w : World} {i : Nat} {l : List Nat} {o : Oper} (ho : ops[i]? = some o) (hw : Region.wanted o (yielded ops a.tmps) = false) (h : wpIR P ops Q l (a.put o.dst undef) w) : wpIR P ops Q (i :: l) a w := by
  intro b k cs
  obtain ⟨e, a', w', hq, harr⟩ := h b k cs
  have hs := step_op_skip (P := P) (b := b) (a := a) (k := k) (cs := cs) (w := w) (ops := ops) (i := i) (rest := l) (by simp [ho]; simpa using hw)
  simp only [ho, Option.bind_some] at hs
  exact ⟨e, a', w', hq, .of_steps (.one hs) harr⟩

theorem wpIR_upon {Q : Exit → Act → World → Prop} {a : Act} {w : World} {i : Nat} {l : List Nat} {o : Oper} (ho : ops[i]? = some o) (hw : Region.wanted o (yielded ops a.tmps) = true)
    (h : o.upon P a (wpIR P ops Q l) (fun _ _ _ => False) ((execOp a.eval o).run P w)) : wpIR P ops Q (i :: l) a w := by
  intro b k cs
  have hg := stepG_op (P := P) (b := b) (k := k) (cs := cs) (w := w) (rest := l) ho hw
  have hfin : ∀ v, (b.at a (.inRegion ops (i :: l) :: k)).finish v = b.at (a.put o.dst v) (.inRegion ops l :: k) := fun v => by rw [Frame.finish_at, ho]; rfl
  unfold Oper.upon at h
  split at h
  · rename_i v w' hr
    obtain ⟨e, a', w2, hq, harr⟩ := h b k cs
    exact ⟨e, a', w2, hq, .of_steps (.one (step_lone_go (by rw [hg, ← hfin]; simp [stepG.apply, hr]))) harr⟩
  · rename_i w' hr
    obtain ⟨e, a', w2, hq, harr⟩ := h b k cs
    exact ⟨e, a', w2, hq, .of_steps (.one (step_lone_go (by rw [hg, ← hfin]; simp [stepG.apply, hr]))) harr⟩
  · rename_i d w' hr
    obtain ⟨e, a', w2, hq, harr⟩ := h b k cs
    refine ⟨e, a', w2, hq, .of_steps (.one (step_lone_go ?_)) harr⟩
    have e1 : ({ b.at a (.inRegion ops (i :: l) :: k) with defers := d :: a.defers } : Frame).finish undef = b.at ({ a with defers := d :: a.defers }.put o.dst undef) (.inRegion ops l :: k) := by
      have := Frame.finish_at b { a with defers := d :: a.defers } ops i l k undef
      rw [ho] at this; exact this
    rw [hg]; simp only [stepG.apply, Sem.runT_eq, hr, GStep.bare_after]
    exact congrArg (fun fr => GStep.go { frame := fr, callers := cs, status := .running, dying := none } w') e1
  · rename_i f args w' hr
    obtain ⟨e, w2, fr, hR, hsteps, _, hleave⟩ := h (b.at a (.inRegion ops (i :: l) :: k) :: cs)
    have henter : step P (lone (b.at a (.inRegion ops (i :: l) :: k)) cs w) = .next (lone (Frame.enter P f args .normal) (b.at a (.inRegion ops (i :: l) :: k) :: cs) w') :=
      step_lone_go (by rw [hg]; simp [stepG.apply, hr, Frame.at])
    cases e with
    | returned v =>
      obtain ⟨e, a', w3, hq, harr⟩ := hR b k cs
      exact ⟨e, a', w3, hq, .of_steps (.head henter (hsteps.trans (.one (by rw [← hfin]; exact step_leave_returned hleave)))) harr⟩
    | panicked chain => exact hR.elim
    | outgrown => obtain ⟨_, _, hq⟩ := hR; exact hq.elim
  · rename_i row args w' hr
    obtain ⟨v, w2, hR, hsteps⟩ := h (b.at a (.inRegion ops (i :: l) :: k)) cs
    have henter : step P (lone (b.at a (.inRegion ops (i :: l) :: k)) cs w) = .next (lone (Frame.ofRow P row args .normal) (b.at a (.inRegion ops (i :: l) :: k) :: cs) w') :=
      step_lone_go (by rw [hg]; simp [stepG.apply, hr, Frame.at])
    obtain ⟨e, a', w3, hq, harr⟩ := hR b k cs
    exact ⟨e, a', w3, hq, .of_steps (.head henter (by rw [← hfin]; exact hsteps)) harr⟩
  · exact h.elim
  · exact h.elim

/-- A step that is handed up to the machine. -/
theorem wpIR_step {Q : Exit → Act → World → Prop} {a : Act} {w w' : World} {i : Nat} {l : List Nat} {o : Oper} (ho : ops[i]? = some o) {v : Value}
    (hs : ∀ (b : Frame) (k : List Item) (cs : List Frame), step P (lone (b.at a (.inRegion ops (i :: l) :: k)) cs w) = .next (lone ((b.at a (.inRegion ops (i :: l) :: k)).finish v) cs w'))
    (h : wpIR P ops Q l (a.put o.dst v) w') : wpIR P ops Q (i :: l) a w := by
  intro b k cs
  obtain ⟨e, a', w2, hq, harr⟩ := h b k cs
  refine ⟨e, a', w2, hq, .of_steps (.one ?_) harr⟩
  rw [hs b k cs, Frame.finish_at, ho]; rfl

theorem conv_send {o : Oper} {c' v' : Opd} (h : conv P o = .send c' v') : ∃ c v, o.op = .send c v ∧ opd c = some c' ∧ opd v = some v' := by
  unfold conv at h
  repeat' split at h
  all_goals first
    | (cases h; done)
    | (simp only [OpK.send.injEq] at h; obtain ⟨rfl, rfl⟩ := h; exact ⟨_, _, by assumption, by assumption, by assumption⟩)
    | (simp only [cond_eq_ite] at h; (repeat' split at h) <;> cases h)

theorem conv_selR {o : Oper} {c' : Opd} {z : AV} (h : conv P o = .selR c' z) : ∃ s : SelectCase, o.op = .select #[s] false ∧ s.send = none ∧ opd s.chan = some c' ∧ zerosOf P s.elem = some z := by
  have fin : ∀ (cs : Array SelectCase) (b : Bool) (s : SelectCase), o.op = .select cs b → b = false → cs.toList = [s] → s.send = none → opd s.chan = some c' → zerosOf P s.elem = some z →
      ∃ s : SelectCase, o.op = .select #[s] false ∧ s.send = none ∧ opd s.chan = some c' ∧ zerosOf P s.elem = some z := by
    rintro cs b s h1 rfl h2 h3 h4 h5
    have : cs = #[s] := by rw [← Array.toArray_toList (xs := cs), h2]
    subst this
    exact ⟨s, h1, h3, h4, h5⟩
  unfold conv at h
  repeat' split at h
  all_goals first
    | (cases h; done)
    | (simp only [OpK.selR.injEq] at h; obtain ⟨rfl, rfl⟩ := h; exact fin _ _ _ (by assumption) rfl (by assumption) (by assumption) (by assumption) (by assumption))
    | (simp only [cond_eq_ite] at h; (repeat' split at h) <;> cases h)

/-- What one operation of a region in its order does. -/
theorem opK_sound {call : CallK} (hcall : CallSound P call) {o : Oper} {ρ : Fr} {h : H} {nx : Pos} {k : AV → H → Pos → Bool} (hk : opK call ρ h nx (conv P o) k = true) :
    ∃ v h1 nx1, k v h1 nx1 = true ∧ nx.toNat ≤ nx1.toNat ∧ ∀ m w a, RepG m h.get w → FRel m ρ a → Free m nx nx1 → ∀ (i : Nat) (l : List Nat) (Q : Exit → Act → World → Prop), ops[i]? = some o → Region.wanted o (yielded ops a.tmps) = true →
      (∀ m' w' V, VRel m' v V → DoneG m h.get nx w m' h1.get nx1 w' → wpIR P ops Q l (a.put o.dst V) w') → wpIR P ops Q (i :: l) a w := by
  unfold opK at hk
  split at hk
  · rename_i c' v' hc
    unfold sendK at hk
    split at hk
    · rename_i id hev
      split at hk
      · rename_i cap buf hg
        cases hb : Nat.blt buf.length cap with
        | false => rw [hb] at hk; exact bad_ne hk
        | true =>
          rw [hb] at hk; simp only [cond_true, putObjK_eq] at hk
          have hb := blt_lt hb
          obtain ⟨c, v, hop, hoc, hov⟩ := conv_send hc
          refine ⟨_, _, _, hk, Nat.le_refl _, fun m w a hr hf hfr i l Q ho hw hQ => ?_⟩
          have g1 := opd_sound hoc hf; rw [hev] at g1
          have g2 := opd_sound hov hf
          obtain ⟨s, k1, k2⟩ := g1
          obtain ⟨s', j1, j2, b0, n0, r0, j3, j4⟩ := hr.toRep.obj id _ hg
          rw [k1] at j1; cases j1
          have hbs : b0.size < cap := by have := j4.length; simp at this; omega
          obtain ⟨x1, x2⟩ := hr.toRep.setObj (O := .chan cap (b0.push (a.eval v)) false (n0 + 1) r0 false) (o' := .ch cap (buf ++ [ev ρ v'])) hg k1 ⟨b0.push (a.eval v), n0 + 1, r0, by simp [World.setObj, j2], by simpa using j4.append (g2.mono (PLe.refl m) |> fun h => LRel.nil.cons h)⟩
          refine wpIR_step ho (v := undef) (w' := w.setChan s.blk cap (b0.push (a.eval v)) false (n0 + 1) r0 false) (fun b kk cs => ?_) (hQ m _ undef ⟨[], rfl, rfl⟩ ⟨x1.toG, x2.toG, Only.refl m nx nx⟩)
          have hg := stepG_op (P := P) (b := b) (k := kk) (cs := cs) (w := w) (rest := l) ho hw
          obtain ⟨es, hes⟩ : ∃ es, stepG P true (Go.Conc.G (b.at a (.inRegion ops (i :: l) :: kk)) cs) w = .comm (Go.Conc.G (b.at a (.inRegion ops (i :: l) :: kk)) cs) #[Go.Conc.scase s.blk (a.eval v) (.tuple #[])] true .send w es := by
            have e := hg
            simp [stepG.apply, execOp, hop, k2, GStep.after] at e
            exact ⟨_, e⟩
          exact Go.Conc.step_lone_send_room hes j3 hbs
      · exact bad_ne hk
    · exact bad_ne hk
  · rename_i c' z hc
    obtain ⟨sc, hop, hsn, hoc, hz⟩ := conv_selR hc
    obtain ⟨Z, hZ, hzr⟩ := zerosOf_sound hz
    unfold selK at hk
    split at hk
    · rename_i id hev
      split at hk
      · rename_i cap hg
        refine ⟨_, _, _, hk, Nat.le_refl _, fun m w a hr hf hfr i l Q ho hw hQ => ?_⟩
        have g1 := opd_sound hoc hf; rw [hev] at g1
        obtain ⟨s, k1, k2⟩ := g1
        obtain ⟨s', j1, j2, b0, n0, r0, j3, j4⟩ := hr.toRep.obj id _ hg
        rw [k1] at j1; cases j1
        have hb0 : b0 = #[] := by have := j4.length; simpa using this
        subst hb0
        refine wpIR_step ho (v := .tuple #[goInt (-1), .bool false, Z]) (w' := w) (fun b kk cs => ?_) (hQ m _ _ ⟨[goInt (-1), .bool false, Z], LRel.cons (show VRel m (.int .i64 (.negSucc 0)) (goInt (-1)) from rfl) (LRel.cons (show VRel m (.bool false) (.bool false) from rfl) (LRel.cons (hzr m) LRel.nil)), rfl⟩ (DoneG.refl hr))
        have hg := stepG_op (P := P) (b := b) (k := kk) (cs := cs) (w := w) (rest := l) ho hw
        obtain ⟨es, hes⟩ : ∃ es, stepG P true (Go.Conc.G (b.at a (.inRegion ops (i :: l) :: kk)) cs) w = .comm (Go.Conc.G (b.at a (.inRegion ops (i :: l) :: kk)) cs) #[Go.Conc.rcase s.blk Z] false .select w es := by
          have e := hg
          simp [stepG.apply, execOp, hop, hsn, k2, hZ, GStep.after] at e
          exact ⟨_, e⟩
        exact Go.Conc.step_lone_select_default hes j3
      · rename_i cap v vs hg
        rw [putObjK_eq] at hk
        refine ⟨_, _, _, hk, Nat.le_refl _, fun m w a hr hf hfr i l Q ho hw hQ => ?_⟩
        have g1 := opd_sound hoc hf; rw [hev] at g1
        obtain ⟨s, k1, k2⟩ := g1
        obtain ⟨s', j1, j2, b0, n0, r0, j3, j4⟩ := hr.toRep.obj id _ hg
        rw [k1] at j1; cases j1
        obtain ⟨V, L', h1, h2, h3⟩ := j4
        have hb0 : b0 = (V :: L').toArray := by rw [← h3]
        subst hb0
        obtain ⟨x1, x2⟩ := hr.toRep.setObj (O := .chan cap L'.toArray false n0 (r0 + 1) false) (o' := .ch cap vs) hg k1 ⟨L'.toArray, n0, r0 + 1, by simp [World.setObj, j2], by simpa using h2⟩
        refine wpIR_step ho (v := .tuple #[goInt 0, .bool true, V]) (w' := w.setChan s.blk cap L'.toArray false n0 (r0 + 1) false) (fun b kk cs => ?_) (hQ m _ _ ⟨[goInt 0, .bool true, V], LRel.cons (show VRel m (.int .i64 (.ofNat 0)) (goInt 0) from rfl) (LRel.cons (show VRel m (.bool true) (.bool true) from rfl) (LRel.cons h1 LRel.nil)), rfl⟩ ⟨x1.toG, x2.toG, Only.refl m nx nx⟩)
        have hg := stepG_op (P := P) (b := b) (k := kk) (cs := cs) (w := w) (rest := l) ho hw
        obtain ⟨es, hes⟩ : ∃ es, stepG P true (Go.Conc.G (b.at a (.inRegion ops (i :: l) :: kk)) cs) w = .comm (Go.Conc.G (b.at a (.inRegion ops (i :: l) :: kk)) cs) #[Go.Conc.rcase s.blk Z] false .select w es := by
          have e := hg
          simp [stepG.apply, execOp, hop, hsn, k2, hZ, GStep.after] at e
          exact ⟨_, e⟩
        have e2 : (V :: L').toArray.extract 1 (V :: L').toArray.size = L'.toArray := by simp
        have := Go.Conc.step_lone_select_recv_buf hes j3 (by simp)
        rw [e2] at this
        exact this
      · exact bad_ne hk
    · exact bad_ne hk
  · obtain ⟨v, h1, nx1, q1, q2, q3⟩ := oneK_sound hcall hk
    exact ⟨v, h1, nx1, q1, q2, fun m w a hr hf hfr i l Q ho hw hQ => wpIR_upon ho hw (q3 m w a hr hf hfr a _ _ hQ)⟩

theorem evOps_sound {call : CallK} (hcall : CallSound P call) {nt : Nat} : ∀ (os : List Oper) (i : Nat) (_ : ∀ j, os[j]? = ops[i + j]?) (ρ : Fr) (h : H) (nx : Pos) (k : KN),
    evOps call (os.map (convOp P nt ops)) ρ h nx k = true → ∃ ρ' h' nx', k ρ' h' nx' = true ∧ nx.toNat ≤ nx'.toNat ∧
      ∀ m w a, RepG m h.get w → FRel m ρ a → nt ≤ a.tmps.size → Free m nx nx' → ∀ Q : Exit → Act → World → Prop,
        (∀ m' w' a', FRel m' ρ' a' → a'.tmps.size = a.tmps.size → a'.defers = a.defers → DoneG m h.get nx w m' h'.get nx' w' → Q .normal a' w') → wpIR P ops Q (List.range' i os.length) a w
  | [], i, hos, ρ, h, nx, k, hk => ⟨ρ, h, nx, hk, Nat.le_refl _, fun m w a hr hf hnt hfr Q hQ => wpIR_nil (hQ m w a hf rfl rfl (DoneG.refl hr))⟩
  | o :: os, i, hos, ρ, h, nx, k, hk => by
    have ho : ops[i]? = some o := by have := hos 0; simpa using this.symm
    have hos' : ∀ j, os[j]? = ops[i + 1 + j]? := fun j => by have := hos (j + 1); simp at this; rw [this]; congr 1; omega
    simp only [List.map_cons, evOps] at hk
    rcases convOp_cases P nt ops o with ⟨g, hg, hd, hc⟩ | hc
    · rw [hc] at hk
      simp only at hk
      cases hw : wantedK ρ g with
      | true =>
        rw [hw] at hk; simp only [cond_true] at hk
        obtain ⟨v, h1, nx1, q1, q2, q3⟩ := opK_sound (ops := ops) hcall hk
        obtain ⟨ρ1, e1, e2⟩ := putK_eq ρ o.dst v (fun ρ => evOps call (os.map (convOp P nt ops)) ρ h1 nx1 k) (fun x hx => (hd x hx).2)
        rw [e1] at q1
        obtain ⟨ρ', h', nx', p1, p2, p3⟩ := evOps_sound hcall os (i + 1) hos' ρ1 h1 nx1 k q1
        refine ⟨ρ', h', nx', p1, by omega, fun m w a hr hf hnt hfr Q hQ => ?_⟩
        rw [List.length_cons, List.range'_succ]
        have hw' := wantedK_sound hg (m := m) (ρ := ρ) (a := a) fun t _ ht => hf t ht
        rw [hw] at hw'
        refine q3 m w a hr hf (hfr.left p2) i _ Q ho hw'.symm fun m1 w1 V hv hdn => ?_
        refine p3 m1 w1 _ hdn.rep ((hf.mono hdn.ext.le).put hv (fun x hx => Nat.lt_of_lt_of_le (hd x hx).1 hnt) e2) (by rw [put_size]; exact hnt) (hfr.right q2 hdn.only) Q fun m2 w2 a2 r1 r2 r3 r4 => ?_
        exact hQ m2 w2 a2 r1 (by rw [r2, put_size]) (by rw [r3, put_defers']) (hdn.trans r4 q2 p2)
      | false =>
        rw [hw] at hk; simp only [cond_false] at hk
        obtain ⟨ρ1, e1, e2⟩ := putK_eq ρ o.dst undefA (fun ρ => evOps call (os.map (convOp P nt ops)) ρ h nx k) (fun x hx => (hd x hx).2)
        rw [e1] at hk
        obtain ⟨ρ', h', nx', p1, p2, p3⟩ := evOps_sound hcall os (i + 1) hos' ρ1 h nx k hk
        refine ⟨ρ', h', nx', p1, p2, fun m w a hr hf hnt hfr Q hQ => ?_⟩
        rw [List.length_cons, List.range'_succ]
        have hw' := wantedK_sound hg (m := m) (ρ := ρ) (a := a) fun t _ ht => hf t ht
        rw [hw] at hw'
        refine wpIR_skip ho hw'.symm ?_
        refine p3 m w _ hr (hf.put (undef_rel m) (fun x hx => Nat.lt_of_lt_of_le (hd x hx).1 hnt) e2) (by rw [put_size]; exact hnt) hfr Q fun m2 w2 a2 r1 r2 r3 r4 => ?_
        exact hQ m2 w2 a2 r1 (by rw [r2, put_size]) (by rw [r3, put_defers']) r4
    · rw [hc] at hk
      simp only [wantedK, cond_true, opK, oneK] at hk
      exact simple_bad hk

/-! ### in any order -/

/-- The slots asked for, and no others. -/
def onlyA (a : Act) (names : List Nat) : Act := { a with tmps := Array.ofFn (n := a.tmps.size) fun i => if i.val ∈ names then a.tmps[i] else undef }

theorem only_get (a : Act) (names : List Nat) (t : Nat) : (onlyA a names).tmps.getD t undef = if t ∈ names then a.tmps.getD t undef else undef := by
  simp only [onlyA, Array.getD_eq_getD_getElem?, Array.getElem?_ofFn]
  by_cases ht : t < a.tmps.size
  · by_cases hm : t ∈ names
    · simp [ht, hm]
    · simp [ht, hm]
  · by_cases hm : t ∈ names
    · simp [ht, hm]
    · simp [ht, hm]

theorem exec_only {o : Oper} (hs : isSelect o.op = false) (a : Act) : execOp (onlyA a (o.looksAt ops)).eval o = execOp a.eval o := by
  refine execOp_congr o (fun cs b e => by rw [e] at hs; cases hs) fun x hx => ?_
  cases x with
  | tmp t =>
    have hm : t ∈ o.looksAt ops := List.mem_append_left _ (List.mem_filterMap.2 ⟨.tmp t, by simpa using hx, rfl⟩)
    simp only [Act.eval, only_get, hm, if_true]
  | _ => rfl

theorem restrK_sound {ρ : Fr} : ∀ (l : List Pos) (σ : Fr) (k : Fr → Bool), restrK ρ l σ k = true → (∀ p, σ.get p = none ∨ σ.get p = ρ.get p) →
    ∃ σ', k σ' = true ∧ (∀ p, σ'.get p = none ∨ σ'.get p = ρ.get p) ∧ (∀ p ∈ l, σ'.get p = ρ.get p) ∧ (∀ p, σ.get p ≠ none → σ'.get p = σ.get p) ∧ (∀ p, p ∉ l → σ'.get p = σ.get p)
  | [], σ, k, hk, h0 => ⟨σ, hk, h0, by simp, fun _ _ => rfl, fun _ _ => rfl⟩
  | q :: l, σ, k, hk, h0 => by
    unfold restrK at hk
    split at hk
    · rename_i v hv
      rw [T.setK_eq] at hk
      obtain ⟨σ', g1, g2, g3, g4, g5⟩ := restrK_sound l _ k hk (fun p => by
        by_cases e : q = p
        · subst e; right; rw [T.get_set_same, hv]
        · rw [T.get_set_other _ _ _ _ e]; exact h0 p)
      refine ⟨σ', g1, g2, ?_, ?_, ?_⟩
      · intro p hp
        rcases List.mem_cons.1 hp with rfl | hp
        · rw [g4 p (by rw [T.get_set_same]; simp), T.get_set_same, hv]
        · exact g3 p hp
      · intro p hp
        by_cases e : q = p
        · subst e
          rw [g4 q (by rw [T.get_set_same]; simp), T.get_set_same]
          rcases h0 q with h | h
          · exact absurd h hp
          · rw [h, hv]
        · rw [g4 p (by rw [T.get_set_other _ _ _ _ e]; exact hp), T.get_set_other _ _ _ _ e]
      · intro p hp
        simp only [List.mem_cons, not_or] at hp
        rw [g5 p hp.2, T.get_set_other _ _ _ _ (Ne.symm hp.1)]
    · rename_i hv
      obtain ⟨σ', g1, g2, g3, g4, g5⟩ := restrK_sound l σ k hk h0
      refine ⟨σ', g1, g2, ?_, g4, ?_⟩
      · intro p hp
        rcases List.mem_cons.1 hp with rfl | hp
        · rcases g2 p with h | h
          · rw [h, hv]
          · exact h
        · exact g3 p hp
      · intro p hp
        simp only [List.mem_cons, not_or] at hp
        exact g5 p hp.2

/-- With the slots asked for alone. -/
theorem restr_frel {ρ σ : Fr} {names : List Nat} (hn : ∀ t ∈ names, t < 4294967296) (h1 : ∀ p ∈ names.map pos, σ.get p = ρ.get p) (h2 : ∀ p, p ∉ names.map pos → σ.get p = none) {m : PM} {f : F} {a : Act}
    (hf : FR m f a) (hv : ∀ t ∈ names, f t = frF ρ t) : FRel m σ (onlyA a names) := by
  intro t ht
  rw [only_get]
  by_cases hm : t ∈ names
  · have h3 := hf t ht
    rw [hv t hm] at h3
    simp only [frF, ht, if_true] at h3
    simp only [hm, if_true]
    unfold getF at h3 ⊢
    rw [h1 (pos t) (List.mem_map.2 ⟨t, hm, rfl⟩)]
    exact h3
  · have : pos t ∉ names.map pos := by
      intro h
      obtain ⟨u, hu, e⟩ := List.mem_map.1 h
      have := pos_inj (by have := hn u hu; omega) (by omega) e
      subst this; exact hm hu
    simp only [hm, if_false]
    unfold getF
    rw [h2 _ this]
    exact undef_rel m

def ChainL : List Stp → F → G → F → G → Prop
  | [], f, g, f', g' => f = f' ∧ g = g'
  | s :: l, f, g, f'', g'' => ∃ f' g', s.go f g f' g' ∧ ChainL l f' g' f'' g''

def RangeL : Pos → List Stp → Pos → Prop
  | nx, [], nx' => nx = nx'
  | nx, s :: l, nx' => s.nx = nx ∧ s.nx.toNat ≤ s.nx'.toNat ∧ RangeL s.nx' l nx'

theorem evD_sound {call : CallK} (hcall : CallSound P call) {nt : Nat} {bs : List Nat} {un : List (Nat × Nat)} : ∀ (os : List Oper) (i : Nat) (_ : ∀ j, os[j]? = ops[i + j]?) (_ : edgesOk ops i os = true) (ρ : Fr) (h : H) (nx : Pos) (rs : List Rec) (k : Fr → H → Pos → List Rec → Bool),
    evD call (convDs P nt ops bs un i os) i ρ h nx rs k = true → ∃ L ρ' h' nx', L.length = os.length ∧ k ρ' h' nx' ((L.map Stp.r).reverse ++ rs) = true ∧ ChainL L (frF ρ) h.get (frF ρ') h'.get ∧ RangeL nx L nx' ∧
      ∀ j s, L[j]? = some s → s.Sound P ops nt (i + j) ∧ ∃ o, os[j]? = some o ∧ s.names = o.looksAt ops ∧ s.dst = o.dst ∧ (clsOf P ops un (i + j) o = .pure → s.r = .idle)
  | [], i, hos, hed, ρ, h, nx, rs, k, hk => ⟨[], ρ, h, nx, rfl, hk, ⟨rfl, rfl⟩, rfl, by simp⟩
  | o :: os, i, hos, hed, ρ, h, nx, rs, k, hk => by
    have ho : ops[i]? = some o := by have := hos 0; simpa using this.symm
    have hos' : ∀ j, os[j]? = ops[i + 1 + j]? := fun j => by have := hos (j + 1); simp at this; rw [this]; congr 1; omega
    simp only [edgesOk, Bool.and_eq_true, Bool.not_eq_true'] at hed
    obtain ⟨⟨⟨_, hsel⟩, hnames⟩, hed'⟩ := hed
    have hnames : ∀ t ∈ o.looksAt ops, t < 4294967296 := fun t ht => by
      have := List.all_eq_true.1 hnames t ht
      exact Nat.le_of_ble_eq_true this
    simp only [convDs, evD] at hk
    obtain ⟨σ, hk, _, hσ1, _, hσ2⟩ := restrK_sound _ _ _ hk (fun p => by left; simp)
    have hnm : (convDOp P nt ops bs un i o).names = (o.looksAt ops).map pos := rfl
    rw [hnm] at hσ1 hσ2
    have hσ2 : ∀ p, p ∉ (o.looksAt ops).map pos → σ.get p = none := fun p hp => by rw [hσ2 p hp]; simp
    have hop : (convDOp P nt ops bs un i o).op = convOp P nt ops o := rfl
    rw [hop] at hk
    -- how the rest follows
    have fin : ∀ (s : Stp) (ρ1 : Fr) (h1 : H), s.nx = nx → s.nx.toNat ≤ s.nx'.toNat → s.go (frF ρ) h.get (frF ρ1) h1.get → s.Sound P ops nt i → s.names = o.looksAt ops → s.dst = o.dst → (clsOf P ops un i o = .pure → s.r = .idle) →
        evD call (convDs P nt ops bs un (i + 1) os) (Nat.succ i) ρ1 h1 s.nx' (s.r :: rs) k = true →
        ∃ L ρ' h' nx', L.length = (o :: os).length ∧ k ρ' h' nx' ((L.map Stp.r).reverse ++ rs) = true ∧ ChainL L (frF ρ) h.get (frF ρ') h'.get ∧ RangeL nx L nx' ∧
          ∀ j s, L[j]? = some s → s.Sound P ops nt (i + j) ∧ ∃ o', (o :: os)[j]? = some o' ∧ s.names = o'.looksAt ops ∧ s.dst = o'.dst ∧ (clsOf P ops un (i + j) o' = .pure → s.r = .idle) := by
      intro s ρ1 h1 e1 e2 hgo hs hn hd hp hk
      obtain ⟨L, ρ', h', nx', g1, g2, g3, g4, g5⟩ := evD_sound hcall os (i + 1) hos' hed' ρ1 h1 s.nx' (s.r :: rs) k hk
      refine ⟨s :: L, ρ', h', nx', by simp [g1], by simpa using g2, ⟨_, _, hgo, g3⟩, ⟨e1, e2, g4⟩, ?_⟩
      intro j t ht
      cases j with
      | zero =>
        simp at ht; subst ht
        exact ⟨hs, o, rfl, hn, hd, hp⟩
      | succ j =>
        have := g5 j t (by simpa using ht)
        obtain ⟨k1, o', k2, k3, k4, k5⟩ := this
        have e : i + (j + 1) = i + 1 + j := by omega
        refine ⟨by rw [e]; exact k1, o', by simpa using k2, k3, k4, by rw [e]; exact k5⟩
    rcases convOp_cases P nt ops o with ⟨g, hg, hd, hc⟩ | hc
    · rw [hc] at hk
      simp only at hk
      -- the guard, in any memory
      have hwant : ∀ (m : PM) (f : F) (a : Act), FR m f a → (∀ t ∈ o.looksAt ops, f t = frF ρ t) → wantedK σ g = Region.wanted o (yielded ops a.tmps) := by
        intro m f a hf hv
        refine wantedK_sound hg (m := m) fun t htm ht => ?_
        have := restr_frel hnames hσ1 hσ2 hf hv t ht
        rw [only_get] at this
        simpa [htm] using this
      cases hw : wantedK σ g with
      | true =>
        rw [hw] at hk; simp only [cond_true] at hk
        have hop' : (convDOp P nt ops bs un i o).op.op = conv P o := by rw [hop, hc]
        have hcls' : (convDOp P nt ops bs un i o).cls = .read → (conv P o).cls = .read := by
          intro e
          have e : clsOf P ops un i o = .read := e
          unfold clsOf at e
          split at e
          · split at e
            · have key : ∀ b : Bool, (bif b then Cls.app else Cls.big) ≠ Cls.read := by intro b; cases b <;> simp
              exact absurd e (key _)
            · split at e <;> cases e
          · exact e
        obtain ⟨v, h1, nx1, r, q1, q2, q3, q4⟩ := stepD_sound hcall hop' hcls' hk
        obtain ⟨ρ1, e1, e2⟩ := putK_eq ρ o.dst v (fun ρ => evD call (convDs P nt ops bs un (i + 1) os) (Nat.succ i) ρ h1 nx1 (r :: rs) k) (fun x hx => (hd x hx).2)
        rw [e1] at q1
        refine fin { names := o.looksAt ops, vals := frF ρ, dst := o.dst, v, nx, nx' := nx1, r } ρ1 h1 rfl q2.1 ⟨fun _ _ => rfl, q3, e2⟩ ?_ rfl rfl q4 q1
        intro f g0 f' g' m w a hgo hf hnt hrep hfree K Q hK
        obtain ⟨hv, hst, rfl⟩ := hgo
        unfold wpOp
        simp only [ho]
        have hw' := hwant m f a hf hv
        rw [hw] at hw'
        simp only [← hw', if_true]
        left
        unfold Oper.wp
        rw [← exec_only (ops := ops) hsel a]
        refine q2.2 g0 g' m w _ hst hrep (restr_frel hnames hσ1 hσ2 hf hv) hfree a K Q fun m' w' V hvr hdn => ?_
        exact hK m' w' _ ((hf.mono hdn.ext.le).put hvr fun x hx => Nat.lt_of_lt_of_le (hd x hx).1 hnt) (put_size _ _ _) (put_defers' _ _ _) hdn
      | false =>
        rw [hw] at hk; simp only [cond_false] at hk
        obtain ⟨ρ1, e1, e2⟩ := putK_eq ρ o.dst undefA (fun ρ => evD call (convDs P nt ops bs un (i + 1) os) (Nat.succ i) ρ h nx (.idle :: rs) k) (fun x hx => (hd x hx).2)
        rw [e1] at hk
        refine fin { names := o.looksAt ops, vals := frF ρ, dst := o.dst, v := undefA, nx, nx' := nx, r := .idle } ρ1 h rfl (Nat.le_refl _) ⟨fun _ _ => rfl, gstep_idle, e2⟩ ?_ rfl rfl (fun _ => rfl) hk
        intro f g0 f' g' m w a hgo hf hnt hrep hfree K Q hK
        obtain ⟨hv, hst, rfl⟩ := hgo
        have := gstep_idle_iff hst
        subst this
        unfold wpOp
        simp only [ho]
        have hw' := hwant m f a hf hv
        rw [hw] at hw'
        simp only [← hw', Bool.false_eq_true, if_false]
        exact hK m w _ (hf.put (undef_rel m) fun x hx => Nat.lt_of_lt_of_le (hd x hx).1 hnt) (put_size _ _ _) (put_defers' _ _ _) (DoneG.refl hrep)
    · rw [hc] at hk
      simp only [wantedK, cond_true] at hk
      have hopb : (convDOp P nt ops bs un i o).op.op = .bad "op" := by rw [hop, hc]
      unfold stepD at hk
      rw [hopb] at hk
      split at hk
      · exact simple_bad hk
      · exact simple_bad hk
      · simp only [rdId] at hk; exact simple_bad hk
      · exact simple_bad hk
      · exact bad_ne hk
      · obtain ⟨A, hid, q1, _, _⟩ := hideK_sound (convDOp P nt ops bs un i o).mask rs i h h [] _ hk (by simp) (fun id => .inl rfl)
        exact bad_ne q1
end
end Go.Ev
