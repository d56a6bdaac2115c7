/- Code and calls: what the evaluator finds, the model does. -/
import Derived.Test.YtgkcpkhifgnjoaaGreatDoorEvU
import Derived.Laws.Sem
namespace Go.Ev
open Go

inductive Res where
  | normal | exit (id : Nat) | ret

def Res.toExit : Res → Exit
  | .normal => .normal
  | .exit id => .exit id
  | .ret => .ret

def contOf (kn : KN) (env : Env) (kr : KN) : Res → KN
  | .normal => kn
  | .exit id => match envGet env id with | some k => k | none => fun _ _ _ => false
  | .ret => kr

/-- How a stretch of code ends. -/
def Ends (_ : Nat) (m : PM) (g : G) (nx : Pos) (w : World) (a : Act) (r : Res) (ρ' : Fr) (g' : G) (nx' : Pos) : Exit → Act → World → Prop := fun e a' w' =>
  e = r.toExit ∧ ∃ m', FRel m' ρ' a' ∧ a'.tmps.size = a.tmps.size ∧ a'.defers = a.defers ∧ DoneG m g nx w m' g' nx' w'

/-- The rounds of a loop, from the head of one. -/
def wpLoop (P : Program) (c : Code) (Q : Exit → Act → World → Prop) (a : Act) (w : World) : Prop :=
  ∀ (b : Frame) (k : List Item) (cs : List Frame), ∃ e a' w', Q e a' w' ∧ Arrives P (lone (b.at a (.code c :: .inLoop c :: k)) cs w) b k cs e a' w'

theorem wpLoop.loop {P : Program} {c : Code} {Q : Exit → Act → World → Prop} {a : Act} {w : World} (h : wpLoop P c Q a w) : (Code.loop c).wp P Q a w := by
  intro b k cs
  obtain ⟨e, a', w', hq, harr⟩ := h b k cs
  exact ⟨e, a', w', hq, .of_steps (.one step_loop) harr⟩

theorem wpLoop_round {P : Program} {c : Code} {Q : Exit → Act → World → Prop} {a : Act} {w : World} (h : c.wp P (Exit.then (wpLoop P c Q) Q) a w) : wpLoop P c Q a w := by
  intro b k cs
  obtain ⟨e, a₁, w₁, hq, harr⟩ := h b (.inLoop c :: k) cs
  cases e with
  | normal =>
    obtain ⟨e₂, a₂, w₂, hq₂, harr₂⟩ := hq b k cs
    exact ⟨e₂, a₂, w₂, hq₂, .of_steps (Steps.trans harr (.one step_inLoop)) harr₂⟩
  | exit id => exact ⟨_, a₁, w₁, hq, .pass (x := .inLoop c) rfl (fun _ _ => .inl (by simp)) harr⟩
  | goto l => exact ⟨_, a₁, w₁, hq, .pass (x := .inLoop c) rfl (fun _ _ => .inl (by simp)) harr⟩
  | ret => exact ⟨_, a₁, w₁, hq, .pass (x := .inLoop c) rfl (fun _ _ => .inl (by simp)) harr⟩
  | panic ch => exact ⟨_, a₁, w₁, hq, .pass (x := .inLoop c) rfl (fun _ _ => .inl (by simp)) harr⟩
  | outgrown => exact ⟨_, a₁, w₁, hq, .pass (x := .inLoop c) rfl (fun _ _ => .inl (by simp)) harr⟩

theorem wpLoop_mono {P : Program} {c : Code} {Q Q' : Exit → Act → World → Prop} {a : Act} {w : World} (h : wpLoop P c Q a w) (hq : ∀ e a w, Q e a w → Q' e a w) : wpLoop P c Q' a w :=
  fun b k cs => let ⟨e, a', w', q, r⟩ := h b k cs; ⟨e, a', w', hq _ _ _ q, r⟩

section
variable {P : Program}

/-- What a stretch of code does. -/
def CSem (P : Program) (nt : Nat) (c : Code) (ρ : Fr) (g : G) (nx : Pos) (r : Res) (ρ' : Fr) (g' : G) (nx' : Pos) : Prop :=
  nx.toNat ≤ nx'.toNat ∧ ∀ m w a, RepG m g w → FRel m ρ a → nt ≤ a.tmps.size → Free m nx nx' →
    c.wp P (Ends nt m g nx w a r ρ' g' nx') a w ∧ ∀ b, c = .loop b → wpLoop P b (Ends nt m g nx w a r ρ' g' nx') a w

def RSound (P : Program) (ih : Run) : Prop := ∀ nt c ρ h nx kn env kr, ih (convC P nt c) ρ h nx kn env kr = true →
  ∃ r ρ' h' nx', contOf kn env kr r ρ' h' nx' = true ∧ CSem P nt c ρ h.get nx r ρ' h'.get nx'

theorem Ends.trans {nt : Nat} {m m' : PM} {g g' g'' : G} {nx nx' nx'' : Pos} {w w' : World} {a a' : Act} {r : Res} {ρ'' : Fr} {e : Exit} {a2 : Act} {w2 : World} (d : DoneG m g nx w m' g' nx' w') (hs : a'.tmps.size = a.tmps.size) (hd : a'.defers = a.defers)
    (h1 : nx.toNat ≤ nx'.toNat) (h2 : nx'.toNat ≤ nx''.toNat) (h : Ends nt m' g' nx' w' a' r ρ'' g'' nx'' e a2 w2) : Ends nt m g nx w a r ρ'' g'' nx'' e a2 w2 := by
  obtain ⟨e1, m2, e2, e3, e4, e5⟩ := h
  exact ⟨e1, m2, e2, e3.trans hs, e4.trans hd, d.trans e5 h1 h2⟩

theorem run_sound {prog : PT} {ih : Run} (hP : P.follows .mixedOrders = true) (hih : RSound P ih) (hcall : CallSound P (callK prog ih)) : RSound P (runC prog ih) := by
  intro nt c
  induction c with
  | skip =>
    intro ρ h nx kn env kr hk
    exact ⟨.normal, ρ, h, nx, hk, Nat.le_refl _, fun m w a hr hf hnt hfr => ⟨wp_skip ⟨rfl, m, hf, rfl, rfl, DoneG.refl hr⟩, fun b e => by cases e⟩⟩
  | label l =>
    intro ρ h nx kn env kr hk
    exact ⟨.normal, ρ, h, nx, hk, Nat.le_refl _, fun m w a hr hf hnt hfr => ⟨wp_label ⟨rfl, m, hf, rfl, rfl, DoneG.refl hr⟩, fun b e => by cases e⟩⟩
  | region id ops draw =>
    intro ρ h nx kn env kr hk
    cases draw with
    | false =>
      simp only [convC, runC] at hk
      obtain ⟨ρ', h', nx', q1, q2, q3⟩ := evOps_sound (ops := ops) hcall ops.toList 0 (fun j => by simp) ρ h nx kn hk
      refine ⟨.normal, ρ', h', nx', q1, q2, fun m w a hr hf hnt hfr => ⟨?_, fun b e => by cases e⟩⟩
      have := q3 m w a hr hf hnt hfr (Ends nt m h.get nx w a .normal ρ' h'.get nx') fun m' w' a' r1 r2 r3 r4 => ⟨rfl, m', r1, r2, r3, r4⟩
      intro b k cs
      have := this b k cs
      rw [← List.range_eq_range', show ops.toList.length = ops.size from rfl] at this
      obtain ⟨e, a', w', hq, harr⟩ := this
      exact ⟨e, a', w', hq, .of_steps (.one step_region) harr⟩
    | true =>
      simp only [convC] at hk
      split at hk
      · rename_i l ps hcv
        simp only [runC] at hk
        obtain ⟨ρ', h', nx', q1, q2, q3⟩ := regD_sound hcall hP hcv hk
        exact ⟨.normal, ρ', h', nx', q1, q2, fun m w a hr hf hnt hfr => ⟨q3 m w a hr hf hnt hfr id _ fun m' w' a' r1 r2 r3 r4 => ⟨rfl, m', r1, r2, r3, r4⟩, fun b e => by cases e⟩⟩
      · exact bad_ne hk
  | seq x y ihx ihy =>
    intro ρ h nx kn env kr hk
    simp only [convC, runC] at hk
    obtain ⟨r, ρ1, h1, nx1, q1, q2, q3⟩ := ihx ρ h nx _ env kr hk
    cases r with
    | normal =>
      simp only [contOf] at q1
      obtain ⟨r2, ρ2, h2, nx2, p1, p2, p3⟩ := ihy ρ1 h1 nx1 kn env kr q1
      refine ⟨r2, ρ2, h2, nx2, p1, by omega, fun m w a hr hf hnt hfr => ⟨wp_seq ?_, fun b e => by cases e⟩⟩
      refine wp_mono (q3 m w a hr hf hnt (hfr.left p2)).1 ?_
      rintro e a' w' ⟨rfl, m', e1, e2, e3, e4⟩
      exact wp_mono (p3 m' w' a' e4.rep e1 (by omega) (hfr.right q2 e4.only)).1 fun e a2 w2 h => h.trans e4 e2 e3 q2 p2
    | exit id =>
      refine ⟨.exit id, ρ1, h1, nx1, q1, q2, fun m w a hr hf hnt hfr => ⟨wp_seq (wp_mono (q3 m w a hr hf hnt hfr).1 ?_), fun b e => by cases e⟩⟩
      rintro e a' w' ⟨rfl, m', e1⟩
      exact ⟨rfl, m', e1⟩
    | ret =>
      refine ⟨.ret, ρ1, h1, nx1, q1, q2, fun m w a hr hf hnt hfr => ⟨wp_seq (wp_mono (q3 m w a hr hf hnt hfr).1 ?_), fun b e => by cases e⟩⟩
      rintro e a' w' ⟨rfl, m', e1⟩
      exact ⟨rfl, m', e1⟩
  | cond c x y ihx ihy =>
    intro ρ h nx kn env kr hk
    simp only [convC] at hk
    split at hk
    · rename_i c' hc
      simp only [runC] at hk
      split at hk
      · rename_i t hev
        have hval : ∀ m a, FRel m ρ a → a.eval c = .bool t := fun m a hf => by have := opd_sound hc hf; rw [hev] at this; exact this
        cases t with
        | true =>
          obtain ⟨r, ρ1, h1, nx1, q1, q2, q3⟩ := ihx ρ h nx kn env kr hk
          exact ⟨r, ρ1, h1, nx1, q1, q2, fun m w a hr hf hnt hfr => ⟨wp_cond_true (hval m a hf) (q3 m w a hr hf hnt hfr).1, fun b e => by cases e⟩⟩
        | false =>
          obtain ⟨r, ρ1, h1, nx1, q1, q2, q3⟩ := ihy ρ h nx kn env kr hk
          exact ⟨r, ρ1, h1, nx1, q1, q2, fun m w a hr hf hnt hfr => ⟨wp_cond_false (hval m a hf) (q3 m w a hr hf hnt hfr).1, fun b e => by cases e⟩⟩
      · exact bad_ne hk
    · exact bad_ne hk
  | block id b ihb =>
    intro ρ h nx kn env kr hk
    simp only [convC, runC] at hk
    obtain ⟨r, ρ1, h1, nx1, q1, q2, q3⟩ := ihb ρ h nx kn ((id, kn) :: env) kr hk
    cases r with
    | normal =>
      refine ⟨.normal, ρ1, h1, nx1, q1, q2, fun m w a hr hf hnt hfr => ⟨wp_block (wp_mono (q3 m w a hr hf hnt hfr).1 ?_), fun b e => by cases e⟩⟩
      rintro e a' w' ⟨rfl, m', e1⟩
      exact ⟨rfl, m', e1⟩
    | exit id' =>
      simp only [contOf, envGet] at q1
      cases hb : Nat.beq id id' with
      | true =>
        have := Nat.eq_of_beq_eq_true hb; subst this
        rw [hb] at q1
        simp only [cond_true] at q1
        refine ⟨.normal, ρ1, h1, nx1, q1, q2, fun m w a hr hf hnt hfr => ⟨wp_block (wp_mono (q3 m w a hr hf hnt hfr).1 ?_), fun b e => by cases e⟩⟩
        rintro e a' w' ⟨rfl, m', e1⟩
        simp only [Res.toExit, Exit.inBlock, if_true]
        exact ⟨rfl, m', e1⟩
      | false =>
        rw [hb] at q1
        simp only [cond_false] at q1
        have hne : id' ≠ id := fun e => by subst e; rw [Nat.beq_refl] at hb; cases hb
        refine ⟨.exit id', ρ1, h1, nx1, q1, q2, fun m w a hr hf hnt hfr => ⟨wp_block (wp_mono (q3 m w a hr hf hnt hfr).1 ?_), fun b e => by cases e⟩⟩
        rintro e a' w' ⟨rfl, m', e1⟩
        simp only [Res.toExit, Exit.inBlock, hne, if_false]
        exact ⟨rfl, m', e1⟩
    | ret =>
      refine ⟨.ret, ρ1, h1, nx1, q1, q2, fun m w a hr hf hnt hfr => ⟨wp_block (wp_mono (q3 m w a hr hf hnt hfr).1 ?_), fun b e => by cases e⟩⟩
      rintro e a' w' ⟨rfl, m', e1⟩
      exact ⟨rfl, m', e1⟩
  | loop b ihb =>
    intro ρ h nx kn env kr hk
    simp only [convC, runC] at hk
    obtain ⟨r, ρ1, h1, nx1, q1, q2, q3⟩ := ihb ρ h nx _ env kr hk
    cases r with
    | normal =>
      simp only [contOf] at q1
      obtain ⟨r2, ρ2, h2, nx2, p1, p2, p3⟩ := hih nt (.loop b) ρ1 h1 nx1 kn env kr q1
      have key : ∀ m w a, RepG m h.get w → FRel m ρ a → nt ≤ a.tmps.size → Free m nx nx2 → wpLoop P b (Ends nt m h.get nx w a r2 ρ2 h2.get nx2) a w := by
        intro m w a hr hf hnt hfr
        refine wpLoop_round (wp_mono (q3 m w a hr hf hnt (hfr.left p2)).1 ?_)
        rintro e a' w' ⟨rfl, m', e1, e2, e3, e4⟩
        exact wpLoop_mono ((p3 m' w' a' e4.rep e1 (by omega) (hfr.right q2 e4.only)).2 b rfl) fun e a2 w2 h => h.trans e4 e2 e3 q2 p2
      exact ⟨r2, ρ2, h2, nx2, p1, by omega, fun m w a hr hf hnt hfr => ⟨(key m w a hr hf hnt hfr).loop, fun b' e => by cases e; exact key m w a hr hf hnt hfr⟩⟩
    | exit id =>
      have key : ∀ m w a, RepG m h.get w → FRel m ρ a → nt ≤ a.tmps.size → Free m nx nx1 → wpLoop P b (Ends nt m h.get nx w a (.exit id) ρ1 h1.get nx1) a w := by
        intro m w a hr hf hnt hfr
        refine wpLoop_round (wp_mono (q3 m w a hr hf hnt hfr).1 ?_)
        rintro e a' w' ⟨rfl, m', e1⟩
        exact ⟨rfl, m', e1⟩
      exact ⟨.exit id, ρ1, h1, nx1, q1, q2, fun m w a hr hf hnt hfr => ⟨(key m w a hr hf hnt hfr).loop, fun b' e => by cases e; exact key m w a hr hf hnt hfr⟩⟩
    | ret =>
      have key : ∀ m w a, RepG m h.get w → FRel m ρ a → nt ≤ a.tmps.size → Free m nx nx1 → wpLoop P b (Ends nt m h.get nx w a .ret ρ1 h1.get nx1) a w := by
        intro m w a hr hf hnt hfr
        refine wpLoop_round (wp_mono (q3 m w a hr hf hnt hfr).1 ?_)
        rintro e a' w' ⟨rfl, m', e1⟩
        exact ⟨rfl, m', e1⟩
      exact ⟨.ret, ρ1, h1, nx1, q1, q2, fun m w a hr hf hnt hfr => ⟨(key m w a hr hf hnt hfr).loop, fun b' e => by cases e; exact key m w a hr hf hnt hfr⟩⟩
  | exit id =>
    intro ρ h nx kn env kr hk
    simp only [convC, runC] at hk
    split at hk
    · rename_i k hk'
      exact ⟨.exit id, ρ, h, nx, by simp only [contOf, hk']; exact hk, Nat.le_refl _, fun m w a hr hf hnt hfr => ⟨wp_exit ⟨rfl, m, hf, rfl, rfl, DoneG.refl hr⟩, fun b e => by cases e⟩⟩
    · exact bad_ne hk
  | ret =>
    intro ρ h nx kn env kr hk
    exact ⟨.ret, ρ, h, nx, hk, Nat.le_refl _, fun m w a hr hf hnt hfr => ⟨wp_ret ⟨rfl, m, hf, rfl, rfl, DoneG.refl hr⟩, fun b e => by cases e⟩⟩
  | _ => intro ρ h nx kn env kr hk; exact bad_ne hk

/-! ### calls -/

/-- What is known of a table of functions. -/
def TableSound (P : Program) (prog : PT) : Prop := ∀ f, f < 4294967296 → match prog.get (pos f) with
  | some (.code fn) => ∃ F, P.funcs[f]? = some F ∧ convF P F = some fn ∧ (F.name == "runtime.NumGoroutine") = false
  | some (.ext run) => ∀ args h nx k, run args h nx k = true → ∃ v h' nx', k v h' nx' = true ∧ CallSem P f args h.get nx v h'.get nx'
  | none => True

theorem argFrame_sound {k : Fr → Bool} : ∀ (l : List AV) (i : Nat) (ρ : Fr), argFrame l i ρ k = true → ∃ ρ', k ρ' = true ∧ ∀ t, t < 4294967296 → (t < i → getF ρ' (pos t) = getF ρ (pos t)) ∧ (i ≤ t → getF ρ' (pos t) = (l[t - i]?).getD (getF ρ (pos t)))
  | [], i, ρ, h => ⟨ρ, h, fun t ht => ⟨fun _ => rfl, fun _ => by simp⟩⟩
  | v :: l, i, ρ, h => by
    unfold argFrame at h
    cases hb : Nat.blt i 65536 with
    | false => rw [hb] at h; exact bad_ne h
    | true =>
      have hi : i < 65536 := Nat.le_of_ble_eq_true hb
      rw [hb] at h; simp only [cond_true, T.setK_eq] at h
      obtain ⟨ρ', h1, h2⟩ := argFrame_sound l (i + 1) _ h
      have key : ∀ t, t < 4294967296 → getF (T.set (some v) (pos i) ρ) (pos t) = if t = i then v else getF ρ (pos t) := by
        intro t ht
        by_cases e : t = i
        · subst e; simp [getF]
        · have : pos i ≠ pos t := fun h => e (pos_inj (by omega) (by omega) h).symm
          simp [getF, T.get_set_other _ _ _ _ this, e]
      refine ⟨ρ', h1, fun t ht => ⟨fun hti => ?_, fun hti => ?_⟩⟩
      · rw [(h2 t ht).1 (by omega), key t ht, if_neg (by omega)]
      · by_cases e : t = i
        · subst e
          rw [(h2 t ht).1 (by omega), key t ht]; simp
        · rw [(h2 t ht).2 (by omega), key t ht, if_neg e]
          have : t - i = (t - (i + 1)) + 1 := by omega
          rw [this]; simp

def resOf (tmps : Array Value) : ResultVar → Sem Value
  | .tmp t => pure (tmps.getD t undef)
  | .cell x t => do loadVar t (← asAddr (tmps.getD x undef))

theorem resOf_tmp {a : Act} {t : Tmp} {w : World} : (resOf a.tmps (.tmp t)).run P w = .ok (a.tmps.getD t undef) w := rfl

theorem results_sound : ∀ {l : List ResultVar} {r : List RV} {ρ : Fr} {h : H} {k : List AV → Bool}, convR P l = some r → resultsK ρ h r k = true →
    ∃ vs, k vs = true ∧ ∀ m w a, RepG m h.get w → FRel m ρ a → ∃ L, LRel m vs L ∧
      (l.mapM (resOf a.tmps)).run P w = .ok L w
  | [], r, ρ, h, k, hc, hk => by
    simp [convR] at hc; subst hc
    exact ⟨[], hk, fun m w a hr hf => ⟨[], rfl, by simp⟩⟩
  | .tmp t :: l, r, ρ, h, k, hc, hk => by
    simp only [convR] at hc
    split at hc
    · rename_i r' hr'
      split at hc
      · rename_i hlt
        simp at hc; subst hc
        simp only [resultsK] at hk
        obtain ⟨vs, h1, h2⟩ := results_sound hr' hk
        refine ⟨_, h1, fun m w a hr hf => ?_⟩
        obtain ⟨L, g1, g2⟩ := h2 m w a hr hf
        refine ⟨_, g1.cons (hf t hlt), ?_⟩
        simp only [List.mapM_cons, Sem.run_bind, resOf_tmp, Result.andThen_ok, g2, Sem.run_pure]
      · cases hc
    · cases hc
  | .cell t ty :: l, r, ρ, h, k, hc, hk => by
    simp only [convR] at hc
    split at hc
    · rename_i r' d i hr' hu hi
      split at hc
      · rename_i hlt
        cases hag : aggT P ty with
        | true =>
          rw [hag] at hc
          simp at hc; subst hc
          simp only [resultsK] at hk
          split at hk
          · rename_i id off hev
            obtain ⟨l', hl1, hl2, hk⟩ := readNK_abs hk
            obtain ⟨vs, h1, h2⟩ := results_sound hr' hk
            refine ⟨_, h1, fun m w a hr hf => ?_⟩
            obtain ⟨L, g1, g2⟩ := h2 m w a hr hf
            have h3 := hf t hlt
            rw [hev] at h3
            obtain ⟨s, k1, k2⟩ := h3
            obtain ⟨L', k3, k4⟩ := abs_sound hr.toRep k1 hl2
            have k5 := run_loadCells_of (P := P) k4
            rw [k3.length, hl1] at k5
            refine ⟨_, g1.cons ⟨L', k3, rfl⟩, ?_⟩
            have e : (resOf a.tmps (.cell t ty)).run P w = .ok (.agg L'.toArray) w := by
              simp only [resOf, k2]
              simp [asAddr, loadVar, run_isAgg hu, hag, run_sizeOf' hi, k5]
            simp only [List.mapM_cons, Sem.run_bind, e, Result.andThen_ok, g2, Sem.run_pure]
          · exact bad_ne hk
        | false =>
          rw [hag] at hc
          simp at hc; subst hc
          simp only [resultsK] at hk
          split at hk
          · rename_i id off hev
            unfold readK at hk
            cases hv : readCell (h.get id) off with
            | none => rw [hv] at hk; exact bad_ne hk
            | some v =>
              rw [hv] at hk
              obtain ⟨vs, h1, h2⟩ := results_sound hr' hk
              refine ⟨_, h1, fun m w a hr hf => ?_⟩
              obtain ⟨L, g1, g2⟩ := h2 m w a hr hf
              have h3 := hf t hlt
              rw [hev] at h3
              obtain ⟨s, k1, k2⟩ := h3
              obtain ⟨V, k3, k4⟩ := readCell_sound hr.toRep k1 hv
              refine ⟨_, g1.cons k4, ?_⟩
              have e : (resOf a.tmps (.cell t ty)).run P w = .ok V w := by
                simp only [resOf, k2]
                simp [asAddr, loadVar, run_isAgg hu, hag, k3]
              simp only [List.mapM_cons, Sem.run_bind, e, Result.andThen_ok, g2, Sem.run_pure]
          · exact bad_ne hk
      · cases hc
    · cases hc

theorem results_run {F : Func} {a : Act} {w : World} {L : List Value}
    (h : (F.results.toList.mapM (resOf a.tmps)).run P w = .ok L w) {m : PM} {vs : List AV} (hl : LRel m vs L) :
    ∃ V, (results F a.tmps).run P w = .ok V w ∧ VRel m (wrapRes vs) V := by
  have e0 : results F a.tmps = (F.results.mapM (resOf a.tmps) >>= fun vs => pure (if h : vs.size = 1 then vs[0] else .tuple vs)) := by
    unfold results
    congr 2
  rw [e0, Array.mapM_eq_mapM_toList]
  simp only [Sem.run_bind, Sem.run_map, h, Result.andThen_ok]
  clear h
  match vs, L, hl with
  | [], L, hl =>
    have hl : L = [] := hl
    subst hl
    exact ⟨.tuple #[], rfl, [], rfl, rfl⟩
  | [v], _, ⟨V, L', h1, h2, e⟩ =>
    have h2 : L' = [] := h2
    subst h2; subst e
    exact ⟨V, rfl, h1⟩
  | v :: v' :: vs, _, ⟨V, L', h1, ⟨V', L'', h2, h3, e'⟩, e⟩ =>
    subst e'; subst e
    exact ⟨.tuple (V :: V' :: L'').toArray, by simp, ⟨_, ⟨V, _, h1, ⟨V', L'', h2, h3, rfl⟩, rfl⟩, rfl⟩⟩

theorem call_sound {prog : PT} {ih : Run} (hT : TableSound P prog) (hih : RSound P ih) : CallSound P (callK prog ih) := by
  intro f args h nx k hk
  unfold callK at hk
  cases hb : Nat.blt f 4294967296 with
  | false => rw [hb] at hk; exact bad_ne hk
  | true =>
    rw [hb] at hk; simp only [Bool.not_true, cond_false] at hk
    have hf : f < 4294967296 := Nat.le_of_ble_eq_true hb
    have hT := hT f hf
    split at hk
    · rename_i fn hg
      rw [hg] at hT
      obtain ⟨F, hF, hcv, hname⟩ := hT
      unfold convF at hcv
      split at hcv
      · rename_i c r hbody hres
        simp at hcv; subst hcv
        obtain ⟨ρ0, hk, hρ0⟩ := argFrame_sound args 0 .e hk
        obtain ⟨rs, ρ', h', nx', q1, q2, q3⟩ := hih F.ntmps c ρ0 h nx _ _ _ hk
        have hrs : rs = .normal ∨ rs = .ret := by
          cases rs with
          | normal => exact .inl rfl
          | ret => exact .inr rfl
          | exit id => simp [contOf, envGet] at q1
        have q1' : (resultsK ρ' h' r fun vs => k (wrapRes vs) h' nx') = true := by rcases hrs with rfl | rfl <;> exact q1
        obtain ⟨vs, k1, k2⟩ := results_sound hres q1'
        refine ⟨wrapRes vs, h', nx', k1, q2, fun m w L hr hl hfr => .inr ⟨?_, ?_⟩⟩
        · have hname' : ¬ F.name = "runtime.NumGoroutine" := by simpa using hname
          simp [callFunc, hF, hname', hbody]
        · refine calls_of_wp hF hbody ?_
          have hsz : F.ntmps ≤ (L.toArray ++ Array.replicate (F.ntmps - L.toArray.size) undef).size := by simp; omega
          have hfr0 : FRel m ρ0 { tmps := L.toArray ++ Array.replicate (F.ntmps - L.toArray.size) undef, defers := [] } := by
            intro t ht
            have h1 := (hρ0 t ht).2 (Nat.zero_le t)
            rw [h1, Nat.sub_zero]
            cases hg : args[t]? with
            | none =>
              simp only [Option.getD_none]
              have hge : args.length ≤ t := List.getElem?_eq_none_iff.1 hg
              have e1 : getF (.e : Fr) (pos t) = undefA := by simp [getF]
              rw [e1]
              have e2 : (L.toArray ++ Array.replicate (F.ntmps - L.toArray.size) undef).getD t undef = undef := by
                have := hl.length
                rw [Array.getD_eq_getD_getElem?, Array.getElem?_append_right (by simp; omega)]
                simp only [Array.getElem?_replicate]
                split <;> rfl
              rw [e2]; exact undef_rel m
            | some v =>
              simp only [Option.getD_some]
              obtain ⟨V, g1, g2⟩ := hl.get hg
              have hlt : t < L.length := (List.getElem?_eq_some_iff.1 g1).1
              have e2 : (L.toArray ++ Array.replicate (F.ntmps - L.toArray.size) undef).getD t undef = V := by
                rw [Array.getD_eq_getD_getElem?, Array.getElem?_append_left (by simpa using hlt)]
                simp [g1]
              rw [e2]; exact g2
          refine wp_mono (q3 m w _ hr hfr0 hsz hfr).1 ?_
          rintro e a' w' ⟨rfl, m', e1, e2, e3, e4⟩
          have fin : a'.defers = [] ∧ ∃ v, (results F a'.tmps).run P w' = .ok v w' ∧ ∃ V, Ending.returned v = .returned V ∧ ∃ m', VRel m' (wrapRes vs) V ∧ DoneG m h.get nx w m' h'.get nx' w' := by
            obtain ⟨L', g1, g2⟩ := k2 m' w' a' e4.rep e1
            obtain ⟨V, g3, g4⟩ := results_run g2 g1
            exact ⟨e3, V, g3, V, rfl, m', g4, e4⟩
          rcases hrs with rfl | rfl <;> exact fin
      · cases hcv
    · rename_i run hg
      rw [hg] at hT
      exact hT args h nx k hk
    · exact bad_ne hk

theorem runN_sound {prog : PT} (hP : P.follows .mixedOrders = true) (hT : TableSound P prog) : ∀ n, RSound P (run prog n)
  | 0 => fun _ _ _ _ _ _ _ _ hk => bad_ne hk
  | n + 1 => run_sound hP (runN_sound hP hT n) (call_sound hT (runN_sound hP hT n))

/-- What the evaluator finds of a call holds. -/
theorem eval_sound {prog : PT} (hP : P.follows .mixedOrders = true) (hT : TableSound P prog) (n : Nat) {f : Nat} {args : List AV} {h : H} {nx : Pos} {k : AV → H → Pos → Bool} (hk : callK prog (run prog n) f args h nx k = true) :
    ∃ v h' nx', k v h' nx' = true ∧ CallSem P f args h.get nx v h'.get nx' := call_sound hT (runN_sound hP hT n) _ _ _ _ _ hk
end
end Go.Ev
