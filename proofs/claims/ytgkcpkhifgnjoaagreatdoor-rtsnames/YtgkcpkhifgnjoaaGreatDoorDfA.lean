/- A function that defers one closure: for the evaluator. -/
import Derived.Test.YtgkcpkhifgnjoaaGreatDoorEvY
import Derived.Defers
namespace Go.Ev
open Go
section
variable {P : Program}

/-- Stretches of code, one behind another. -/
def seqK (ih : Run) (kr : KN) : List C → Fr → H → Pos → KN → Bool
  | [], ρ, h, nx, kn => kn ρ h nx
  | c :: l, ρ, h, nx, kn => ih c ρ h nx (fun ρ h nx => seqK ih kr l ρ h nx kn) [] kr

def seqCode : List Code → Code → Code
  | [], x => x
  | c :: l, x => .seq c (seqCode l x)

/-- How such a stretch ends: off its end, or by a return. -/
def EndsT (m : PM) (g : G) (nx : Pos) (w : World) (a : Act) (ρ' : Fr) (g' : G) (nx' : Pos) (a' : Act) (w' : World) : Prop :=
  ∃ m', FRel m' ρ' a' ∧ a'.tmps.size = a.tmps.size ∧ a'.defers = a.defers ∧ DoneG m g nx w m' g' nx' w'

theorem EndsT.trans {m m' : PM} {g g' g'' : G} {nx nx' nx'' : Pos} {w w' w2 : World} {a a' a2 : Act} {ρ'' : Fr} (d : DoneG m g nx w m' g' nx' w') (hs : a'.tmps.size = a.tmps.size) (hd : a'.defers = a.defers)
    (h1 : nx.toNat ≤ nx'.toNat) (h2 : nx'.toNat ≤ nx''.toNat) (h : EndsT m' g' nx' w' a' ρ'' g'' nx'' a2 w2) : EndsT m g nx w a ρ'' g'' nx'' a2 w2 := by
  obtain ⟨m2, e2, e3, e4, e5⟩ := h
  exact ⟨m2, e2, e3.trans hs, e4.trans hd, d.trans e5 h1 h2⟩

theorem seqK_sound {ih : Run} (hih : RSound P ih) (nt : Nat) (kr : KN) : ∀ (As : List Code) (ρ : Fr) (h : H) (nx : Pos) (kn : KN), seqK ih kr (As.map (convC P nt)) ρ h nx kn = true →
    ∃ (ret : Bool) (ρ' : Fr) (h' : H) (nx' : Pos), (bif ret then kr ρ' h' nx' else kn ρ' h' nx') = true ∧ nx.toNat ≤ nx'.toNat ∧ ∀ m w a, RepG m h.get w → FRel m ρ a → nt ≤ a.tmps.size → Free m nx nx' →
      ∀ (X : Code) (Q : Exit → Act → World → Prop), (ret = false → ∀ a' w', EndsT m h.get nx w a ρ' h'.get nx' a' w' → X.wp P Q a' w') → (ret = true → ∀ a' w', EndsT m h.get nx w a ρ' h'.get nx' a' w' → Q .ret a' w') → (seqCode As X).wp P Q a w
  | [], ρ, h, nx, kn, hk => ⟨false, ρ, h, nx, hk, Nat.le_refl _, fun m w a hr hf hnt hfr X Q h1 _ => h1 rfl a w ⟨m, hf, rfl, rfl, DoneG.refl hr⟩⟩
  | c :: l, ρ, h, nx, kn, hk => by
    obtain ⟨r, ρ1, h1, nx1, q1, q2, q3⟩ := hih nt c ρ h nx _ [] kr hk
    cases r with
    | normal =>
      obtain ⟨ret, ρ2, h2, nx2, p1, p2, p3⟩ := seqK_sound hih nt kr l ρ1 h1 nx1 kn q1
      refine ⟨ret, ρ2, h2, nx2, p1, by omega, fun m w a hr hf hnt hfr X Q g1 g2 => wp_seq (wp_mono (q3 m w a hr hf hnt (hfr.left p2)).1 ?_)⟩
      rintro e a' w' ⟨rfl, m', e1, e2, e3, e4⟩
      exact p3 m' w' a' e4.rep e1 (by omega) (hfr.right q2 e4.only) X Q (fun hr a2 w2 h => g1 hr a2 w2 (h.trans e4 e2 e3 q2 p2)) (fun hr a2 w2 h => g2 hr a2 w2 (h.trans e4 e2 e3 q2 p2))
    | exit id => simp [contOf, envGet] at q1
    | ret =>
      refine ⟨true, ρ1, h1, nx1, q1, q2, fun m w a hr hf hnt hfr X Q g1 g2 => wp_seq (wp_mono (q3 m w a hr hf hnt hfr).1 ?_)⟩
      rintro e a' w' ⟨rfl, m', e1⟩
      exact g2 rfl a' w' ⟨m', e1⟩

/-- Such a function's run. -/
def dferX (ih : Run) (pre : List C) (d : Nat) (f : Nat) (caps : List Opd) (body post : C) (results : List RV) (args : List AV) (h : H) (nx : Pos) (k : AV → H → Pos → Bool) : Bool :=
  argFrame args 0 .e fun ρ =>
    seqK ih (fun ρ h nx => resultsK ρ h results fun vs => k (wrapRes vs) h nx) pre ρ h nx fun ρ h nx =>
      T.setK (some (.fn f (caps.map (ev ρ)))) (pos d) ρ fun ρ1 =>
        ih post ρ1 h nx
          (fun ρ2 h nx => argFrame (caps.map (ev ρ)) 0 .e fun σ => ih body σ h nx (fun _ h nx => resultsK ρ2 h results fun vs => k (wrapRes vs) h nx) [] (fun _ h nx => resultsK ρ2 h results fun vs => k (wrapRes vs) h nx)) []
          (fun ρ2 h nx => argFrame (caps.map (ev ρ)) 0 .e fun σ => ih body σ h nx (fun _ h nx => resultsK ρ2 h results fun vs => k (wrapRes vs) h nx) [] (fun _ h nx => resultsK ρ2 h results fun vs => k (wrapRes vs) h nx))

/-- The frame with which a call begins. -/
theorem frame0 {m : PM} {args : List AV} {L : List Value} (hl : LRel m args L) {ρ0 : Fr} (hρ0 : ∀ t, t < 4294967296 → (t < 0 → getF ρ0 (pos t) = getF (.e : Fr) (pos t)) ∧ (0 ≤ t → getF ρ0 (pos t) = (args[t - 0]?).getD (getF (.e : Fr) (pos t)))) (nt : Nat) :
    FRel m ρ0 { tmps := L.toArray ++ Array.replicate (nt - L.toArray.size) undef, defers := [] } := by
  intro t ht
  have h1 := (hρ0 t ht).2 (Nat.zero_le t)
  rw [h1, Nat.sub_zero]
  cases hg : args[t]? with
  | none =>
    simp only [Option.getD_none]
    have hge : args.length ≤ t := List.getElem?_eq_none_iff.1 hg
    have e1 : getF (.e : Fr) (pos t) = undefA := by simp [getF]
    rw [e1]
    have e2 : (L.toArray ++ Array.replicate (nt - L.toArray.size) undef).getD t undef = undef := by
      have := hl.length
      rw [Array.getD_eq_getD_getElem?, Array.getElem?_append_right (by simp; omega)]
      simp only [Array.getElem?_replicate]
      split <;> rfl
    rw [e2]; exact undef_rel m
  | some v =>
    simp only [Option.getD_some]
    obtain ⟨V, g1, g2⟩ := hl.get hg
    have hlt : t < L.length := (List.getElem?_eq_some_iff.1 g1).1
    have e2 : (L.toArray ++ Array.replicate (nt - L.toArray.size) undef).getD t undef = V := by
      rw [Array.getD_eq_getD_getElem?, Array.getElem?_append_left (by simpa using hlt)]
      simp [g1]
    rw [e2]; exact g2

theorem dfer_ok {ih : Run} (hih : RSound P ih) {f0 : Nat} {F : Func} (hF : P.funcs[f0]? = some F) (hname : (F.name == "runtime.NumGoroutine") = false) {As : List Code} {B : Code} {id d f : Nat} {o1 o2 : Oper} {capsO : Array Operand} {ats : Array TypeId}
    (hbody : F.body = some (seqCode As (.seq (.region id #[o1, o2] false) B))) (ho1 : o1.op = .makeFunc (.func f) #[] capsO) (hd1 : o1.dst = some d) (hg1 : o1.guard = none)
    (ho2 : o2.op = .defer { callee := .value (.tmp d), args := #[], argTypes := ats }) (hd2 : o2.dst = none) (hg2 : o2.guard = none) {caps : List Opd} (hcaps : allOf opd capsO.toList = some caps) {r : List RV} (hres : convR P F.results.toList = some r)
    {Gf : Func} {cg : Code} (hG : P.funcs[f]? = some Gf) (hGn : (Gf.name == "runtime.NumGoroutine") = false) (hGb : Gf.body = some cg) (hGr : Gf.results = #[]) (hd : d < F.ntmps) (hd' : d < 4294967296) :
    EntryOk P f0 (.ext (dferX ih (As.map (convC P F.ntmps)) d f caps (convC P Gf.ntmps cg) (convC P F.ntmps B) r)) := by
  intro args h nx k hk
  unfold dferX at hk
  obtain ⟨ρ0, hk, hρ0⟩ := argFrame_sound args 0 .e hk
  obtain ⟨ret, ρ1, h1, nx1, q1, q2, q3⟩ := seqK_sound hih F.ntmps _ As ρ0 h nx _ hk
  have hname' : ¬ F.name = "runtime.NumGoroutine" := by simpa using hname
  have enter : ∀ (L : List Value) (w : World), (callFunc f0 L.toArray).run P w = .ok (.enter f0 L.toArray) w := fun L w => by simp [callFunc, hF, hname', hbody]
  cases ret with
  | true =>
    simp only [cond_true] at q1
    obtain ⟨vs, k1, k2⟩ := results_sound hres q1
    refine ⟨wrapRes vs, h1, nx1, k1, q2, fun m w L hr hl hfr => .inr ⟨enter L w, calls_of_wp_defers hF hbody ?_⟩⟩
    refine q3 m w _ hr (frame0 hl hρ0 F.ntmps) (by simp; omega) hfr _ _ (fun e => by cases e) fun _ a' w' he => ?_
    obtain ⟨m', e1, e2, e3, e4⟩ := he
    have e3 : a'.defers = [] := e3
    obtain ⟨L', g1, g2⟩ := k2 m' w' a' e4.rep e1
    obtain ⟨V, g3, g4⟩ := results_run g2 g1
    show Leaves P F a'.tmps _ a'.defers .returning w'
    rw [e3]
    exact ⟨V, g3, V, rfl, m', g4, e4⟩
  | false =>
    simp only [cond_false, T.setK_eq] at q1
    obtain ⟨r2, ρ2, h2, nx2, p1, p2, p3⟩ := hih F.ntmps B _ h1 nx1 _ [] _ q1
    have hrs : r2 = .normal ∨ r2 = .ret := by
      cases r2 with
      | normal => exact .inl rfl
      | ret => exact .inr rfl
      | exit id => simp [contOf, envGet] at p1
    have p1' : (argFrame (caps.map (ev ρ1)) 0 .e fun σ => ih (convC P Gf.ntmps cg) σ h2 nx2 (fun _ h nx => resultsK ρ2 h r fun vs => k (wrapRes vs) h nx) [] (fun _ h nx => resultsK ρ2 h r fun vs => k (wrapRes vs) h nx)) = true := by
      rcases hrs with rfl | rfl <;> exact p1
    obtain ⟨σ0, p1', hσ0⟩ := argFrame_sound _ 0 .e p1'
    obtain ⟨r3, ρ3, h3, nx3, s1, s2, s3⟩ := hih Gf.ntmps cg σ0 h2 nx2 _ [] _ p1'
    have hrs3 : r3 = .normal ∨ r3 = .ret := by
      cases r3 with
      | normal => exact .inl rfl
      | ret => exact .inr rfl
      | exit id => simp [contOf, envGet] at s1
    have s1' : (resultsK ρ2 h3 r fun vs => k (wrapRes vs) h3 nx3) = true := by rcases hrs3 with rfl | rfl <;> exact s1
    obtain ⟨vs, k1, k2⟩ := results_sound hres s1'
    refine ⟨wrapRes vs, h3, nx3, k1, by omega, fun m w L hr hl hfr => .inr ⟨enter L w, calls_of_wp_defers hF hbody ?_⟩⟩
    refine q3 m w _ hr (frame0 hl hρ0 F.ntmps) (by simp; omega) (hfr.left (by omega)) _ _ (fun _ a' w' he => ?_) (fun e => by cases e)
    obtain ⟨m1, e1, e2, e3, e4⟩ := he
    have e3 : a'.defers = [] := e3
    have hsz : F.ntmps ≤ a'.tmps.size := by rw [e2]; simp; omega
    have hfr1 : Free m1 nx1 nx3 := hfr.right q2 e4.only
    have hcv := opds_sound e1 hcaps
    have ecap : capsO.map a'.eval = (capsO.toList.map a'.eval).toArray := by rw [← Array.toList_map]
    have hrun1 : (execOp a'.eval o1).run P w' = .ok (.value (.func (.func f) #[] (capsO.toList.map a'.eval).toArray)) w' := by
      simp [execOp, ho1, Instr.makeFunc, ecap]
    have hf1 : FRel m1 (T.set (some (.fn f (caps.map (ev ρ1)))) (pos d) ρ1) (a'.put (some d) (.func (.func f) #[] (capsO.toList.map a'.eval).toArray)) := by
      refine FRel.put e1 (v := .fn f (caps.map (ev ρ1))) ⟨_, hcv, rfl⟩ (fun x hx => by cases hx; omega) ?_
      funext t
      simp only [frF, putF]
      by_cases ht : t < 4294967296
      · simp only [ht, if_true]
        by_cases e : t = d
        · subst e; simp [getF]
        · have : pos d ≠ pos t := fun h => e (pos_inj (by omega) (by omega) h).symm
          simp [getF, T.get_set_other _ _ _ _ this, e]
      · have : t ≠ d := by omega
        simp [ht, this]
    obtain ⟨CV, hCV⟩ : ∃ CV, capsO.toList.map a'.eval = CV := ⟨_, rfl⟩
    rw [hCV] at hcv hrun1 hf1
    obtain ⟨a1, ha1⟩ : ∃ a1, a'.put (some d) (.func (.func f) #[] CV.toArray) = a1 := ⟨_, rfl⟩
    rw [ha1] at hf1
    have hs1 : a1.tmps.size = a'.tmps.size := by rw [← ha1]; simp [Act.put]
    have hdf1 : a1.defers = [] := by rw [← ha1]; exact e3
    have hev1 : a1.eval (.tmp d) = .func (.func f) #[] CV.toArray := by
      have hlt : d < a'.tmps.size := by omega
      rw [← ha1]; simp [Act.put, Act.eval, Array.getD_eq_getD_getElem?, hlt]
    have hrun2 : (execOp a1.eval o2).run P w' = .ok (.defer { target := .fn (.func f) CV.toArray, args := #[] }) w' := by
      simp [execOp, ho2, resolve, hev1, Deferred.ofValue]
    obtain ⟨a2, ha2⟩ : ∃ a2 : Act, ({ a1 with defers := { target := .fn (.func f) CV.toArray, args := #[] } :: a1.defers } : Act) = a2 := ⟨_, rfl⟩
    have hf2 : FRel m1 (T.set (some (.fn f (caps.map (ev ρ1)))) (pos d) ρ1) a2 := by rw [← ha2]; exact hf1
    have hs2 : a2.tmps.size = a'.tmps.size := by rw [← ha2]; exact hs1
    have hdf2 : a2.defers = [{ target := .fn (.func f) CV.toArray, args := #[] }] := by rw [← ha2, hdf1]
    refine wp_seq (wp_region ?_)
    have hw1 : Region.wanted o1 (yielded #[o1, o2] a'.tmps) = true := by simp [Region.wanted, hg1]
    have hw2 : Region.wanted o2 (yielded #[o1, o2] a1.tmps) = true := by simp [Region.wanted, hg2]
    show wpOps P #[o1, o2] _ [0, 1] a' w'
    simp only [wpOps, List.getElem?_toArray, List.getElem?_cons_zero, List.getElem?_cons_succ, hw1, if_true]
    refine .inl ?_
    unfold Oper.wp
    rw [hrun1, Oper.upon_value, hd1, ha1]
    simp only [hw2, if_true]
    refine .inl ?_
    rw [hrun2, Oper.upon_defer, hd2]
    show B.wp P _ ({ a1 with defers := _ :: a1.defers } : Act) w'
    rw [ha2]
    refine wp_mono (p3 m1 w' a2 e4.rep hf2 (by omega) (hfr1.left s2)).1 ?_
    rintro e a3 w3 ⟨rfl, m2, g1, g2, g3, g4⟩
    have key : Leaves P F a3.tmps (fun e w' => ∃ V, e = .returned V ∧ ∃ m', VRel m' (wrapRes vs) V ∧ DoneG m h.get nx w m' h3.get nx3 w') a3.defers .returning w3 := by
      rw [g3, hdf2]
      refine ⟨(by intro e; cases e), .func f, CV.toArray, f, CV.toArray, rfl, ?_, ?_⟩
      · have hGn' : ¬ Gf.name = "runtime.NumGoroutine" := by simpa using hGn
        simp [invoke, callFunc, hG, hGn', hGb]
      · refine CallsD.mono (callsD_of_wp (R := fun e w4 => ∃ v, e = .returned v ∧ ∃ m3, DoneG m2 h2.get nx2 w3 m3 h3.get nx3 w4) hG hGb ?_) ?_
        · refine wp_mono (s3 m2 w3 _ g4.rep (frame0 (hcv.mono g4.ext.le) hσ0 Gf.ntmps) (by simp; omega) (hfr1.right p2 g4.only)).1 ?_
          rintro e a4 w4 ⟨rfl, m3, j1, j2, j3, j4⟩
          have fin : a4.defers = [] ∧ ∃ v, (results Gf a4.tmps).run P w4 = .ok v w4 ∧ ∃ v', Ending.returned v = .returned v' ∧ ∃ m3, DoneG m2 h2.get nx2 w3 m3 h3.get nx3 w4 :=
            ⟨j3, .tuple #[], by unfold results; simp [hGr], _, rfl, m3, j4⟩
          rcases hrs3 with rfl | rfl <;> exact fin
        · rintro e u' w4 ⟨rfl, v, rfl, m3, j4⟩
          have hd4 : DoneG m h.get nx w m3 h3.get nx3 w4 := e4.trans (g4.trans j4 p2 s2) q2 (by omega)
          obtain ⟨L', l1, l2⟩ := k2 m3 w4 a3 j4.rep (g1.mono j4.ext.le)
          obtain ⟨V, l3, l4⟩ := results_run l2 l1
          exact ⟨V, l3, V, rfl, m3, l4, hd4⟩
    rcases hrs with rfl | rfl <;> exact key
end
end Go.Ev
