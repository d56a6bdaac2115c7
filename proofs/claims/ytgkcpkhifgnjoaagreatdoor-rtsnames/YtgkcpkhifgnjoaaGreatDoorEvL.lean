/- The built-in functions. -/
import Derived.Test.YtgkcpkhifgnjoaaGreatDoorEvK
namespace Go.Ev
open Go

section
variable {P : Program} {o : Oper} {ρ : Fr} {h : H} {nx : Pos} {K : AV → H → Pos → Bool}

theorem exec_builtin {c : Call} {b : Builtin} (ho : o.op = .call c) (hc : c.callee = .builtin b) (a : Act) (w : World) :
    ∃ consts, (execOp a.eval o).run P w = (builtin b c.argTypes o.type consts (c.args.map a.eval)).run P w := by
  refine ⟨c.args.map fun | .const _ => true | _ => false, ?_⟩
  simp only [execOp, ho, resolve, hc, Sem.run_bind, Sem.run_pure, Result.andThen_ok, invoke]
  rfl

theorem args_one {A : Array Operand} {x' : Opd} (h : allOf opd A.toList = some [x']) : ∃ x, A = #[x] ∧ opd x = some x' := by
  have hl := allOf_length h
  obtain ⟨L⟩ := A
  match L, hl, h with
  | [x], _, h => exact ⟨x, rfl, allOf_get h 0 x x' rfl rfl⟩
theorem args_two {A : Array Operand} {x' y' : Opd} (h : allOf opd A.toList = some [x', y']) : ∃ x y, A = #[x, y] ∧ opd x = some x' ∧ opd y = some y' := by
  have hl := allOf_length h
  obtain ⟨L⟩ := A
  match L, hl, h with
  | [x, y], _, h => exact ⟨x, y, rfl, allOf_get h 0 x x' rfl rfl, allOf_get h 1 y y' rfl rfl⟩

theorem lenOf_sound {v : AV} {n : Nat} (hn : lenOf v = some n) {m : PM} {V : Value} (hv : VRel m v V) : ∃ base cap, V = .slice base n cap := by
  unfold lenOf at hn
  split at hn <;> simp only [Option.some.injEq, reduceCtorEq] at hn <;> subst hn
  · exact ⟨none, 0, hv⟩
  · obtain ⟨s, _, e⟩ := hv; exact ⟨_, _, e⟩
  · obtain ⟨s, _, e⟩ := hv; exact ⟨_, _, e⟩
  · obtain ⟨s, _, _, e⟩ := hv; exact ⟨_, _, e⟩

theorem len_fin {c : Call} {x : Operand} {x' : Opd} (ho : o.op = .call c) (hc : c.callee = .builtin .len) (ha : c.args = #[x]) (hx : opd x = some x') (n : Nat) (hk : K (.int .i64 (.ofNat n)) h nx = true)
    (hs : ∀ m w V, VRel m (ev ρ x') V → Rep m h w → (Builtin.len_ c.argTypes o.type #[V]).run P w = .ok (goInt n) w) : R P o ρ h nx K := by
  refine R.pure hk fun m w a hf hr => ?_
  obtain ⟨consts, e⟩ := exec_builtin (P := P) ho hc a w
  refine ⟨goInt n, ?_, rfl⟩
  rw [e, ha]
  have := hs m w _ (opd_sound hx hf) hr
  simp only [builtin, Sem.run_bind]
  rw [show (#[x].map a.eval) = #[a.eval x] by simp, this]
  rfl

theorem len_sound {c : Call} {x : Operand} {x' : Opd} {t : TypeId} {d : TypeDesc} {e : EqTy} (ho : o.op = .call c) (hc : c.callee = .builtin .len) (ha : c.args = #[x]) (hx : opd x = some x') (ht : c.argTypes[0]? = some t) (hu : P.underlying t = some d)
    (hd : (d = .string ∧ e = .str) ∨ (∃ el, d = .slice el ∧ e = .slice) ∨ (∃ k el, d = .map k el ∧ e = .map)) (hk : simple ρ h nx (.len e x') K = true) : R P o ρ h nx K := by
  simp only [simple] at hk
  rcases hd with ⟨rfl, rfl⟩ | ⟨el, rfl, rfl⟩ | ⟨kt, el, rfl, rfl⟩
  · simp only [] at hk
    split at hk
    · rename_i n v hev
      refine len_fin ho hc ha hx n hk fun m w V hV hr => ?_
      rw [hev] at hV; have hV := VRel.str_inv hV; subst hV
      simp [Builtin.len_, ht, run_underlying hu, strOf_size]
    · exact bad_ne hk
  · simp only [] at hk
    split at hk
    · rename_i n hn
      refine len_fin ho hc ha hx n hk fun m w V hV hr => ?_
      obtain ⟨base, cap, rfl⟩ := lenOf_sound hn hV
      simp [Builtin.len_, ht, run_underlying hu]
    · exact bad_ne hk
  · simp only [] at hk
    split at hk
    · rename_i hev
      refine len_fin ho hc ha hx 0 hk fun m w V hV hr => ?_
      rw [hev] at hV
      have hV : V = .map none := hV
      subst hV
      simp [Builtin.len_, ht, run_underlying hu]
    · rename_i id hev
      split at hk
      · rename_i ks es hg
        rw [fN_eq] at hk
        refine len_fin ho hc ha hx es.length hk fun m w V hV hr => ?_
        rw [hev] at hV
        obtain ⟨s, k1, rfl⟩ := hV
        obtain ⟨s', j1, j2, mes, clock, L, j3, j4, j5, _⟩ := hr.obj id _ hg
        rw [k1] at j1; cases j1
        have hl : mes.size = es.length := by have h1 := j4.length_eq; have h2 := j5.length; simp only [Array.length_toList] at h1; omega
        simp [Builtin.len_, ht, run_underlying hu, run_getObj_map j3, hl]
      · exact bad_ne hk
    · exact bad_ne hk

theorem max_sound {c : Call} {x y : Operand} {x' y' : Opd} (ho : o.op = .call c) (hc : c.callee = .builtin .max) (ha : c.args = #[x, y]) (hx : opd x = some x') (hy : opd y = some y')
    (hk : simple ρ h nx (.max2 x' y') K = true) : R P o ρ h nx K := by
  simp only [simple] at hk
  split at hk
  · rename_i k a' k' b' hex hey
    refine R.pure hk fun m w a hf hr => ?_
    have g1 := opd_sound hx hf; rw [hex] at g1; have g1 := VRel.int_inv g1
    have g2 := opd_sound hy hf; rw [hey] at g2; have g2 := VRel.int_inv g2
    obtain ⟨consts, e⟩ := exec_builtin (P := P) ho hc a w
    refine ⟨.int k (bif intLt a' b' then b' else a'), ?_, rfl⟩
    rw [e, ha, intLt_eq]
    rw [show (#[x, y].map a.eval) = #[a.eval x, a.eval y] by simp, g1, g2]
    by_cases hlt : a' < b' <;> simp [builtin, Builtin.max_, Builtin.max2, hlt]
  · exact bad_ne hk

theorem del_sound {ks : Bool} {c : Call} {mx kx : Operand} {m' k' : Opd} {t kt e : TypeId} {d : TypeDesc} (ho : o.op = .call c) (hc : c.callee = .builtin .delete) (ha : c.args = #[mx, kx]) (hm : opd mx = some m') (hkx : opd kx = some k')
    (ht : c.argTypes[0]? = some t) (hu : P.underlying t = some (.map kt e)) (hd : P.underlying kt = some d) (hks : KeyD ks d) (hk : simple ρ h nx (.del ks m' k') K = true) : R P o ρ h nx K := by
  have hkt := hks.ty
  simp only [simple] at hk
  cases hko : keyOk ks (ev ρ k') with
  | false => rw [hko] at hk; exact bad_ne hk
  | true =>
  rw [hko] at hk; simp only [Bool.not_true, cond_false] at hk
  split at hk
  · rename_i hev
    refine R.pure hk fun m w a hf hr => ?_
    have g1 := opd_sound hm hf; rw [hev] at g1
    have g1 : a.eval mx = .map none := g1
    obtain ⟨consts, e⟩ := exec_builtin (P := P) ho hc a w
    refine ⟨.tuple #[], ?_, ⟨[], rfl, rfl⟩⟩
    rw [e, ha, show (#[mx, kx].map a.eval) = #[a.eval mx, a.eval kx] by simp, g1]
    simp [builtin, Builtin.delete_, ht, run_underlying hu, run_checkKey' hd hkt]
  · rename_i id hev
    split at hk
    · rename_i ks' es hg
      cases hke : boolEq ks ks' with
      | false => rw [hke] at hk; exact bad_ne hk
      | true =>
      have := boolEq_iff.1 hke; subst this
      rw [hke] at hk; simp only [Bool.not_true, cond_false] at hk
      rw [putObjK_eq] at hk
      refine R.write hk fun m w a hf hrep => ?_
      have g1 := opd_sound hm hf; rw [hev] at g1
      have g2 := opd_sound hkx hf
      obtain ⟨s, k1, k2⟩ := g1
      obtain ⟨s', j1, j2, mes, clock, L, j3, j4, j5, j6, j7, j8⟩ := hrep.obj id _ hg
      rw [k1] at j1; cases j1
      have hM : MapRep m ks es mes.toList := ⟨L, j4, j5, j6, j7⟩
      have key : ∃ mes' : Array MapEntry, (Builtin.delete_ c.argTypes o.type #[a.eval mx, a.eval kx]).run P w = .ok (.tuple #[]) (World.setObj w s.blk (.map mes' clock)) ∧ MapKept.Stamped mes' clock ∧ MapRep m ks (mapDel (ev ρ k') es) mes'.toList := by
        rcases hM.del hks hko g2 with ⟨q1, q2⟩ | ⟨MX, en, MY, V, q0, q1, q2⟩
        · exact ⟨mes, by simp [Builtin.delete_, ht, run_underlying hu, k2, run_getObj_map j3, run_checkKey' hd hkt, run_findKey' hd q1, run_setObj_map _ j3], j8, q2⟩
        · refine ⟨mes.eraseIdxIfInBounds MX.length, by simp [Builtin.delete_, ht, run_underlying hu, k2, run_getObj_map j3, run_checkKey' hd hkt, run_findKey' hd q1, run_setObj_map _ j3], MapKept.stamped_erase j8 _, ?_⟩
          have e1 : (mes.eraseIdxIfInBounds MX.length).toList = MX ++ MY := by
            have hj : MX.length < mes.size := by
              have := congrArg List.length q0; simp at this; omega
            unfold Array.eraseIdxIfInBounds
            rw [dif_pos hj, Array.toList_eraseIdx, q0]
            first | rw [List.eraseIdx_append_of_length_le (Nat.le_refl _)]; simp | skip
          rw [e1]; exact q2
      obtain ⟨mes', r1, r6, L', r2, r3, r4, r5⟩ := key
      have hO : ORep m (World.setObj w s.blk (.map mes' clock)) s (.mp ks (mapDel (ev ρ k') es)) :=
        ⟨mes', clock, L', by simp [World.setObj, j2], r2, r3, r4, r5, r6⟩
      obtain ⟨b1, b2⟩ := hrep.setObj hg k1 hO
      obtain ⟨consts, e⟩ := exec_builtin (P := P) ho hc a w
      refine ⟨_, .value (.tuple #[]), ?_, ⟨[], rfl, rfl⟩, b1, b2⟩
      rw [e, ha, show (#[mx, kx].map a.eval) = #[a.eval mx, a.eval kx] by simp]
      simp only [builtin, Sem.run_bind, r1, Result.andThen_ok, Sem.run_pure]
    · exact bad_ne hk
  · exact bad_ne hk

theorem wrK_abs {es n : Nat} {x : AV} {l : List AV} {k : H → Bool} (hl : l.length = n * es) (hk : wrK h es n x l k = true) :
    ∃ h', k h' = true ∧ ∀ (P : Program) (m : PM) (w : World), Rep m h w → ∀ X, VRel m x X → ∀ L, LRel m l L → ∀ base len cap, X = .slice base len cap →
      (∃ w', (match base with | some a => storeCells a L | none => pure ()).run P w = .ok () w' ∧ Rep m h' w' ∧ Ext m h w m h' w') ∧ (n ≠ 0 → ∃ a, base = some a) := by
  unfold wrK at hk
  cases hb : Nat.beq n 0 with
  | true =>
    rw [hb] at hk; simp only [cond_true] at hk
    have := Nat.eq_of_beq_eq_true hb; subst this
    refine ⟨h, hk, fun P m w hr X _ L hL base len cap _ => ⟨⟨w, ?_, hr, Ext.refl m h w⟩, fun e => absurd rfl e⟩⟩
    have hL0 : L = [] := by
      have := hL.length; rw [hl] at this; simpa using this
    subst hL0
    cases base <;> simp [storeCells]
  | false =>
    rw [hb] at hk; simp only [cond_false] at hk
    split at hk
    · rename_i id off ln cp
      obtain ⟨h', h1, h2⟩ := writeK_abs hk
      refine ⟨h', h1, fun P m w hr X hX L hL base len cap e => ?_⟩
      obtain ⟨s, k1, k2⟩ := hX
      rw [k2] at e; cases e
      exact ⟨h2 P m w hr s k1 L hL, fun _ => ⟨_, rfl⟩⟩
    · rename_i id es' lo ln
      cases hb2 : Nat.beq es es' with
      | false => rw [hb2] at hk; exact bad_ne hk
      | true =>
        rw [hb2] at hk; simp only [cond_true] at hk
        have := Nat.eq_of_beq_eq_true hb2; subst this
        obtain ⟨h', h1, h2⟩ := writeK_abs hk
        refine ⟨h', h1, fun P m w hr X hX L hL base len cap e => ?_⟩
        obtain ⟨s, k1, _, k2⟩ := hX
        rw [k2] at e; cases e
        exact ⟨h2 P m w hr s k1 L hL, fun _ => ⟨_, rfl⟩⟩
    · exact bad_ne hk

theorem copy_sound {c : Call} {x y : Operand} {x' y' : Opd} {t e : TypeId} {ei : TypeInfo} (ho : o.op = .call c) (hc : c.callee = .builtin .copy) (ha : c.args = #[x, y]) (hx : opd x = some x') (hy : opd y = some y')
    (ht : c.argTypes[0]? = some t) (hu : P.underlying t = some (.slice e)) (hei : P.info? e = some ei) (hk : simple ρ h nx (.copy ei.size x' y') K = true) : R P o ρ h nx K := by
  simp only [simple] at hk
  split at hk
  · rename_i d s hd hs
    rw [fN_eq] at hk
    obtain ⟨l, hl, hk1, hcells⟩ := cellsOfK_abs (P := P) hk
    obtain ⟨h', hk2, hwr⟩ := wrK_abs hl hk1
    refine R.write hk2 fun m w a hf hr => ?_
    have g1 := opd_sound hx hf
    have g2 := opd_sound hy hf
    obtain ⟨base, cap, e1⟩ := lenOf_sound hd g1
    obtain ⟨base2, cap2, e2⟩ := lenOf_sound hs g2
    obtain ⟨L, k1, b3, l3, c3, e3, k2⟩ := hcells m w _ hr g2
    obtain ⟨⟨w', j1, j2, j3⟩, _⟩ := hwr P m w hr _ g1 L k1 base d cap e1
    have hmin : (bif Nat.ble s d then s else d) = Nat.min s d := by
      cases hb : Nat.ble s d with
      | true => have := Nat.le_of_ble_eq_true hb; simp only [cond_true]; exact (Nat.min_eq_left this).symm
      | false =>
        have : ¬ s ≤ d := fun h => by rw [Nat.ble_eq_true_of_le h] at hb; cases hb
        simp only [cond_false]; exact (Nat.min_eq_right (by omega)).symm
    have k2 := k2 w rfl
    rw [hmin] at k2
    obtain ⟨consts, e4⟩ := exec_builtin (P := P) ho hc a w
    refine ⟨w', .value (goInt (Nat.min s d)), ?_, by rw [hmin]; rfl, j2, j3⟩
    have e5 : (Builtin.lenOf (a.eval y)).run P w = .ok s w := by rw [e2]; rfl
    have hcp : (Builtin.copy_ c.argTypes o.type #[a.eval x, a.eval y]).run P w = .ok (goInt (Nat.min s d)) w' := by
      unfold Builtin.copy_
      rw [e1]
      cases base with
      | some A =>
        have j1 : (storeCells A L).run P w = .ok () w' := j1
        simp [ht, run_underlying hu, e5, run_sizeOf' hei, k2, j1]
      | none =>
        have j1 : w = w' := by simpa [pure, Sem.run] using j1
        subst j1
        simp [ht, run_underlying hu, e5, run_sizeOf' hei, k2]
    rw [e4, ha, show (#[x, y].map a.eval) = #[a.eval x, a.eval y] by simp]
    simp only [builtin, Sem.run_bind, hcp, Result.andThen_ok, Sem.run_pure]
  · exact bad_ne hk

theorem clear_sound {c : Call} {x : Operand} {x' : Opd} {t e : TypeId} {ei : TypeInfo} {z : AV} (ho : o.op = .call c) (hc : c.callee = .builtin .clear) (ha : c.args = #[x]) (hx : opd x = some x')
    (ht : c.argTypes[0]? = some t) (hu : P.underlying t = some (.slice e)) (hz : zerosOf P e = some z) (hzl : z.cells.length = ei.size) (hk : simple ρ h nx (.clear ei.size z.cells x') K = true) : R P o ρ h nx K := by
  obtain ⟨Z, hZ, hzr⟩ := zerosOf_sound hz
  simp only [simple] at hk
  split at hk
  · rename_i n hn
    cases hb : Nat.blt n 1048576 with
    | false => rw [hb] at hk; exact bad_ne hk
    | true =>
    rw [hb] at hk; simp only [cond_true] at hk
    have hl : (List.replicate n z.cells).flatten.length = n * ei.size := by simp [hzl]
    obtain ⟨h', hk2, hwr⟩ := wrK_abs hl hk
    refine R.write hk2 fun m w a hf hr => ?_
    have g1 := opd_sound hx hf
    obtain ⟨base, cap, e1⟩ := lenOf_sound hn g1
    have hzc := (hzr m).cells
    have hzsz : Z.cells.size = ei.size := by have := hzc.length; rw [Array.length_toList] at this; omega
    obtain ⟨⟨w', j1, j2, j3⟩, j4⟩ := hwr P m w hr _ g1 _ (hzc.replicate n) base n cap e1
    obtain ⟨consts, e4⟩ := exec_builtin (P := P) ho hc a w
    refine ⟨w', .value (.tuple #[]), ?_, ⟨[], rfl, rfl⟩, j2, j3⟩
    have hcl : (Builtin.clear_ c.argTypes o.type #[a.eval x]).run P w = .ok (.tuple #[]) w' := by
      unfold Builtin.clear_
      rw [e1]
      cases n with
      | zero =>
        have j1 : w = w' := by
          cases base <;> simpa [storeCells] using j1
        subst j1
        cases base <;> simp [ht, run_underlying hu]
      | succ n =>
        obtain ⟨A, hA⟩ := j4 (by omega)
        subst hA
        have j1 : (storeCells A (List.replicate (n + 1) Z.cells.toList).flatten).run P w = .ok () w' := j1
        have e6 : (Builtin.zeroCells Z.cells (n + 1)).toList = (List.replicate (n + 1) Z.cells.toList).flatten := by
          unfold Builtin.zeroCells
          rw [replicate_array]
        simp [ht, run_underlying hu, hZ, e6, j1]
    rw [e4, ha, show (#[x].map a.eval) = #[a.eval x] by simp]
    simp only [builtin, Sem.run_bind, hcl, Result.andThen_ok, Sem.run_pure]
  · exact bad_ne hk

end
end Go.Ev
