/- The operations that make blocks, cut slices, ask and write maps; the built-in functions. -/
import Derived.Test.YtgkcpkhifgnjoaaGreatDoorEvH
namespace Go.Ev
open Go

section
variable {P : Program} {o : Oper} {ρ : Fr} {h : H} {nx : Pos} {K : AV → H → Pos → Bool}

theorem newK_eq (h : H) (nx : Pos) (ob : AObj) (k : Pos → H → Pos → Bool) : newK h nx ob k = k nx (T.set (some ob) nx h) nx.succ := by
  unfold newK; rw [putObjK_eq]

theorem CRep.list {m : PM} {l : List AV} {L : List Value} (hl : LRel m l L) (hsz : l.length < 2 ^ 60) {k : Nat} (hk : l.length ≤ k) : CRep m l.length k l .e 0 L.toArray := by
  refine ⟨hsz, fun i hi => ?_⟩
  have hb : Nat.blt i l.length = true := Nat.ble_eq_true_of_le hi
  obtain ⟨V, h1, h2⟩ := hl.get (i := i) (v := l[i]) (by rw [List.getElem?_eq_getElem hi])
  refine ⟨l[i], V, ?_, by simpa using h1, h2⟩
  have : Nat.mod i k = i := Nat.mod_eq_of_lt (by omega)
  simp [cellGet, hb, this, hi]

theorem soft_zero (c : Array Value) : Soft c (0, 0) := .inl rfl

theorem ORep.fresh {m : PM} {w : World} {s : Slot} {L : List Value} {e : TypeId} {l : List AV} (hl : LRel m l L) (hsz : l.length < 2 ^ 60) (hb : s.blk = w.heap.size) (h0 : s.off = 0) :
    ORep m (newW w (.cells L.toArray e)) s (.cells l.length l.length l .e) :=
  ⟨L.toArray, e, (0, 0), by rw [hb]; exact newW_get _ _, h0, by simp [hl.length], soft_zero _, CRep.list hl hsz (Nat.le_refl _)⟩

theorem zerosOf_sound {t : TypeId} {z : AV} (hz : zerosOf P t = some z) : ∃ Z, (∀ w, (zeroValue t).run P w = .ok Z w) ∧ ∀ m, VRel m z Z := by
  unfold zerosOf at hz
  split at hz
  · rename_i i hi
    split at hz
    · rename_i Z hZ
      exact ⟨Z, fun w => by simp [zeroValue, typeInfo, hi, hZ], fun m => avOf_sound m hz⟩
    · cases hz
  · cases hz

theorem s_alloc {t : TypeId} (ho : o.op = .alloc t) (hk : simple ρ h nx (conv P o) K = true) : R P o ρ h nx K := by
  simp only [conv, ho] at hk
  split at hk
  · rename_i z hz
    cases hb : Nat.blt z.cells.length 1048576 with
    | false => rw [hb] at hk; exact bad_ne hk
    | true =>
      rw [hb] at hk; simp only [cond_true, simple, newK_eq] at hk
      have hb := blt_lt hb
      have hp : (1048576 : Nat) < 2 ^ 60 := by decide
      obtain ⟨Z, h1, h2⟩ := zerosOf_sound hz
      refine R.new 0 hk fun m w a hf hr hid => ?_
      have hc := (h2 (m.set nx ⟨w.heap.size, 0, 0⟩)).cells
      refine ⟨.cells Z.cells t, .pointer (some ⟨w.heap.size, 0, none⟩), ?_, ?_, ⟨_, PM.set_same _ _ _, rfl⟩⟩
      · simp [execOp, ho, Instr.alloc, h1, newVar, newRow, newW]
      · have := ORep.fresh (w := w) (s := ⟨w.heap.size, 0, 0⟩) (e := t) hc (by omega) rfl rfl
        simpa using this
  · exact bad_ne hk

theorem s_box {t : TypeId} {x : Operand} (ho : o.op = .box t x) (hk : simple ρ h nx (conv P o) K = true) : R P o ρ h nx K := by
  simp only [conv, ho] at hk
  split at hk
  · rename_i x' hx
    simp only [simple] at hk
    cases hb : Nat.blt (ev ρ x').cells.length 1048576 with
    | false => rw [hb] at hk; exact bad_ne hk
    | true =>
      rw [hb] at hk; simp only [cond_true, newK_eq] at hk
      have hb := blt_lt hb
      have hp : (1048576 : Nat) < 2 ^ 60 := by decide
      refine R.new 0 hk fun m w a hf hr hid => ?_
      have hc := (opd_sound hx (hf.mono (PLe.set ⟨w.heap.size, 0, 0⟩ hid))).cells
      refine ⟨.cells (a.eval x).cells t, .pointer (some ⟨w.heap.size, 0, none⟩), ?_, ?_, ⟨_, PM.set_same _ _ _, rfl⟩⟩
      · simp [execOp, ho, Instr.box, newVar, newRow, newW]
      · have := ORep.fresh (w := w) (s := ⟨w.heap.size, 0, 0⟩) (e := t) hc (by omega) rfl rfl
        simpa using this
  · exact bad_ne hk

theorem s_makeMap {t : TypeId} {r : Option Operand} (ho : o.op = .makeMap t r) (hk : simple ρ h nx (conv P o) K = true) : R P o ρ h nx K := by
  have fin : ∀ ks, r = none → simple ρ h nx (.mkMap ks) K = true → R P o ρ h nx K := by
    rintro ks rfl hk
    simp only [simple, newK_eq] at hk
    refine R.new 0 hk fun m w a hf hr hid => ?_
    refine ⟨.map #[] 0, .map (some w.heap.size), ?_, ?_, ⟨_, PM.set_same _ _ _, rfl⟩⟩
    · simp [execOp, ho, Instr.makeMap, newW]
    · exact ⟨#[], 0, [], newW_get _ _, List.Perm.refl _, rfl, by simp, List.Pairwise.nil, MapKept.stamped_empty _⟩
  cases r with
  | some x => rw [show conv P o = .bad "op" by simp only [conv, ho]] at hk; exact bad_ne hk
  | none =>
    simp only [conv, ho] at hk
    split at hk
    · split at hk
      · exact fin false rfl hk
      · exact fin true rfl hk
      · exact bad_ne hk
    · exact bad_ne hk

theorem s_makeChan {t : TypeId} {x : Operand} (ho : o.op = .makeChan t x) (hk : simple ρ h nx (conv P o) K = true) : R P o ρ h nx K := by
  simp only [conv, ho] at hk
  split at hk
  · rename_i x' dd e hx hu
    split at hk
    · rename_i i hi
      cases hbt : Nat.ble i.bytes 1024 with
      | false => rw [hbt] at hk; exact bad_ne hk
      | true =>
        rw [hbt] at hk; simp only [cond_true, simple] at hk
        have hbt := Nat.le_of_ble_eq_true hbt
        split at hk
        · rename_i n hev
          cases hb : Nat.ble n 16777216 with
          | false => rw [hb] at hk; exact bad_ne hk
          | true =>
            rw [hb] at hk; simp only [cond_true, newK_eq] at hk
            have hb := Nat.le_of_ble_eq_true hb
            refine R.new 0 hk fun m w a hf hr hid => ?_
            have g1 := opd_sound hx hf; rw [hev] at g1
            have g1 : a.eval x = .int .i64 (.ofNat n) := g1
            have hcond : ¬ (Int.ofNat n < 0 ∨ Int.ofNat n > IntKind.i64.max ∨ (i.bytes : Int) * Int.ofNat n > 2 ^ 48 - 112) := by
              have hmul : i.bytes * n ≤ 1024 * 16777216 := Nat.mul_le_mul hbt hb
              have e1 : (i.bytes : Int) * Int.ofNat n = ((i.bytes * n : Nat) : Int) := by simp
              have e2 : IntKind.i64.max = 9223372036854775807 := rfl
              rw [e1, e2]
              show ¬ ((n : Int) < 0 ∨ (n : Int) > _ ∨ _)
              omega
            refine ⟨.chan n #[] false 0 0 false, .chan (some w.heap.size), ?_, ?_, ⟨_, PM.set_same _ _ _, rfl⟩⟩
            · have hrun : (Instr.makeChan t (.int .i64 (Int.ofNat n))).run P w = .ok (.chan (some w.heap.size)) (newW w (.chan n #[] false 0 0 false)) := by
                unfold Instr.makeChan
                have ht : (typeInfo e).run P w = .ok i w := by simp [typeInfo, hi]
                simp only [asInt, asIntOf, Sem.run_bind, Sem.run_pure, Result.andThen, run_underlying hu, ht]
                rw [if_neg hcond]
                rfl
              rw [← g1] at hrun
              simp [execOp, ho, hrun]
            · exact ⟨#[], 0, 0, newW_get _ _, rfl⟩
        · exact bad_ne hk
    · exact bad_ne hk
  · exact bad_ne hk

/-! ### parts put together -/
theorem take_drop_set {α : Type} (c l : List α) (off : Nat) (h : off + l.length ≤ c.length) (i : Nat) :
    (c.take off ++ (l ++ c.drop (off + l.length)))[i]? = if off ≤ i ∧ i < off + l.length then l[i - off]? else c[i]? := by
  rw [List.getElem?_append]
  have h1 : (c.take off).length = off := by rw [List.length_take]; omega
  rw [h1]
  by_cases c1 : i < off
  · rw [if_pos c1, if_neg (by omega), List.getElem?_take, if_pos c1]
  · rw [if_neg c1, List.getElem?_append]
    by_cases c2 : i - off < l.length
    · rw [if_pos c2, if_pos (by omega)]
    · rw [if_neg c2, if_neg (by omega), List.getElem?_drop]
      congr 1; omega

theorem foldl_set (off : Nat) : ∀ (L : List Value) (j : Nat) (cs : Array Value), (L.zipIdx j).foldl (fun cs (p : Value × Nat) => cs.setIfInBounds (off + p.2) p.1) cs = wr cs (off + j) L
  | [], _, _ => rfl
  | V :: L, j, cs => by
    simp only [List.zipIdx_cons, List.foldl_cons, wr]
    exact foldl_set off L (j + 1) _

/-- Parts written over cells, one behind the other: the model's way and the evaluator's. -/
theorem fill_sound {m : PM} {a : Act} (hf : FRel m ρ a) (place : Nat → Option (Nat × Nat)) : ∀ {ps : List (Nat × Operand)} {qs : List (Nat × Nat × Opd)} {z r : List AV} {Z : List Value},
    ps.length = qs.length →
    (∀ (j : Nat) (p : Nat × Operand) (q : Nat × Nat × Opd), ps[j]? = some p → qs[j]? = some q → place p.1 = some (q.1, q.2.1) ∧ opd p.2 = some q.2.2) →
    fillParts ρ z qs = some r → LRel m z Z → ∃ L, Instr.fill place Z.toArray (ps.map fun p => (p.1, a.eval p.2)) = some L.toArray ∧ LRel m r L
  | [], [], z, r, Z, _, _, hr, hz => by
    simp [fillParts] at hr; subst hr
    exact ⟨Z, by simp [Instr.fill], hz⟩
  | [], _ :: _, _, _, _, h, _, _, _ => by simp at h
  | _ :: _, [], _, _, _, h, _, _, _ => by simp at h
  | p :: ps, (off, size, x) :: qs, z, r, Z, hlen, hpq, hr, hz => by
    obtain ⟨h1, h2⟩ := hpq 0 p (off, size, x) rfl rfl
    dsimp only at h1 h2
    simp only [fillParts] at hr
    cases hb : (Nat.beq (ev ρ x).cells.length size && Nat.ble (Nat.add off size) z.length) with
    | false => rw [hb] at hr; simp at hr
    | true =>
      rw [hb] at hr; simp only [cond_true] at hr
      simp only [Bool.and_eq_true] at hb
      have hb1 := Nat.eq_of_beq_eq_true hb.1
      have hb2 : off + size ≤ z.length := Nat.le_of_ble_eq_true hb.2
      have hv := (opd_sound h2 hf).cells
      have hvl := hv.length
      have hzl := hz.length
      rw [Array.length_toList] at hvl
      have hnew : LRel m (z.take off ++ ((ev ρ x).cells ++ z.drop (Nat.add off size))) (Z.take off ++ ((a.eval p.2).cells.toList ++ Z.drop (off + size))) :=
        (hz.take off).append (hv.append (hz.drop (off + size)))
      obtain ⟨L, g1, g2⟩ := fill_sound hf place (ps := ps) (qs := qs) (by simpa using hlen) (fun j p' q' hp hq => hpq (j + 1) p' q' (by simpa using hp) (by simpa using hq)) hr hnew
      refine ⟨L, ?_, g2⟩
      rw [List.map_cons, Instr.fill]
      simp only [h1]
      have hno : ((a.eval p.2).cells.size ≠ size || decide (off + (a.eval p.2).cells.size > Z.toArray.size)) = false := by
        simp; omega
      rw [hno]
      simp only [Bool.false_eq_true, if_false]
      have e : Array.foldl (fun cs (x : Value × Nat) => match x with | (c, j) => cs.setIfInBounds (off + j) c) Z.toArray (a.eval p.2).cells.zipIdx = (Z.take off ++ ((a.eval p.2).cells.toList ++ Z.drop (off + size))).toArray := by
        rw [← Array.foldl_toList]
        have e1 : (a.eval p.2).cells.zipIdx.toList = (a.eval p.2).cells.toList.zipIdx 0 := by simp
        rw [e1]
        have e2 := foldl_set off (a.eval p.2).cells.toList 0 Z.toArray
        refine Eq.trans e2 ?_
        apply Array.ext_getElem?
        intro i
        rw [wr_get _ _ _ _ (by simp; omega)]
        have e3 := take_drop_set Z (a.eval p.2).cells.toList off (by simp; omega) i
        rw [show off + (a.eval p.2).cells.toList.length = off + size by rw [Array.length_toList]; omega] at e3
        rw [List.getElem?_toArray, List.getElem?_toArray, e3]
        simp only [Nat.add_zero, Array.length_toList]
        rw [show (a.eval p.2).cells.size = size by omega]
      rw [e]
      exact g1

theorem allOf_length {α β : Type} {f : α → Option β} : ∀ {l : List α} {r : List β}, allOf f l = some r → r.length = l.length
  | [], r, h => by simp [allOf] at h; subst h; rfl
  | a :: l, r, h => by
    unfold allOf at h
    split at h
    · rename_i b bs h1 h2
      simp at h; subst h; simp [allOf_length h2]
    · cases h

theorem allOf_get {α β : Type} {f : α → Option β} : ∀ {l : List α} {r : List β}, allOf f l = some r → ∀ (j : Nat) (a : α) (b : β), l[j]? = some a → r[j]? = some b → f a = some b
  | [], r, _, j, a, b, h, _ => by simp at h
  | x :: l, r, h, j, a, b, ha, hb => by
    unfold allOf at h
    split at h
    · rename_i y ys h1 h2
      simp at h; subst h
      cases j with
      | zero => simp at ha hb; subst ha hb; exact h1
      | succ j => exact allOf_get h2 j a b (by simpa using ha) (by simpa using hb)
    · cases h

theorem run_mapM_places {fs : List Field} (hall : ∀ f ∈ fs, (P.info? f.type).isSome = true) (w : World) :
    (fs.mapM fun f => (do pure (f.offset, ← sizeOf f.type) : Sem (Nat × Nat))).run P w = .ok (fs.map fun f => (f.offset, P.cellsOf f.type)) w := by
  induction fs with
  | nil => simp
  | cons f fs ih =>
    have h1 := hall f (by simp)
    obtain ⟨i, hi⟩ := Option.isSome_iff_exists.1 h1
    have := ih fun g hg => hall g (by simp [hg])
    simp only [List.mapM_cons, Sem.run_bind, run_sizeOf' hi, Result.andThen_ok, Sem.run_pure, this]
    simp [Program.cellsOf, hi]

theorem s_build {t : TypeId} {ps : Array (Nat × Operand)} (ho : o.op = .build t ps) (hk : simple ρ h nx (conv P o) K = true) : R P o ρ h nx K := by
  simp only [conv, ho] at hk
  split at hk
  · rename_i z fs hz hu
    split at hk
    · rename_i l hl hall
      simp only [simple] at hk
      split at hk
      · rename_i r hr
        obtain ⟨Z, hZ, hzr⟩ := zerosOf_sound hz
        refine R.pure (v := .agg r) hk fun m w a hf _ => ?_
        obtain ⟨ZL, g1, g2⟩ := hzr m
        have hplaces : ∀ w, (fs.mapM fun f => (do pure (f.offset, ← sizeOf f.type) : Sem (Nat × Nat))).run P w = .ok (fs.toList.map fun f => (f.offset, P.cellsOf f.type)).toArray w := by
          intro w
          have h1 := run_mapM_places (P := P) (fs := fs.toList) (fun f hf => by
            rw [Array.all_eq_true'] at hall
            exact hall f (by simpa using hf)) w
          rw [← Array.toArray_toList (xs := fs), List.mapM_toArray]
          simp only [Sem.run_map, h1, Result.andThen_ok]
        have hlen := allOf_length hl
        obtain ⟨L, k1, k2⟩ := fill_sound hf ((fs.toList.map fun f => (f.offset, P.cellsOf f.type)).toArray[·]?) (ps := ps.toList) (qs := l) hlen.symm (fun j p q hp hq => by
          have := allOf_get hl j p q hp hq
          split at this
          · rename_i f x hf1 hx
            split at this
            · rename_i fi hfi
              simp at this; subst this
              refine ⟨?_, hx⟩
              simp [hf1, Program.cellsOf, hfi]
            · cases this
          · cases this) hr g1
        refine ⟨.agg L.toArray, ?_, ⟨L, k2, rfl⟩⟩
        have e1 : (ps.map fun x : Nat × Operand => match x with | (i, y) => (i, a.eval y)).toList = ps.toList.map fun p => (p.1, a.eval p.2) := by simp
        simp only [execOp, ho, Sem.run_bind, Instr.build, hZ, Result.andThen_ok, g2, Value.cells, run_underlying hu, hplaces, e1, k1, Sem.run_pure]
      · exact bad_ne hk
    · exact bad_ne hk
  · rename_i z n e hz hu
    split at hk
    · rename_i ei hei
      split at hk
      · rename_i l hl
        simp only [simple] at hk
        split at hk
        · rename_i r hr
          obtain ⟨Z, hZ, hzr⟩ := zerosOf_sound hz
          refine R.pure (v := .agg r) hk fun m w a hf _ => ?_
          obtain ⟨ZL, g1, g2⟩ := hzr m
          have hlen := allOf_length hl
          obtain ⟨L, k1, k2⟩ := fill_sound hf (fun i => some (i * ei.size, ei.size)) (ps := ps.toList) (qs := l) hlen.symm (fun j p q hp hq => by
            have := allOf_get hl j p q hp hq
            split at this
            · rename_i x hx
              simp at this; subst this
              exact ⟨rfl, hx⟩
            · cases this) hr g1
          refine ⟨.agg L.toArray, ?_, ⟨L, k2, rfl⟩⟩
          have e1 : (ps.map fun x : Nat × Operand => match x with | (i, y) => (i, a.eval y)).toList = ps.toList.map fun p => (p.1, a.eval p.2) := by simp
          simp only [execOp, ho, Sem.run_bind, Instr.build, hZ, Result.andThen_ok, g2, Value.cells, run_underlying hu, run_sizeOf' hei, e1, k1, Sem.run_pure]
        · exact bad_ne hk
      · exact bad_ne hk
    · exact bad_ne hk
  · exact bad_ne hk

theorem LRel.replicate {m : PM} {z : List AV} {Z : List Value} (hz : LRel m z Z) : ∀ n, LRel m (List.replicate n z).flatten (List.replicate n Z).flatten
  | 0 => LRel.nil
  | n + 1 => by simp only [List.replicate_succ, List.flatten_cons]; exact hz.append (LRel.replicate hz n)

theorem flatten_get {α : Type} [Inhabited α] (z : List α) (hz : z.length ≠ 0) : ∀ (n i : Nat), i < n * z.length → ((List.replicate n z).flatten)[i]? = some (z[i % z.length]!)
  | 0, i, h => by simp at h
  | n + 1, i, h => by
    rw [List.replicate_succ, List.flatten_cons, List.getElem?_append]
    split
    · rename_i hlt
      rw [Nat.mod_eq_of_lt hlt, List.getElem!_eq_getElem?_getD, List.getElem?_eq_getElem hlt]; rfl
    · rename_i hge
      rw [flatten_get z hz n (i - z.length) (by rw [Nat.succ_mul] at h; omega)]
      congr 2
      exact (Nat.mod_eq_sub_mod (by omega)).symm

theorem replicate_array (Z : Array Value) (n : Nat) : ((Array.range (n * Z.size)).map fun i => Z[i % Z.size]!) = (List.replicate n Z.toList).flatten.toArray := by
  by_cases hz : Z.size = 0
  · have : Z = #[] := Array.eq_empty_of_size_eq_zero hz
    subst this; simp
  · apply Array.ext_getElem?
    intro i
    rw [List.getElem?_toArray (xs := (List.replicate n Z.toList).flatten)]
    by_cases hi : i < n * Z.size
    · rw [flatten_get Z.toList (by simpa using hz) n i (by simpa using hi)]
      have hlt : i % Z.size < Z.size := Nat.mod_lt _ (by omega)
      simp [hi, hlt]
    · rw [Array.getElem?_eq_none (by simpa using hi), List.getElem?_eq_none (by simpa using hi)]

theorem s_buildSlice {t : TypeId} {len : Nat} {ps : Array (Nat × Operand)} (ho : o.op = .buildSlice t len ps) (hk : simple ρ h nx (conv P o) K = true) : R P o ρ h nx K := by
  simp only [conv, ho] at hk
  split at hk
  · rename_i e hu
    split at hk
    · rename_i z ei hz hei
      cases hb : (Nat.beq z.cells.length ei.size && Nat.ble (Nat.mul len ei.size) 65536) with
      | false => rw [hb] at hk; exact bad_ne hk
      | true =>
        rw [hb] at hk; simp only [cond_true] at hk
        simp only [Bool.and_eq_true] at hb
        have hb1 := Nat.eq_of_beq_eq_true hb.1
        have hb2 : len * ei.size ≤ 65536 := Nat.le_of_ble_eq_true hb.2
        split at hk
        · rename_i l hl
          simp only [simple] at hk
          split at hk
          · rename_i r hr
            cases hb3 : Nat.beq r.length (Nat.mul len ei.size) with
            | false => rw [hb3] at hk; exact bad_ne hk
            | true =>
            rw [hb3] at hk
            have hb3 : r.length = len * ei.size := Nat.eq_of_beq_eq_true hb3
            simp only [cond_true, newK_eq] at hk
            have hp : (65536 : Nat) < 2 ^ 60 := by decide
            obtain ⟨Z, hZ, hzr⟩ := zerosOf_sound hz
            refine R.new len hk fun m w a hf hr' hid => ?_
            have hf' := hf.mono (PLe.set (⟨w.heap.size, 0, len⟩ : Slot) hid)
            have hzc := (hzr (m.set nx ⟨w.heap.size, 0, len⟩)).cells
            have hzl := hzc.length
            rw [Array.length_toList] at hzl
            have hlen := allOf_length hl
            obtain ⟨L, k1, k2⟩ := fill_sound hf' (fun i => some (i * ei.size, ei.size)) (ps := ps.toList) (qs := l) hlen.symm (fun j p q hp hq => by
              have := allOf_get hl j p q hp hq
              split at this
              · rename_i x hx
                simp at this; subst this
                exact ⟨rfl, hx⟩
              · cases this) hr (hzc.replicate len)
            have hnw : (newW w (.cells L.toArray e)).heap[w.heap.size]? = some (.cells L.toArray e) := newW_get _ _
            refine ⟨.cells L.toArray e, .slice (some ⟨w.heap.size, 0, none⟩) len len, ?_, ?_, ⟨_, PM.set_same _ _ _, rfl⟩⟩
            · have e1 : (ps.map fun x : Nat × Operand => match x with | (i, y) => (i, a.eval y)).toList = ps.toList.map fun p => (p.1, a.eval p.2) := by simp
              have hsz : ¬ (len * ei.size > 2 ^ 24) := by
                have : (65536 : Nat) < 2 ^ 24 := by decide
                omega
              have hzs : Z.cells.size = ei.size := by omega
              have e2 : ((Array.range (len * ei.size)).map fun i => Z.cells[i % Z.cells.size]!) = (List.replicate len Z.cells.toList).flatten.toArray := by rw [← hzs]; exact replicate_array _ _
              by_cases h0 : len * ei.size = 0
              · have e3 : (List.replicate len Z.cells.toList).flatten.toArray = #[] := by
                  rw [← e2, h0]; simp
                rw [e3] at k1
                have e4 : ∀ f : Nat → Value, (Array.range 0).map f = #[] := fun f => by simp
                simp only [execOp, ho, Sem.run_bind, Instr.buildSlice, run_underlying hu, Result.andThen_ok, run_sizeOf' hei, Sem.run_ite, Sem.run_pure, h0, e1, e4, newRow, k1]
                simp [newW]
              · rw [← e2] at k1
                simp only [execOp, ho, Sem.run_bind, Instr.buildSlice, run_underlying hu, Result.andThen_ok, run_sizeOf' hei, Sem.run_ite, if_neg hsz, if_neg h0, Sem.run_pure, hZ, e1, newRow]
                simp [k1, newW]
            · have hrl := k2.length
              refine ⟨L.toArray, e, (0, 0), hnw, rfl, by simp [hrl, hb3], soft_zero _, ?_⟩
              have := CRep.list k2 (by omega) (Nat.le_refl _)
              rwa [hb3] at this
          · exact bad_ne hk
        · exact bad_ne hk
    · exact bad_ne hk
  · exact bad_ne hk

end
end Go.Ev
