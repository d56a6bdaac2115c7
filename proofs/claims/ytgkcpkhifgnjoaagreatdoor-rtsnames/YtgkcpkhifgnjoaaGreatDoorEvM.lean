/- append. -/
import Derived.Test.YtgkcpkhifgnjoaaGreatDoorEvL
namespace Go.Ev
open Go

theorem growBy_le : ∀ (r n c : Nat), c < n → Builtin.growBy n r c ≤ 2 * n + 200
  | 0, n, c, h => by simp [Builtin.growBy]; omega
  | r + 1, n, c, h => by
    unfold Builtin.growBy
    rw [if_neg (by omega)]
    by_cases h2 : c + (c + 768) / 4 < n
    · exact growBy_le r n _ h2
    · have : Builtin.growBy n r (c + (c + 768) / 4) = c + (c + 768) / 4 := by
        cases r with
        | zero => rfl
        | succ r => unfold Builtin.growBy; rw [if_pos (by omega)]
      rw [this]; omega

theorem nextslicecap_le {n c : Nat} (h : c < n) : Builtin.nextslicecap n c ≤ 2 * n + 200 := by
  unfold Builtin.nextslicecap
  split
  · omega
  · split
    · omega
    · exact growBy_le 4 n c h

section
variable {P : Program} {o : Oper} {ρ : Fr} {h : H} {nx : Pos} {K : AV → H → Pos → Bool}

theorem Rep.heap {m : PM} {w w' : World} (hr : Rep m h w) (e : w'.heap = w.heap) : Rep m h w' :=
  ⟨fun id ob hg => let ⟨s, a, b, c⟩ := hr.obj id ob hg; ⟨s, a, by rw [e]; exact b, c.move (PLe.refl m) (by rw [e])⟩, hr.inj⟩

def drewW (w : World) : World := { w with drawn := w.drawn + 1 }
theorem Ext.drew (m : PM) (h : H) (w : World) : Ext m h w m h (drewW w) :=
  ⟨PLe.refl m, Nat.le_refl _, fun _ _ _ => rfl, fun id ob s h1 h2 _ => ⟨id, ob, s, h1, h2, rfl⟩, rfl, rfl, rfl⟩

variable {at_ : Array TypeId} {ty t u e e2 : TypeId} {ei : TypeInfo} {w : World}

theorem run_append_in (h0 : at_[0]? = some t) (h1 : at_[1]? = some u) (hu : P.underlying t = some (.slice e)) (hu2 : P.underlying u = some (.slice e2)) (hei : P.info? e = some ei) {A : Addr} {sLen sCap : Nat} {xb : Option Addr} {n xc : Nat} (hle : sLen + n ≤ sCap)
    {new : Array Value} (hnew : (Builtin.firstCells ei.size n (.slice xb n xc)).run P w = .ok new w) {w' : World} (hst : (storeCells (A.add (sLen * ei.size)) new.toList).run P w = .ok () w') :
    (Builtin.append_ at_ ty #[.slice (some A) sLen sCap, .slice xb n xc]).run P w = .ok (.slice (some A) (sLen + n) sCap) w' := by
  have hinfo : ∀ w, (typeInfo e).run P w = .ok ei w := fun w => by simp [typeInfo, hei]
  unfold Builtin.append_
  simp only [h0, h1, List.getElem?_toArray, List.getElem?_cons_zero, List.getElem?_cons_succ, Sem.run_bind, run_underlying hu, run_underlying hu2, Result.andThen_ok, run_sizeOf' hei, Sem.run_pure, Builtin.lenOf, Sem.run_ite, hinfo, Bool.false_eq_true, if_false, Bool.not_false, if_true]
  rw [if_pos hle]
  simp [hnew, hst]

theorem run_append_in_none (h0 : at_[0]? = some t) (h1 : at_[1]? = some u) (hu : P.underlying t = some (.slice e)) (hu2 : P.underlying u = some (.slice e2)) (hei : P.info? e = some ei) {sLen sCap : Nat} {xb : Option Addr} {n xc : Nat} (hle : sLen + n ≤ sCap)
    {new : Array Value} (hnew : (Builtin.firstCells ei.size n (.slice xb n xc)).run P w = .ok new w) :
    (Builtin.append_ at_ ty #[.slice none sLen sCap, .slice xb n xc]).run P w = .ok (.slice none (sLen + n) sCap) w := by
  have hinfo : ∀ w, (typeInfo e).run P w = .ok ei w := fun w => by simp [typeInfo, hei]
  unfold Builtin.append_
  simp only [h0, h1, List.getElem?_toArray, List.getElem?_cons_zero, List.getElem?_cons_succ, Sem.run_bind, run_underlying hu, run_underlying hu2, Result.andThen_ok, run_sizeOf' hei, Sem.run_pure, Builtin.lenOf, Sem.run_ite, hinfo, Bool.false_eq_true, if_false, Bool.not_false, if_true]
  rw [if_pos hle]
  simp [hnew]

theorem run_append_new (h0 : at_[0]? = some t) (h1 : at_[1]? = some u) (hu : P.underlying t = some (.slice e)) (hu2 : P.underlying u = some (.slice e2)) (hei : P.info? e = some ei) {base : Option Addr} {sLen sCap : Nat} {xb : Option Addr} {n xc : Nat} (hgt : sCap < sLen + n)
    (hb1 : sLen + n < 4194304) (hb2 : ei.bytes < 65536) {Z : Value} (hZ : ∀ w, (zeroValue e).run P w = .ok Z w)
    {old new : Array Value} (hold : (Builtin.firstCells ei.size sLen (.slice base sLen sCap)).run P (drewW w) = .ok old (drewW w)) (hnew : (Builtin.firstCells ei.size n (.slice xb n xc)).run P (drewW w) = .ok new (drewW w)) :
    ∃ cap, sLen + n ≤ cap ∧ (Builtin.append_ at_ ty #[.slice base sLen sCap, .slice xb n xc]).run P w =
      .ok (.slice (some ⟨w.heap.size, 0, none⟩) (sLen + n) cap) (newW (drewW w) (.cells (old ++ new ++ Builtin.zeroCells Z.cells (cap - (sLen + n))) e)) := by
  refine ⟨(Question.appendCap (sLen + n) sCap e).cut (w.tape w.drawn (.appendCap (sLen + n) sCap e)), Nat.le_add_right _ _, ?_⟩
  have hinfo : ∀ w, (typeInfo e).run P w = .ok ei w := fun w => by simp [typeInfo, hei]
  unfold Builtin.append_
  simp only [h0, h1, List.getElem?_toArray, List.getElem?_cons_zero, List.getElem?_cons_succ, Sem.run_bind, run_underlying hu, run_underlying hu2, Result.andThen_ok, run_sizeOf' hei, Sem.run_pure, Builtin.lenOf, Sem.run_ite, hinfo, Bool.false_eq_true, if_false, Bool.not_false, if_true]
  rw [if_neg (by omega)]
  have c1 : ¬ (((sLen + n : Nat) : Int) > IntKind.i64.max) := by
    intro h
    simp [IntKind.max, IntKind.signed, IntKind.bits] at h
    omega
  have c2 : ¬ (Builtin.nextslicecap (sLen + n) sCap * ei.bytes > 2 ^ 48) := by
    have := nextslicecap_le hgt
    have h3 : Builtin.nextslicecap (sLen + n) sCap * ei.bytes ≤ (2 * 4194304 + 200) * 65536 := Nat.mul_le_mul (by omega) (by omega)
    have h4 : (2 * 4194304 + 200) * 65536 ≤ 2 ^ 48 := by decide
    omega
  have hch : ∀ q : Question, q.forced = false → (choose q).run P w = .ok (q.cut (w.tape w.drawn q)) (drewW w) := fun q hq => by
    rw [run_choose, hq]; rfl
  rw [if_neg (show ¬ (_ ∧ _) from fun h => c1 h.1), if_neg c2]
  simp only [Sem.run_bind, Sem.run_pure, Result.andThen_ok, hch _ (show (Question.appendCap (sLen + n) sCap e).forced = false from rfl), run_askRoom, hold, hnew, hZ, newRow, run_newObj]
  rfl

theorem zeroCells_size (z : Array Value) (n : Nat) : (Builtin.zeroCells z n).size = n * z.size := by simp [Builtin.zeroCells]

/-- What a new row of cells is, seen as a grown block. -/
theorem grown_fresh {m : PM} {w1 : World} {s : Slot} {A : Array Value} {e : TypeId} {es ext k : Nat} {d : List AV} {tt : T AV} (hb : s.blk = w1.heap.size) (h0 : s.off = 0) (hsz : s.cap * es = A.size) (hext : ext ≤ s.cap * es) (hes : 0 < es) (hc : CRep m ext k d tt 0 A) :
    ORep m (newW w1 (.cells A e)) s (.grown es ext k d tt) :=
  ⟨A, e, (0, 0), by rw [hb]; exact newW_get _ _, by omega, hext, hes, soft_zero _, by rw [h0]; exact hc⟩

theorem CRep.list_pre {m : PM} {l : List AV} {L : List Value} (hl : LRel m l L) (hsz : l.length < 2 ^ 60) {B : Array Value} (hB : ∀ (i : Nat), i < l.length → B[i]? = L[i]?) : CRep m l.length l.length l .e 0 B := by
  have := CRep.list hl hsz (Nat.le_refl _)
  refine ⟨this.1, fun i hi => ?_⟩
  obtain ⟨v, V, a, b, c⟩ := this.2 i hi
  refine ⟨v, V, a, ?_, c⟩
  rw [Nat.zero_add] at b ⊢
  rw [hB i hi, ← b]; simp

/-- A grown block grown on: its new cells behind the old ones. -/
theorem CRep.grow {m : PM} {ext k : Nat} {d : List AV} {tt : T AV} {off : Nat} {c B : Array Value} {q off' : Nat} {l : List AV} {L : List Value} (hc : CRep m ext k d tt off c) (hl : LRel m l L) (hq : q ≤ ext) (hsz : q + l.length < 2 ^ 60)
    (h1 : ∀ i, i < q → B[off' + i]? = c[off + i]?) (h2 : ∀ i, i < l.length → B[off' + (q + i)]? = L[i]?) : CRep m (q + l.length) k d (setCells tt q l) off' B := by
  have hp : (2 : Nat) ^ 60 < 2 ^ 64 := by decide
  refine ⟨hsz, fun i hi => ?_⟩
  have hblt : Nat.blt i (q + l.length) = true := Nat.ble_eq_true_of_le hi
  have hget := setCells_get l tt q i (by omega) (by omega)
  by_cases hi2 : q ≤ i
  · rw [if_pos ⟨hi2, hi⟩] at hget
    obtain ⟨v, hv⟩ : ∃ v, l[i - q]? = some v := ⟨l[i - q]'(by omega), List.getElem?_eq_getElem (by omega)⟩
    obtain ⟨V, k1, k2⟩ := hl.get hv
    refine ⟨v, V, by simp only [cellGet, hblt, cond_true, hget, hv], ?_, k2⟩
    have := h2 (i - q) (by omega)
    rw [show off' + (q + (i - q)) = off' + i by omega] at this
    rw [this, k1]
  · rw [if_neg (by omega)] at hget
    obtain ⟨v, V, a1, a2, a3⟩ := hc.2 i (by omega)
    have hblt2 : Nat.blt i ext = true := Nat.ble_eq_true_of_le (by omega : i < ext)
    refine ⟨v, V, ?_, by rw [h1 i (by omega)]; exact a2, a3⟩
    simp only [cellGet, hblt, hblt2, cond_true, hget] at a1 ⊢
    exact a1

end
end Go.Ev
