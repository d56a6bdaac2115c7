/- prim.Names' maps, as the shelf sees them. -/
import Derived.Test.YtgkcpkhifgnjoaaGreatDoorNmS
import Derived.Test.YtgkcpkhifgnjoaaGreatDoorNmD
import Derived.Sort.KeysCollected
namespace Go.Ev
open Go Go.Proofs Go.RowKit Go.Maps Go.WideElems Go.WideShapes
set_option maxRecDepth 100000

/-- The strings that the keys are. -/
def strsOf : List AV → List (List UInt8)
  | [] => []
  | .str n v :: l => bytesOf n v :: strsOf l
  | _ :: l => strsOf l
def allStr : List AV → Bool
  | [] => true
  | .str n _ :: l => decide (n ≤ 1000) && allStr l
  | _ => false

theorem keys_strs {m : PM} : ∀ {es : List (AV × AV)} {L : List MapEntry}, MRel m es L → allStr (es.map Prod.fst) = true → L.map (·.key) = (strsOf (es.map Prod.fst)).map Go.Proofs.encStr ∧ ∀ x ∈ strsOf (es.map Prod.fst), x.length ≤ 1000
  | [], L, h, _ => by
    have h : L = [] := h
    subst h; exact ⟨rfl, by simp [strsOf]⟩
  | (k, v) :: es, L, ⟨e, L', h1, h2, h3, h4⟩, ha => by
    subst h4
    cases k <;> simp only [List.map_cons, allStr, Bool.and_eq_true, decide_eq_true_eq, Bool.false_eq_true] at ha
    rename_i n u
    obtain ⟨g1, g2⟩ := keys_strs h3 ha.2
    have h1 : e.key = _ := h1
    refine ⟨by simp [strsOf, g1, h1, Go.Proofs.encStr, strOf], ?_⟩
    intro x hx
    simp only [List.map_cons, strsOf, List.mem_cons] at hx
    rcases hx with rfl | hx
    · rw [bytesOf_length]; exact ha.1
    · exact g2 x hx

/-- The map, as the shelf sees it. -/
theorem owns_of {P : Program} {k : TypeId} (hk : P.underlying k = some .string) {w : World} {b : Nat} {mes : Array MapEntry} {clock : Nat} (hb : w.heap[b]? = some (.map mes clock)) (hs : MapKept.Stamped mes clock)
    {m : PM} {L : List MapEntry} {es : List (AV × AV)} (hp : L.Perm mes.toList) (hM : MRel m es L) (ha : allStr (es.map Prod.fst) = true) (hlen : es.length ≤ 1000) :
    ∃ D0 : DataW Unit, w.ownsMap P k (fun _ => some (.nil, [])) b es.length D0 ∧ (strKeys D0).Perm (strsOf (es.map Prod.fst)) ∧ Maps.size D0 = es.length := by
  obtain ⟨hkeys, hle⟩ := keys_strs hM ha
  have hsize : mes.size = es.length := by have := hp.length_eq; rw [hM.length] at this; simpa using this.symm
  have hkey : ∀ x ∈ mes.toList, ∃ s, s.length ≤ 1000 ∧ x.key = Go.Proofs.encStr s := by
    intro x hx
    have : x.key ∈ L.map (·.key) := List.mem_map.2 ⟨x, hp.mem_iff.2 hx, rfl⟩
    rw [hkeys] at this
    obtain ⟨s, h1, h2⟩ := List.mem_map.1 this
    exact ⟨s, hle s h1, h2.symm⟩
  have hrd : ∀ x ∈ mes.toList, ∃ s : List UInt8, x.key = Go.Proofs.encStr s ∧ rd P k (fun _ => some ((.nil : DataW Unit), ([] : List MemPlace))) x = some (.string s, .nil) := by
    intro x hx
    obtain ⟨s, h1, h2⟩ := hkey x hx
    refine ⟨s, h2, ?_⟩
    have : keyOf P k x.key = some (.string s) := by
      rw [h2]
      have h3 : s.length ≤ maxLen := Nat.le_trans h1 (by decide)
      simp [keyOf, hk, mapKey, Go.Proofs.encStr]
      exact h3
    simp [rd, this]
  refine ⟨_, ⟨mes, clock, hb, ⟨by rw [hsize]; unfold maxLen; omega, hs, fun x hx => ?_⟩, by omega, rfl⟩, ?_, ?_⟩
  · obtain ⟨s, _, h⟩ := hrd x hx
    exact ⟨_, h⟩
  · have h1 : (mes.toList.map (rg P k fun _ => some ((.nil : DataW Unit), ([] : List MemPlace)))).map (fun p => Go.strOf p.1) = L.map (fun x => Go.strOf (rg P k (fun _ => some ((.nil : DataW Unit), ([] : List MemPlace))) x).1) → True := fun _ => trivial
    have h2 : (strKeys (DataW.map ((mes.toList.map (rg P k fun _ => some ((.nil : DataW Unit), ([] : List MemPlace)))).foldr DataW.insert []))).Perm ((mes.toList.map (rg P k fun _ => some ((.nil : DataW Unit), ([] : List MemPlace)))).map fun p => Go.strOf p.1) :=
      (sorted_perm _).map _
    refine h2.trans ?_
    have h3 : ((mes.toList.map (rg P k fun _ => some ((.nil : DataW Unit), ([] : List MemPlace)))).map fun p => Go.strOf p.1).Perm (L.map fun x => Go.strOf (rg P k (fun _ => some ((.nil : DataW Unit), ([] : List MemPlace))) x).1) := by
      rw [List.map_map]
      exact (hp.map _).symm
    refine h3.trans (List.Perm.of_eq ?_)
    have h4 : (L.map fun x => Go.strOf (rg P k (fun _ => some ((.nil : DataW Unit), ([] : List MemPlace))) x).1).map Go.Proofs.encStr = L.map (·.key) := by
      rw [List.map_map]
      refine List.map_congr_left fun x hx => ?_
      obtain ⟨s, h5, h6⟩ := hrd x (hp.mem_iff.1 hx)
      simp [rg, h6, Go.strOf, h5]
    rw [hkeys] at h4
    exact List.map_inj_right (fun a b h => Go.encStr_inj h) |>.1 h4
  · show (List.foldr DataW.insert [] _).length = _
    rw [(sorted_perm _).length_eq]; simp [hsize]
end Go.Ev
