/- More operations: comparisons, conversions, places, new blocks. -/
import Derived.Test.YtgkcpkhifgnjoaaGreatDoorEvF
namespace Go.Ev
open Go

section
variable {P : Program} {o : Oper} {ρ : Fr} {h : H} {nx : Pos} {K : AV → H → Pos → Bool}

theorem kindEq_iff {a b : IntKind} : kindEq a b = true ↔ a = b := by simp [kindEq]

theorem nil_ptr {x : AV} {b : Bool} (h : nilOf .ptr x = some b) {m : PM} {X : Value} (hx : VRel m x X) : ∃ a, X = bif b then .pointer none else .pointer (some a) := by
  cases x <;> simp only [nilOf, reduceCtorEq, Option.some.injEq] at h <;> subst h
  · exact ⟨⟨0, 0, none⟩, hx⟩
  · obtain ⟨s, _, e⟩ := hx; exact ⟨_, e⟩
theorem nil_slice {x : AV} {b : Bool} (h : nilOf .slice x = some b) {m : PM} {X : Value} (hx : VRel m x X) : ∃ a l c, X = bif b then .slice none 0 0 else .slice (some a) l c := by
  cases x <;> simp only [nilOf, reduceCtorEq, Option.some.injEq] at h <;> subst h
  · exact ⟨⟨0, 0, none⟩, 0, 0, hx⟩
  · obtain ⟨s, _, e⟩ := hx; exact ⟨_, _, _, e⟩
  · obtain ⟨s, _, _, e⟩ := hx; exact ⟨_, _, _, e⟩
  · obtain ⟨s, _, e⟩ := hx; exact ⟨_, _, _, e⟩
theorem nil_map {x : AV} {b : Bool} (h : nilOf .map x = some b) {m : PM} {X : Value} (hx : VRel m x X) : ∃ a, X = bif b then .map none else .map (some a) := by
  cases x <;> simp only [nilOf, reduceCtorEq, Option.some.injEq] at h <;> subst h
  · exact ⟨0, hx⟩
  · obtain ⟨s, _, e⟩ := hx; exact ⟨_, e⟩
theorem nil_chan {x : AV} {b : Bool} (h : nilOf .chan x = some b) {m : PM} {X : Value} (hx : VRel m x X) : ∃ a, X = bif b then .chan none else .chan (some a) := by
  cases x <;> simp only [nilOf, reduceCtorEq, Option.some.injEq] at h <;> subst h
  · exact ⟨0, hx⟩
  · obtain ⟨s, _, e⟩ := hx; exact ⟨_, e⟩
theorem nil_func {x : AV} {b : Bool} (h : nilOf .func x = some b) {m : PM} {X : Value} (hx : VRel m x X) : ∃ f p q, X = bif b then .nilFunc else .func f p q := by
  cases x <;> simp only [nilOf, reduceCtorEq, Option.some.injEq] at h <;> subst h
  · obtain ⟨L, _, e⟩ := hx; exact ⟨_, _, _, e⟩
  · exact ⟨.func 0, #[], #[], hx⟩

theorem eq_ptr {t : TypeId} {el : TypeId} (hu : P.underlying t = some (.pointer el)) {x y : AV} {b : Bool} (hb : eqV .ptr x y = some b) {m : PM} {X Y : Value} (hx : VRel m x X) (hy : VRel m y Y) :
    (∀ (d : Nat) (w : World), (Op.equalIn (d + 1) t X Y).run P w = .ok b w) ∧ (∀ (op : BinOp) (a c : Operand) (w : World), (eqGuard op t a c X Y).run P w = .ok () w) ∧
      (∀ w : World, (binOp .eql t X Y).run P w = ((Op.equalIn 10000 t X Y).run P w).andThen (fun r w => .ok (.bool r) w) ∧ (binOp .neq t X Y).run P w = ((Op.equalIn 10000 t X Y).run P w).andThen (fun r w => .ok (.bool (!r)) w)) := by
  simp only [eqV] at hb
  split at hb
  · rename_i b' h1 h2
    simp only [Option.some.injEq] at hb; subst hb
    obtain ⟨a1, e1⟩ := nil_ptr h1 hx
    obtain ⟨c1, e2⟩ := nil_ptr h2 hy
    subst e1 e2
    refine ⟨fun d w => by cases b' <;> simp [Op.equalIn, run_underlying hu], fun op p q w => by cases b' <;> cases op <;> simp [eqGuard], fun w => ?_⟩
    cases b' <;> exact ⟨by simp only [binOp]; simp [Op.equal, Op.maxDepth], by simp only [binOp]; simp [Op.equal, Op.maxDepth]⟩
  · rename_i h1 h2
    simp only [Option.some.injEq] at hb; subst hb
    obtain ⟨a1, e1⟩ := nil_ptr h1 hx
    obtain ⟨c1, e2⟩ := nil_ptr h2 hy
    subst e1 e2
    refine ⟨fun d w => by simp [Op.equalIn, run_underlying hu], fun op p q w => by cases op <;> simp [eqGuard], fun w => ?_⟩
    exact ⟨by simp only [binOp]; simp [Op.equal, Op.maxDepth], by simp only [binOp]; simp [Op.equal, Op.maxDepth]⟩
  · cases hb

theorem eq_slice {t : TypeId} {el : TypeId} (hu : P.underlying t = some (.slice el)) {x y : AV} {b : Bool} (hb : eqV .slice x y = some b) {m : PM} {X Y : Value} (hx : VRel m x X) (hy : VRel m y Y) :
    (∀ (d : Nat) (w : World), (Op.equalIn (d + 1) t X Y).run P w = .ok b w) ∧ (∀ (op : BinOp) (a c : Operand) (w : World), (eqGuard op t a c X Y).run P w = .ok () w) ∧
      (∀ w : World, (binOp .eql t X Y).run P w = ((Op.equalIn 10000 t X Y).run P w).andThen (fun r w => .ok (.bool r) w) ∧ (binOp .neq t X Y).run P w = ((Op.equalIn 10000 t X Y).run P w).andThen (fun r w => .ok (.bool (!r)) w)) := by
  simp only [eqV] at hb
  split at hb
  · rename_i b' h1 h2
    simp only [Option.some.injEq] at hb; subst hb
    obtain ⟨a1, l1, n1, e1⟩ := nil_slice h1 hx
    obtain ⟨c1, l2, n2, e2⟩ := nil_slice h2 hy
    subst e1 e2
    refine ⟨fun d w => by cases b' <;> simp [Op.equalIn, run_underlying hu], fun op p q w => by cases b' <;> cases op <;> simp [eqGuard], fun w => ?_⟩
    cases b' <;> exact ⟨by simp only [binOp]; simp [Op.equal, Op.maxDepth], by simp only [binOp]; simp [Op.equal, Op.maxDepth]⟩
  · rename_i h1 h2
    simp only [Option.some.injEq] at hb; subst hb
    obtain ⟨a1, l1, n1, e1⟩ := nil_slice h1 hx
    obtain ⟨c1, l2, n2, e2⟩ := nil_slice h2 hy
    subst e1 e2
    refine ⟨fun d w => by simp [Op.equalIn, run_underlying hu], fun op p q w => by cases op <;> simp [eqGuard], fun w => ?_⟩
    exact ⟨by simp only [binOp]; simp [Op.equal, Op.maxDepth], by simp only [binOp]; simp [Op.equal, Op.maxDepth]⟩
  · cases hb

theorem eq_map {t : TypeId} {kt el : TypeId} (hu : P.underlying t = some (.map kt el)) {x y : AV} {b : Bool} (hb : eqV .map x y = some b) {m : PM} {X Y : Value} (hx : VRel m x X) (hy : VRel m y Y) :
    (∀ (d : Nat) (w : World), (Op.equalIn (d + 1) t X Y).run P w = .ok b w) ∧ (∀ (op : BinOp) (a c : Operand) (w : World), (eqGuard op t a c X Y).run P w = .ok () w) ∧
      (∀ w : World, (binOp .eql t X Y).run P w = ((Op.equalIn 10000 t X Y).run P w).andThen (fun r w => .ok (.bool r) w) ∧ (binOp .neq t X Y).run P w = ((Op.equalIn 10000 t X Y).run P w).andThen (fun r w => .ok (.bool (!r)) w)) := by
  simp only [eqV] at hb
  split at hb
  · rename_i b' h1 h2
    simp only [Option.some.injEq] at hb; subst hb
    obtain ⟨a1, e1⟩ := nil_map h1 hx
    obtain ⟨c1, e2⟩ := nil_map h2 hy
    subst e1 e2
    refine ⟨fun d w => by cases b' <;> simp [Op.equalIn, run_underlying hu], fun op p q w => by cases b' <;> cases op <;> simp [eqGuard], fun w => ?_⟩
    cases b' <;> exact ⟨by simp only [binOp]; simp [Op.equal, Op.maxDepth], by simp only [binOp]; simp [Op.equal, Op.maxDepth]⟩
  · rename_i h1 h2
    simp only [Option.some.injEq] at hb; subst hb
    obtain ⟨a1, e1⟩ := nil_map h1 hx
    obtain ⟨c1, e2⟩ := nil_map h2 hy
    subst e1 e2
    refine ⟨fun d w => by simp [Op.equalIn, run_underlying hu], fun op p q w => by cases op <;> simp [eqGuard], fun w => ?_⟩
    exact ⟨by simp only [binOp]; simp [Op.equal, Op.maxDepth], by simp only [binOp]; simp [Op.equal, Op.maxDepth]⟩
  · cases hb

theorem eq_func {t : TypeId} {ps rs : Array TypeId} {va : Bool} (hu : P.underlying t = some (.func ps rs va)) {x y : AV} {b : Bool} (hb : eqV .func x y = some b) {m : PM} {X Y : Value} (hx : VRel m x X) (hy : VRel m y Y) :
    (∀ (d : Nat) (w : World), (Op.equalIn (d + 1) t X Y).run P w = .ok b w) ∧ (∀ (op : BinOp) (a c : Operand) (w : World), (eqGuard op t a c X Y).run P w = .ok () w) ∧
      (∀ w : World, (binOp .eql t X Y).run P w = ((Op.equalIn 10000 t X Y).run P w).andThen (fun r w => .ok (.bool r) w) ∧ (binOp .neq t X Y).run P w = ((Op.equalIn 10000 t X Y).run P w).andThen (fun r w => .ok (.bool (!r)) w)) := by
  simp only [eqV] at hb
  split at hb
  · rename_i b' h1 h2
    simp only [Option.some.injEq] at hb; subst hb
    obtain ⟨f1, p1, q1, e1⟩ := nil_func h1 hx
    obtain ⟨f2, p2, q2, e2⟩ := nil_func h2 hy
    subst e1 e2
    refine ⟨fun d w => by cases b' <;> simp [Op.equalIn, run_underlying hu], fun op p q w => by cases b' <;> cases op <;> simp [eqGuard], fun w => ?_⟩
    cases b' <;> exact ⟨by simp only [binOp]; simp [Op.equal, Op.maxDepth], by simp only [binOp]; simp [Op.equal, Op.maxDepth]⟩
  · rename_i h1 h2
    simp only [Option.some.injEq] at hb; subst hb
    obtain ⟨f1, p1, q1, e1⟩ := nil_func h1 hx
    obtain ⟨f2, p2, q2, e2⟩ := nil_func h2 hy
    subst e1 e2
    refine ⟨fun d w => by simp [Op.equalIn, run_underlying hu], fun op p q w => by cases op <;> simp [eqGuard], fun w => ?_⟩
    exact ⟨by simp only [binOp]; simp [Op.equal, Op.maxDepth], by simp only [binOp]; simp [Op.equal, Op.maxDepth]⟩
  · cases hb

theorem eq_chan {t : TypeId} {dd : ChanDir} {el : TypeId} (hu : P.underlying t = some (.chan dd el)) {x y : AV} {b : Bool} (hb : eqV .chan x y = some b) {m : PM} {X Y : Value} (hx : VRel m x X) (hy : VRel m y Y) :
    (∀ (d : Nat) (w : World), (Op.equalIn (d + 1) t X Y).run P w = .ok b w) ∧ (∀ (op : BinOp) (a c : Operand) (w : World), (eqGuard op t a c X Y).run P w = .ok () w) ∧
      (∀ w : World, (binOp .eql t X Y).run P w = ((Op.equalIn 10000 t X Y).run P w).andThen (fun r w => .ok (.bool r) w) ∧ (binOp .neq t X Y).run P w = ((Op.equalIn 10000 t X Y).run P w).andThen (fun r w => .ok (.bool (!r)) w)) := by
  simp only [eqV] at hb
  split at hb
  · rename_i b' h1 h2
    simp only [Option.some.injEq] at hb; subst hb
    obtain ⟨a1, e1⟩ := nil_chan h1 hx
    obtain ⟨c1, e2⟩ := nil_chan h2 hy
    subst e1 e2
    refine ⟨fun d w => by cases b' <;> simp [Op.equalIn, run_underlying hu], fun op p q w => by cases b' <;> cases op <;> simp [eqGuard], fun w => ?_⟩
    cases b' <;> exact ⟨by simp only [binOp]; simp [Op.equal, Op.maxDepth], by simp only [binOp]; simp [Op.equal, Op.maxDepth]⟩
  · rename_i h1 h2
    simp only [Option.some.injEq] at hb; subst hb
    obtain ⟨a1, e1⟩ := nil_chan h1 hx
    obtain ⟨c1, e2⟩ := nil_chan h2 hy
    subst e1 e2
    refine ⟨fun d w => by simp [Op.equalIn, run_underlying hu], fun op p q w => by cases op <;> simp [eqGuard], fun w => ?_⟩
    exact ⟨by simp only [binOp]; simp [Op.equal, Op.maxDepth], by simp only [binOp]; simp [Op.equal, Op.maxDepth]⟩
  · cases hb

theorem eq_bool {t : TypeId} (hu : P.underlying t = some .bool) {x y : AV} {b : Bool} (hb : eqV .bool x y = some b) {m : PM} {X Y : Value} (hx : VRel m x X) (hy : VRel m y Y) :
    (∀ (d : Nat) (w : World), (Op.equalIn (d + 1) t X Y).run P w = .ok b w) ∧ (∀ (op : BinOp) (a c : Operand) (w : World), (eqGuard op t a c X Y).run P w = .ok () w) ∧
      (∀ w : World, (binOp .eql t X Y).run P w = ((Op.equalIn 10000 t X Y).run P w).andThen (fun r w => .ok (.bool r) w) ∧ (binOp .neq t X Y).run P w = ((Op.equalIn 10000 t X Y).run P w).andThen (fun r w => .ok (.bool (!r)) w)) := by
  simp only [eqV] at hb
  split at hb
  · simp only [VRel] at hx hy; subst hx hy
    simp only [Option.some.injEq] at hb; subst hb
    refine ⟨fun d w => run_equalIn_bool' w d t _ _ hu, fun op p q w => by cases op <;> simp [eqGuard], fun w => ?_⟩
    exact ⟨by simp only [binOp]; simp [Op.equal, Op.maxDepth], by simp only [binOp]; simp [Op.equal, Op.maxDepth]⟩
  · cases hb

/-- Two values held against one another, by the way of their type. -/
theorem eqV_sound {t : TypeId} {e : EqTy} {x y : AV} {b : Bool} (ht : eqTy P t = some e) (hi : e ≠ .iface) (hb : eqV e x y = some b) {m : PM} {X Y : Value} (hx : VRel m x X) (hy : VRel m y Y) (d : Nat) (w : World) :
    (Op.equalIn (d + 1) t X Y).run P w = .ok b w := by
  unfold eqTy at ht
  split at ht <;> simp only [Option.some.injEq, reduceCtorEq] at ht <;> subst ht <;> rename_i hu
  · exact (eq_bool hu hb hx hy).1 d w
  · simp only [eqV] at hb
    split at hb
    · rename_i k a k' b'
      simp only [VRel] at hx hy; subst hx hy
      cases hk : kindEq k k' with
      | false => rw [hk] at hb; simp at hb
      | true =>
        rw [hk] at hb; simp only [cond_true, Option.some.injEq] at hb; subst hb
        have := kindEq_iff.1 hk; subst this
        rw [run_equalIn_int w d t k _ a b' hu, intEq_eq]
        by_cases e : a = b' <;> simp [e]
    · cases hb
  · simp only [eqV] at hb
    split at hb
    · simp only [VRel] at hx hy; subst hx hy
      simp only [Option.some.injEq] at hb; subst hb
      rw [run_equalIn_string w d t _ _ hu, strOf_toList, strOf_toList, strEq_eq]
      congr 1
      rw [Bool.eq_iff_iff]; simp
    · cases hb
  · exact (eq_ptr hu hb hx hy).1 d w
  · exact (eq_slice hu hb hx hy).1 d w
  · exact (eq_map hu hb hx hy).1 d w
  · exact (eq_func hu hb hx hy).1 d w
  · exact (eq_chan hu hb hx hy).1 d w
  · exact absurd rfl hi

theorem eqTy_bin {t : TypeId} {e : EqTy} (ht : eqTy P t = some e) (h1 : e ≠ .int) (h2 : e ≠ .str) (h3 : e ≠ .iface) {x y : AV} {b : Bool} (hb : eqV e x y = some b) {m : PM} {X Y : Value}
    (hx : VRel m x X) (hy : VRel m y Y) (w : World) : (∀ (op : BinOp) (a c : Operand), (eqGuard op t a c X Y).run P w = .ok () w) ∧ (binOp .eql t X Y).run P w = .ok (.bool b) w ∧ (binOp .neq t X Y).run P w = .ok (.bool (!b)) w := by
  have hrun := eqV_sound (P := P) ht h3 hb hx hy 9999 w
  have key : (∀ (op : BinOp) (a c : Operand), (eqGuard op t a c X Y).run P w = .ok () w) ∧
      (binOp .eql t X Y).run P w = ((Op.equalIn 10000 t X Y).run P w).andThen (fun r w => .ok (.bool r) w) ∧ (binOp .neq t X Y).run P w = ((Op.equalIn 10000 t X Y).run P w).andThen (fun r w => .ok (.bool (!r)) w) := by
    unfold eqTy at ht
    split at ht <;> simp only [Option.some.injEq, reduceCtorEq] at ht <;> subst ht <;> rename_i hu
    · have := eq_bool hu hb hx hy; exact ⟨fun op a c => this.2.1 op a c w, this.2.2 w⟩
    · exact absurd rfl h1
    · exact absurd rfl h2
    · have := eq_ptr hu hb hx hy; exact ⟨fun op a c => this.2.1 op a c w, this.2.2 w⟩
    · have := eq_slice hu hb hx hy; exact ⟨fun op a c => this.2.1 op a c w, this.2.2 w⟩
    · have := eq_map hu hb hx hy; exact ⟨fun op a c => this.2.1 op a c w, this.2.2 w⟩
    · have := eq_func hu hb hx hy; exact ⟨fun op a c => this.2.1 op a c w, this.2.2 w⟩
    · have := eq_chan hu hb hx hy; exact ⟨fun op a c => this.2.1 op a c w, this.2.2 w⟩
    · exact absurd rfl h3
  have hrun : (Op.equalIn 10000 t X Y).run P w = .ok b w := hrun
  rw [hrun] at key
  exact ⟨key.1, key.2.1, key.2.2⟩

theorem eqFields_sound {fields : List Field} : ∀ {fs : List (Nat × EqTy)}, allOf (eqField P) fields = some fs → ∀ {xs ys : List AV} {b : Bool}, eqFields fs xs ys = some b →
    ∀ {m : PM} {X Y : List Value}, LRel m xs X → LRel m ys Y → ∀ (d : Nat) (w : World), (Op.eqFields (d + 1) X.toArray Y.toArray fields).run P w = .ok b w := by
  induction fields with
  | nil =>
    intro fs h xs ys b hb m X Y _ _ d w
    simp [allOf] at h; subst h
    simp [eqFields] at hb; subst hb
    simp [Op.eqFields]
  | cons f fields ih =>
    intro fs hfs xs ys b hb m X Y hX hY d w
    unfold allOf at hfs
    split at hfs
    · rename_i p ps hp hps
      simp at hfs; subst hfs
      unfold eqField at hp
      split at hp
      · cases hp
      · rename_i hname
        split at hp
        · cases hp
        · rename_i et hif het
          have hne := het
          simp at hp; subst hp
          simp only [eqFields] at hb
          split at hb
          · rename_i x y hx hy
            obtain ⟨X', hX', hxr⟩ := hX.get hx
            obtain ⟨Y', hY', hyr⟩ := hY.get hy
            have hag : aggT P f.type = false := by
              unfold eqTy at hne; unfold aggT
              split at hne <;> simp_all
            obtain ⟨dd, hu⟩ : ∃ dd, P.underlying f.type = some dd := by
              unfold eqTy at hne; split at hne <;> first | (cases hne; done) | exact ⟨_, ‹_›⟩
            have hpx : (part f.type X.toArray f.offset).run P w = .ok X' w := by simp [part, run_isAgg hu, hag, hX']
            have hpy : (part f.type Y.toArray f.offset).run P w = .ok Y' w := by simp [part, run_isAgg hu, hag, hY']
            split at hb
            · rename_i hv
              have := eqV_sound (P := P) hne hif hv hxr hyr d w
              simp [Op.eqFields, hname, hpx, hpy, this]
              exact ih hps hb hX hY d w
            · rename_i hv
              have := eqV_sound (P := P) hne hif hv hxr hyr d w
              simp at hb; subst hb
              simp [Op.eqFields, hname, hpx, hpy, this]
            · cases hb
          · cases hb
        · cases hp
    · cases hfs

end
end Go.Ev
