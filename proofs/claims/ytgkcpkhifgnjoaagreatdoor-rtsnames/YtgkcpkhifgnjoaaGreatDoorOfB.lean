/- core.of: a round of its loop. -/
import Derived.Test.YtgkcpkhifgnjoaaGreatDoorOfR
namespace Go.Ev
open Go Go.Proofs Go.RowKit

def ofAssign : Code := (Code.region 3
                      #[{ dst := some 5, op := Op.alloc 135, type := 0, pos := "core.go:266", after := #[],
                          guard := none },
                        { dst := none, op := Op.store 135 (Operand.tmp 5) (Operand.tmp 13), type := 0,
                          pos := "core.go:266",
                          after := #[{ on := 0, ground := Ground.data }, { on := 0, ground := Ground.phase }],
                          guard := none }]
                      false)
def ofBody : Code := .block 1 (.region 4 ofOps true)

def ofRec (fn : FuncId) (cs : Array Value) (sv : Value) (B0 D : Nat) (st : LoopState) (pend : Option Code) : Loop :=
  { state := st, pending := pend, fn, tmps := #[.agg cs, .pointer (some ⟨B0, 0, none⟩), .pointer none, .pointer (some ⟨B0 + 1 + 1 + 1, 0, none⟩), undef, undef, .map (some (B0 + 1)), .agg #[.map (some (B0 + 1)), .int .i64 0], .pointer (some ⟨B0 + 1 + 1, 0, none⟩), .pointer (some ⟨B0, 0, none⟩), sv, .func (.func 328) #[] #[.pointer (some ⟨B0 + 1 + 1 + 1 + 1, 0, none⟩)], undef, undef, undef, undef, undef, undef, undef, undef, undef, undef],
    params := #[12, 13], assign := ofAssign, body := ofBody, defers := D }

/-- Between two rounds: k constructors are left. -/
structure OfAt (w0 : World) (fn : FuncId) (cs : Array Value) (p : Option Addr) (len cap : Nat) (MI : Nat → Array MapEntry → Nat → Prop) (k : Nat) (W : World) : Prop where
  bs : W.heap[w0.heap.size + 1 + 1 + 1 + 1]? = some (.cells #[.slice p len cap] 26 (0, 0))
  mp : ∃ es clock, W.heap[w0.heap.size + 1]? = some (.map es clock) ∧ MI k es clock
  ck : W.heap[w0.heap.size + 1 + 1]? = some (.cells #[.map (some (w0.heap.size + 1)), .int .i64 0] 259 (0, 0))
  px : W.heap[w0.heap.size + 1 + 1 + 1]? = some (.cells #[.pointer (some ⟨w0.heap.size + 1 + 1, 0, none⟩)] 246 (0, 0))
  L : W.heap[w0.heap.size + 1 + 1 + 1 + 1 + 1 + 1]? = some (.loop (ofRec fn cs (.slice p len cap) w0.heap.size (w0.heap.size + 1 + 1 + 1 + 1 + 1) .ready none))
  K : W.heap[w0.heap.size + 1 + 1 + 1 + 1 + 1]? = some (.deferred (some []))
  below : Below w0.heap.size w0 W

set_option maxRecDepth 100000 in
set_option maxHeartbeats 2000000 in
theorem of_round (F : Fence) (m : Nat) (w0 : World) (fn : FuncId) (hfn : F.fn fn) (cs : Array Value) (p : Option Addr) (len cap : Nat) (MI : Nat → Array MapEntry → Nat → Prop) (s t : Nat → ByteArray) (a g : Nat → Int)
    (hstep : ∀ k W M es clock, k < len → W.heap[M]? = some (.map es clock) → MI (k + 1) es clock →
      ∃ es' clock', (Instr.mapUpdate 257 (.map (some M)) (.string (s k)) (.agg #[.string (s k), .int .i64 (a k), .string (t k), .int .i64 (g k)])).run Tryz.prog W = .ok () (W.putObj M (.map es' clock')) ∧ MI k es' clock')
    (k : Nat) (W : World) (hk : k < len) (h : OfAt w0 fn cs p len cap MI (k + 1) W) :
    YieldAt F m Tryz.prog (w0.heap.size + 1 + 1 + 1 + 1 + 1 + 1) #[.int .i64 (k : Int), .agg #[.string (s k), .int .i64 (a k), .string (t k), .int .i64 (g k)]] W fun e W' => e = .returned (.bool true) ∧ OfAt w0 fn cs p len cap MI k W' := by
  refine ⟨fn, #[.agg cs, .pointer (some ⟨w0.heap.size, 0, none⟩), .pointer none, .pointer (some ⟨w0.heap.size + 1 + 1 + 1, 0, none⟩), undef, undef, .map (some (w0.heap.size + 1)), .agg #[.map (some (w0.heap.size + 1)), .int .i64 0], .pointer (some ⟨w0.heap.size + 1 + 1, 0, none⟩), .pointer (some ⟨w0.heap.size, 0, none⟩), .slice p len cap, .func (.func 328) #[] #[.pointer (some ⟨w0.heap.size + 1 + 1 + 1 + 1, 0, none⟩)], .int .i64 (k : Int), .agg #[.string (s k), .int .i64 (a k), .string (t k), .int .i64 (g k)], undef, undef, undef, undef, undef, undef, undef, undef], ofAssign, ofBody, by simpa [ofRec] using run_yield (P := Tryz.prog) (args := #[.int .i64 (k : Int), .agg #[.string (s k), .int .i64 (a k), .string (t k), .int .i64 (g k)]]) h.L rfl, roundIn_of_wpIn hfn ?_⟩
  unfold ofAssign
  gi_wp2_with (rw [Oper.semAt_eq _ _ _ (fun c h => by cases h)]; go_simp; try go_bits)
  have hl : w0.heap.size + 1 + 1 + 1 + 1 + 1 + 1 < W.heap.size := (Array.getElem?_eq_some_iff.1 h.L).1
  obtain ⟨es, clock, hmp, hMI⟩ := h.mp
  obtain ⟨W1, hW1⟩ : ∃ W1, W.alloc (.cells #[.string (s k), .int .i64 (a k), .string (t k), .int .i64 (g k)] 135) = W1 := ⟨_, rfl⟩
  rw [hW1]
  have hold1 : ∀ j, j < W.heap.size → W1.heap[j]? = W.heap[j]? := fun j hj => by rw [← hW1]; exact Below.heap_alloc _ _ j hj
  have hnew1 : W1.heap[W.heap.size]? = some (.cells #[.string (s k), .int .i64 (a k), .string (t k), .int .i64 (g k)] 135 (0, 0)) := by rw [← hW1]; exact World.alloc_heap_new W _
  have hs1 : W1.heap.size = W.heap.size + 1 := by rw [← hW1]; simp
  have hb1 : Below w0.heap.size w0 W1 := by rw [← hW1]; exact h.below.alloc h.below.size _
  have hL1 := (hold1 _ hl).trans h.L
  have hbr := run_beginRound (P := Tryz.prog) hL1 rfl
  obtain ⟨W2, hW2⟩ : ∃ W2, W1.putObj (w0.heap.size + 1 + 1 + 1 + 1 + 1 + 1) (.loop { ofRec fn cs (.slice p len cap) w0.heap.size (w0.heap.size + 1 + 1 + 1 + 1 + 1) .ready none with state := .busy }) = W2 := ⟨_, rfl⟩
  rw [hW2] at hbr
  have hold2 : ∀ j, j ≠ w0.heap.size + 1 + 1 + 1 + 1 + 1 + 1 → W2.heap[j]? = W1.heap[j]? := fun j hj => by rw [← hW2]; exact World.putObj_heap_other hj
  have hL2 : W2.heap[w0.heap.size + 1 + 1 + 1 + 1 + 1 + 1]? = some (.loop { ofRec fn cs (.slice p len cap) w0.heap.size (w0.heap.size + 1 + 1 + 1 + 1 + 1) .ready none with state := .busy }) := by rw [← hW2]; exact World.putObj_heap_same (by omega)
  have hb2 : Below w0.heap.size w0 W2 := by
    refine hb1.trans ⟨by rw [← hW2]; rfl, by rw [← hW2]; rfl, by rw [← hW2]; rfl, by rw [← hW2]; simp, fun j hj => hold2 j (by omega)⟩
  have hmp2 : W2.heap[w0.heap.size + 1]? = some (.map es clock) := (hold2 _ (by omega)).trans ((hold1 _ (by omega)).trans hmp)
  have hck2 := (hold2 (w0.heap.size + 1 + 1) (by omega)).trans ((hold1 _ (by omega)).trans h.ck)
  have hpx2 := (hold2 (w0.heap.size + 1 + 1 + 1) (by omega)).trans ((hold1 _ (by omega)).trans h.px)
  have hbs2 := (hold2 (w0.heap.size + 1 + 1 + 1 + 1) (by omega)).trans ((hold1 _ (by omega)).trans h.bs)
  have hK2 := (hold2 (w0.heap.size + 1 + 1 + 1 + 1 + 1) (by omega)).trans ((hold1 _ (by omega)).trans h.K)
  have hn2 := (hold2 W.heap.size (by omega)).trans hnew1
  obtain ⟨W3, hW3⟩ : ∃ W3, W2.drew = W3 := ⟨_, rfl⟩
  have hh3 : W3.heap = W2.heap := by rw [← hW3]; rfl
  have hb3 : Below w0.heap.size w0 W3 := hb2.trans ⟨by rw [← hW3]; rfl, by rw [← hW3]; rfl, by rw [← hW3]; rfl, by rw [hh3]; exact Nat.le_refl _, fun j _ => by rw [hh3]⟩
  rw [← hh3] at hmp2 hck2 hpx2 hbs2 hK2 hn2 hL2
  obtain ⟨es', clock', hmu, hMI'⟩ := hstep k W3 _ es clock hk hmp2 hMI
  have c3 : W3.cell? ⟨w0.heap.size + 1 + 1 + 1, 0, none⟩ = some (.pointer (some ⟨w0.heap.size + 1 + 1, 0, none⟩)) := by simp [World.cell?, hpx2]
  have c2 : W3.cell? ⟨w0.heap.size + 1 + 1, 0, none⟩ = some (.map (some (w0.heap.size + 1))) := by simp [World.cell?, hck2]
  have d0 : W3.cell? ⟨W.heap.size, 0, none⟩ = some (.string (s k)) := by simp [World.cell?, hn2]
  have d1 : W3.cell? ⟨W.heap.size, 1, none⟩ = some (.int .i64 (a k)) := by simp [World.cell?, hn2]
  have d2 : W3.cell? ⟨W.heap.size, 2, none⟩ = some (.string (t k)) := by simp [World.cell?, hn2]
  have d3 : W3.cell? ⟨W.heap.size, 3, none⟩ = some (.int .i64 (g k)) := by simp [World.cell?, hn2]
  refine ⟨W2, hbr, ?_⟩
  unfold ofBody
  refine wpIn_block ?_
  refine wpIn_region_any (by kernel_rfl) ?_
  change wpAnyIn _ _ _ _ _ _ 8 _ _ (World.drew W2)
  rw [hW3]

  refine of_region F _ m _ cs _ _ _ _ _ _ _ _ W3 _ c3 c2 d0 d1 d2 d3 hmu ?_
  obtain ⟨W4, hW4⟩ : ∃ W4, W3.putObj (w0.heap.size + 1) (.map es' clock') = W4 := ⟨_, rfl⟩
  rw [hW4]
  have hs3 : W3.heap.size = W.heap.size + 1 := by rw [hh3, ← hs1]; have := congrArg (fun x => x.heap.size) hW2; simpa using this.symm
  have hold4 : ∀ j, j ≠ w0.heap.size + 1 → W4.heap[j]? = W3.heap[j]? := fun j hj => by rw [← hW4]; exact World.putObj_heap_other hj
  have hL4 := (hold4 (w0.heap.size + 1 + 1 + 1 + 1 + 1 + 1) (by omega)).trans hL2
  have hb4 : Below w0.heap.size w0 W4 := hb3.trans ⟨by rw [← hW4]; rfl, by rw [← hW4]; rfl, by rw [← hW4]; rfl, by rw [← hW4]; simp, fun j hj => hold4 j (by omega)⟩
  have hs4 : W4.heap.size = W3.heap.size := by rw [← hW4]; simp
  have hmp4 : W4.heap[w0.heap.size + 1]? = some (.map es' clock') := by rw [← hW4]; exact World.putObj_heap_same (by omega)
  refine ⟨_, _, run_endRound none hL4, rfl, ⟨?_, ⟨es', clock', ?_, hMI'⟩, ?_, ?_, World.putObj_heap_same (by omega), ?_, ?_⟩⟩
  · exact (World.putObj_heap_other (by omega)).trans ((hold4 _ (by omega)).trans hbs2)
  · exact (World.putObj_heap_other (by omega)).trans hmp4
  · exact (World.putObj_heap_other (by omega)).trans ((hold4 _ (by omega)).trans hck2)
  · exact (World.putObj_heap_other (by omega)).trans ((hold4 _ (by omega)).trans hpx2)
  · exact (World.putObj_heap_other (by omega)).trans ((hold4 _ (by omega)).trans hK2)
  · exact hb4.trans ⟨rfl, rfl, rfl, by simp, fun j hj => World.putObj_heap_other (by omega)⟩

theorem back241 (F : Fence) (n : Nat) (hf : F.fn 241) (hro : F.round = none) (p : Option Addr) (len cap : Nat) (w : World) :
    CallsIn F n Tryz.prog 241 #[.slice p len cap] w fun e w' => e = .returned (.func (.func 328) #[] #[.pointer (some ⟨w.heap.size, 0, none⟩)]) ∧ w' = w.alloc (.cells #[.slice p len cap] 26) := by
  refine callsIn_of_wp Tryz.func241 rfl hf ?_ hro
  simp only [Tryz.ntmps241, List.size_toArray, List.length_cons, List.length_nil, Nat.reduceAdd, Nat.reduceSub, Array.replicate_succ, Array.replicate_zero, List.push_toArray, List.append_toArray, List.nil_append, List.cons_append]
  gi_wp2
  go_ret
  exact ⟨rfl, rfl⟩

set_option maxRecDepth 100000 in
set_option maxHeartbeats 2000000 in
theorem of_walk (cs : Array Value) (p : Option Addr) (b off len cap : Nat) (hV : cs[0]? = some (.slice p len cap)) (w : World) (hp : 0 < len → p = some ⟨b, off, none⟩) (hreach : len * 48 ≤ 140737488351232) (hb : 0 < len → b < w.heap.size)
    (MI : Nat → Array MapEntry → Nat → Prop) (s t : Nat → ByteArray) (a g : Nat → Int) (h0 : MI len #[] 0)
    (hcells : ∀ i, i < len → w.cell? ⟨b, off + i * 4, none⟩ = some (.string (s i)) ∧ w.cell? ⟨b, off + i * 4 + 1, none⟩ = some (.int .i64 (a i)) ∧ w.cell? ⟨b, off + i * 4 + 2, none⟩ = some (.string (t i)) ∧ w.cell? ⟨b, off + i * 4 + 3, none⟩ = some (.int .i64 (g i)))
    (hstep : ∀ k W M es clock, k < len → W.heap[M]? = some (.map es clock) → MI (k + 1) es clock →
      ∃ es' clock', (Instr.mapUpdate 257 (.map (some M)) (.string (s k)) (.agg #[.string (s k), .int .i64 (a k), .string (t k), .int .i64 (g k)])).run Tryz.prog W = .ok () (W.putObj M (.map es' clock')) ∧ MI k es' clock') :
    CallsIn Fence.wide 4 Tryz.prog 158 #[.agg cs] w fun e w' => ∃ es clock, e = .returned (.pointer (some ⟨w.heap.size + 1 + 1, 0, none⟩)) ∧ w'.heap[w.heap.size + 1 + 1]? = some (.cells #[.map (some (w.heap.size + 1)), .int .i64 0] 259 (0, 0)) ∧
      w'.heap[w.heap.size + 1]? = some (.map es clock) ∧ MI 0 es clock ∧ Below w.heap.size w w' := by
  refine callsIn_of_wp_marks Tryz.func158 rfl trivial ?_ rfl
  simp only [Tryz.ntmps158, List.size_toArray, List.length_cons, List.length_nil, Nat.reduceAdd, Nat.reduceSub, Array.replicate_succ, Array.replicate_zero, List.push_toArray, List.append_toArray, List.nil_append, List.cons_append]
  have hmm := @run_makeMap Tryz.prog
  have hc : (w.alloc (.cells cs 148)).cell? ⟨w.heap.size, 0, none⟩ = some (.slice p len cap) := by
    have := World.alloc_heap_new w (.cells cs 148)
    unfold World.cell?; simp only [this]; simpa using hV
  have hfB : Fence.wide.fn 241 := trivial
  gi_wp2_with (gi_at_call 241; refine (back241 _ _ trivial rfl p len cap _).mono ?_; rintro e w' ⟨rfl, rfl⟩)
  refine wpIn_rangeFunc ?_
  intro fn hfn
  have e328 : ∀ args w, (callFunc 328 args).run Tryz.prog w = .ok (.enter 328 args) w := enters_of Tryz.func328 (by kernel_rfl) rfl
  have key : ∀ j (o : Obj) (W : World), W.heap[j]? = some o → ∀ o', (W.alloc o').heap[j]? = some o := fun j o W hj o' => (Below.heap_alloc _ _ _ (Array.getElem?_eq_some_iff.1 hj).1).trans hj
  obtain ⟨W0, hW0⟩ : ∃ W0, ((((w.alloc (.cells cs 148)).alloc (.map #[] 0)).alloc (.cells #[.map (some (w.heap.size + 1)), .int .i64 0] 259)).alloc (.cells #[.pointer (some ⟨w.heap.size + 1 + 1, 0, none⟩)] 246)).alloc (.cells #[.slice p len cap] 26) = W0 := ⟨_, rfl⟩
  have hs0 : W0.heap.size = w.heap.size + 1 + 1 + 1 + 1 + 1 := by rw [← hW0]; simp
  have hb0 : Below w.heap.size w W0 := by
    rw [← hW0]
    exact (((((Below.refl _ w).alloc (Nat.le_refl _) _).alloc (by simp) _).alloc (by simp; omega) _).alloc (by simp; omega) _).alloc (by simp; omega) _
  have p1 : W0.heap[w.heap.size + 1]? = some (.map #[] 0) := by
    rw [← hW0]
    refine key _ _ _ (key _ _ _ (key _ _ _ ?_ _) _) _
    have := World.alloc_heap_new (w.alloc (.cells cs 148)) (.map #[] 0)
    rwa [World.size_alloc] at this
  have p2 : W0.heap[w.heap.size + 1 + 1]? = some (.cells #[.map (some (w.heap.size + 1)), .int .i64 0] 259 (0, 0)) := by
    rw [← hW0]
    refine key _ _ _ (key _ _ _ ?_ _) _
    have := World.alloc_heap_new ((w.alloc (.cells cs 148)).alloc (.map #[] 0)) (.cells #[.map (some (w.heap.size + 1)), .int .i64 0] 259)
    rwa [World.size_alloc, World.size_alloc] at this
  have p3 : W0.heap[w.heap.size + 1 + 1 + 1]? = some (.cells #[.pointer (some ⟨w.heap.size + 1 + 1, 0, none⟩)] 246 (0, 0)) := by
    rw [← hW0]
    refine key _ _ _ ?_ _
    have := World.alloc_heap_new (((w.alloc (.cells cs 148)).alloc (.map #[] 0)).alloc (.cells #[.map (some (w.heap.size + 1)), .int .i64 0] 259)) (.cells #[.pointer (some ⟨w.heap.size + 1 + 1, 0, none⟩)] 246)
    rwa [World.size_alloc, World.size_alloc, World.size_alloc] at this
  have p4 : W0.heap[w.heap.size + 1 + 1 + 1 + 1]? = some (.cells #[.slice p len cap] 26 (0, 0)) := by
    rw [← hW0]
    have := World.alloc_heap_new ((((w.alloc (.cells cs 148)).alloc (.map #[] 0)).alloc (.cells #[.map (some (w.heap.size + 1)), .int .i64 0] 259)).alloc (.cells #[.pointer (some ⟨w.heap.size + 1 + 1, 0, none⟩)] 246)) (.cells #[.slice p len cap] 26)
    rwa [World.size_alloc, World.size_alloc, World.size_alloc, World.size_alloc] at this
  rw [hW0]
  obtain ⟨W1, hW1⟩ : ∃ W1, (W0.alloc (.deferred (some []))).alloc (.loop (ofRec fn cs (.slice p len cap) w.heap.size W0.heap.size .ready none)) = W1 := ⟨_, rfl⟩
  have hb1 : Below w.heap.size w W1 := by rw [← hW1]; exact (hb0.alloc hb0.size _).alloc (by have := hb0.size; simp; omega) _
  have hM : OfAt w fn cs p len cap MI len W1 := by
    refine ⟨?_, ⟨#[], 0, ?_, h0⟩, ?_, ?_, ?_, ?_, hb1⟩
    · rw [← hW1]; exact key _ _ _ (key _ _ _ p4 _) _
    · rw [← hW1]; exact key _ _ _ (key _ _ _ p1 _) _
    · rw [← hW1]; exact key _ _ _ (key _ _ _ p2 _) _
    · rw [← hW1]; exact key _ _ _ (key _ _ _ p3 _) _
    · rw [← hW1]
      have := World.alloc_heap_new (W0.alloc (.deferred (some []))) (.loop (ofRec fn cs (.slice p len cap) w.heap.size W0.heap.size .ready none))
      rw [World.size_alloc] at this
      rwa [hs0] at this ⊢
    · rw [← hW1, ← hs0]
      exact key _ _ _ (World.alloc_heap_new W0 _) _
  refine ⟨W0.heap.size + 1, [{ target := .collected W0.heap.size, args := #[] }], W1, { target := .fn (.func 328) #[.pointer (some ⟨w.heap.size + 1 + 1 + 1 + 1, 0, none⟩)], args := #[.func (.yield (W0.heap.size + 1)) #[] #[]] }, W1, 328,
    #[.func (.yield (W0.heap.size + 1)) #[] #[]] ++ #[.pointer (some ⟨w.heap.size + 1 + 1 + 1 + 1, 0, none⟩)], W1, ?_, ?_, ?_, ?_, fun _ => by decide, ?_⟩
  · rw [← hW1]; exact run_enterLoop_outer _ _ _ _ _
  · simp [resolve, go_sem]
  · intro f' hf'; trivial
  · simp [invoke, go_sem, e328]
  · rw [hs0]
    refine (back_in Fence.wide 3 trivial rfl (by decide) (w.heap.size + 1 + 1 + 1 + 1 + 1 + 1) (w.heap.size + 1 + 1 + 1 + 1) b off len cap p hp hreach (fun i => .string (s i)) (fun i => .int .i64 (a i)) (fun i => .string (t i)) (fun i => .int .i64 (g i))
      (OfAt w fn cs p len cap MI) (fun k W h => by simp [World.cell?, h.bs]) (fun k W i h hi => ?_) (fun k W hk h => of_round Fence.wide 2 w fn hfn cs p len cap MI s t a g hstep k W hk h) W1 hM).mono ?_
    · have := hcells i hi
      rw [h.below.cell (hb (by omega)), h.below.cell (hb (by omega)), h.below.cell (hb (by omega)), h.below.cell (hb (by omega))]
      exact this
    rintro e W2 ⟨⟨v0, rfl⟩, h2⟩
    have hend := run_endLoop (P := Tryz.prog) h2.L (by simp [ofRec])
    obtain ⟨W3, hW3⟩ : ∃ W3, W2.putObj (w.heap.size + 1 + 1 + 1 + 1 + 1 + 1) (.loop { ofRec fn cs (.slice p len cap) w.heap.size (w.heap.size + 1 + 1 + 1 + 1 + 1) .ready none with state := .exhausted }) = W3 := ⟨_, rfl⟩
    rw [hW3] at hend
    have hold3 : ∀ j, j ≠ w.heap.size + 1 + 1 + 1 + 1 + 1 + 1 → W3.heap[j]? = W2.heap[j]? := fun j hj => by rw [← hW3]; exact World.putObj_heap_other hj
    have hb3 : Below w.heap.size w W3 := h2.below.trans ⟨by rw [← hW3]; rfl, by rw [← hW3]; rfl, by rw [← hW3]; rfl, by rw [← hW3]; simp, fun j hj => hold3 j (by omega)⟩
    have hK3 := (hold3 _ (by omega)).trans h2.K
    have hpx3 := (hold3 _ (by omega)).trans h2.px
    have hck3 := (hold3 _ (by omega)).trans h2.ck
    obtain ⟨es, clock, hmp, hMI⟩ := h2.mp
    have hmp3 := (hold3 _ (by omega)).trans hmp
    have c3 : W3.cell? ⟨w.heap.size + 1 + 1 + 1, 0, none⟩ = some (.pointer (some ⟨w.heap.size + 1 + 1, 0, none⟩)) := by simp [World.cell?, hpx3]
    clear hW3
    refine ⟨none, W3, hend, ?_⟩
    gi_wp2

    refine ⟨by simp, .inl ⟨_, _, rfl, run_takeDeferred hK3, ?_⟩⟩
    refine ⟨_, results_tmp rfl _ _ _, es, clock, rfl, ?_, ?_, hMI, ?_⟩
    · exact (World.putObj_heap_other (by omega)).trans hck3
    · exact (World.putObj_heap_other (by omega)).trans hmp3
    · exact hb3.trans ⟨rfl, rfl, rfl, by simp, fun j hj => World.putObj_heap_other (by omega)⟩
end Go.Ev
