/- prim.Names: the calls that it makes. -/
import Derived.Test.YtgkcpkhifgnjoaaGreatDoorNmE
import Derived.Test.YtgkcpkhifgnjoaaGreatDoorNmF
namespace Go.Ev
open Go Go.Proofs Go.RowKit Go.Maps Go.Sort Go.Shelf Go.WideElems Go.WideShapes
set_option maxRecDepth 100000

def RU : Value → Option (DataW Unit × List MemPlace) := fun _ => some (.nil, [])
def strsA : List (List UInt8) := strsOf simplesA
def strsB : List (List UInt8) := strsOf othersA

theorem c_table (f : Nat) {F : Func} (hf : Tryz.prog.funcs[f]? = some F) (hn : (F.name == "runtime.NumGoroutine") = false) (hb : F.body.isNone = false) {l : List AV}
    (he : callK (build ents0) (run (build ents0) 100) f [] .e .one (fun v h _ => keysIs l v h) = true) (ha : allStr l = true) (hlen : l.length ≤ 1000) (n : Nat) (w : World) :
    CallsIn Fence.wide n Tryz.prog f #[] w fun e w' => ∃ b D0, e = .returned (.map (some b)) ∧ w'.ownsMap Tryz.prog 9 RU b l.length D0 ∧ (strKeys D0).Perm (strsOf l) ∧ Maps.size D0 = l.length ∧ Below w.heap.size w w' := by
  refine callsIn_wide.2 ((map_calls hf hn hb he w).mono ?_)
  rintro e w' ⟨b, mes, clock, rfl, h1, h2, h3, h4, m, L, es, h5, h6, h7⟩
  have hl : es.length = l.length := by rw [← h7]; simp
  obtain ⟨D0, g1, g2, g3⟩ := owns_of (P := Tryz.prog) (k := 9) (by kernel_rfl) h1 h2 h5 h6 (by rw [h7]; exact ha) (by omega)
  rw [hl] at g1 g3
  rw [h7] at g2
  exact ⟨b, D0, rfl, g1, g2, g3, h4⟩

theorem c110 (n : Nat) (w : World) : CallsIn Fence.wide n Tryz.prog 110 #[] w fun e w' => ∃ b D0, e = .returned (.map (some b)) ∧ w'.ownsMap Tryz.prog 9 RU b 15 D0 ∧ (strKeys D0).Perm strsA ∧ Maps.size D0 = 15 ∧ Below w.heap.size w w' :=
  c_table 110 Tryz.func110 (by kernel_rfl) (by kernel_rfl) e110 (by kernel_rfl) (by decide) n w
theorem c112 (n : Nat) (w : World) : CallsIn Fence.wide n Tryz.prog 112 #[] w fun e w' => ∃ b D0, e = .returned (.map (some b)) ∧ w'.ownsMap Tryz.prog 9 RU b 9 D0 ∧ (strKeys D0).Perm strsB ∧ Maps.size D0 = 9 ∧ Below w.heap.size w w' :=
  c_table 112 Tryz.func112 (by kernel_rfl) (by kernel_rfl) e112 (by kernel_rfl) (by decide) n w

theorem grownBy_of {w w' : World} (h : Below w.heap.size w w') : w.grownBy w' none := ⟨h.os, h.tape, h.output, h.size, fun k hk _ => h.block k hk⟩
theorem grownBy_alloc (w : World) (o : Obj) : w.grownBy (w.alloc o) none := grownBy_of ((Below.refl _ w).alloc (Nat.le_refl _) _)
theorem ownsMap_later {H : Type} {P : Program} {k : TypeId} {R : Value → Option (DataW H × List MemPlace)} {w w' : World} {b n : Nat} {D0 : DataW H} (h : w.ownsMap P k R b n D0) (hb : Below w.heap.size w w') : w'.ownsMap P k R b n D0 := by
  have hbl := h.lt
  obtain ⟨es, clock, h1, Ft, hs, hD⟩ := h
  exact ⟨es, clock, (hb.block b hbl).trans h1, Ft, hs, hD⟩

end Go.Ev
