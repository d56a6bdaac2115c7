/- The two maps of prim.Names, by the evaluator. -/
import Derived.Test.YtgkcpkhifgnjoaaGreatDoorIrK
import Derived.Test.YtgkcpkhifgnjoaaGreatDoorEvY
import Derived.KernelRfl
import Derived.Test.YtgkcpkhifgnjoaaGreatDoorProg
namespace Go.Ev
open Go Go.Proofs Go.RowKit
set_option maxRecDepth 100000

def keysIs (l : List AV) (v : AV) (h : H) : Bool := match v with
  | .map id => match h.get id with
    | some (.mp true es) => AV.beqL (es.map Prod.fst) l
    | _ => false
  | _ => false

def ents0 : List (Nat × Entry) := [(110, .code ir110), (112, .code ir112), (177, .code ir177)]
theorem ents0_ok : EntsOk Tryz.prog ents0 := ⟨⟨Tryz.f110, Tryz.func110, by kernel_rfl, by kernel_rfl⟩, ⟨Tryz.f112, Tryz.func112, by kernel_rfl, by kernel_rfl⟩, ⟨Tryz.f177, Tryz.func177, by kernel_rfl, by kernel_rfl⟩, trivial⟩
theorem tab0 : TableSound Tryz.prog (build ents0) := EntsOk.table ents0_ok (by kernel_rfl)

def simplesA : List AV := [.str 2 25959, .str 2 25964, .str 2 25966, .str 2 29029, .str 2 29799, .str 2 29804, .str 3 6452595, .str 3 6579297, .str 3 6582895, .str 3 7107949, .str 3 7169394, .str 3 7431523, .str 3 7497827, .str 3 7629923, .str 4 1953461617]
def othersA : List AV := [.str 3 6713189, .str 3 7431539, .str 3 7628146, .str 4 1668572519, .str 4 1668576624, .str 4 1684957538, .str 4 1953069157, .str 4 2003789939, .str 5 491496043109]

theorem e110 : callK (build ents0) (run (build ents0) 100) 110 [] .e .one (fun v h _ => keysIs simplesA v h) = true := by kernel_rfl
theorem e112 : callK (build ents0) (run (build ents0) 100) 112 [] .e .one (fun v h _ => keysIs othersA v h) = true := by kernel_rfl
theorem mixed0 : Tryz.prog.follows .mixedOrders = true := by kernel_rfl

/-- A function that hands back a new map with such keys. -/
theorem map_calls {f : Nat} {fn : Func} (hf : Tryz.prog.funcs[f]? = some fn) (hn : (fn.name == "runtime.NumGoroutine") = false) (hb : fn.body.isNone = false) {l : List AV}
    (he : callK (build ents0) (run (build ents0) 100) f [] .e .one (fun v h _ => keysIs l v h) = true) (w : World) :
    Calls Tryz.prog f #[] w fun e w' => ∃ b mes clock, e = .returned (.map (some b)) ∧ w'.heap[b]? = some (.map mes clock) ∧ MapKept.Stamped mes clock ∧ w.heap.size ≤ b ∧ Below w.heap.size w w' ∧
      ∃ (m : PM) (L : List MapEntry) (es : List (AV × AV)), L.Perm mes.toList ∧ MRel m es L ∧ es.map Prod.fst = l := by
  obtain ⟨v, h', nx', h1, h2⟩ := eval_sound mixed0 tab0 100 he
  unfold keysIs at h1
  split at h1
  · rename_i id
    split at h1
    · rename_i es hg
      have h1 := AV.beqL_eq h1
      have h3 := h2.2 (fun _ => none) w [] ⟨fun id o h => by simp at h, fun _ _ _ _ _ _ h => by simp at h⟩ rfl (fun _ _ _ => rfl)
      rcases h3 with ⟨V, w', e1, _⟩ | ⟨_, e2⟩
      · exfalso
        have hn' : ¬ fn.name = "runtime.NumGoroutine" := by simpa using hn
        have hb' : ¬ fn.body = none := by intro e; rw [e] at hb; cases hb
        simp [callFunc, hf, hn', hb'] at e1
      · refine Calls.mono e2 ?_
        rintro e w' ⟨V, rfl, m', hV, hd⟩
        obtain ⟨s, hs, rfl⟩ := hV
        obtain ⟨s', j1, j2, mes, clock, L, j3, j4, j5, j6, j7, j8⟩ := hd.rep.obj id _ hg
        rw [hs] at j1; cases j1
        have hge : w.heap.size ≤ s.blk := by
          rcases Nat.lt_or_ge s.blk w.heap.size with hlt | hge
          · obtain ⟨id0, o0, s0, g1, _⟩ := hd.ext.dom id _ s hg hs hlt
            simp at g1
          · exact hge
        exact ⟨s.blk, mes, clock, rfl, j3, j8, hge, ⟨hd.ext.os, hd.ext.tape, hd.ext.out, hd.ext.size, fun k hk => hd.ext.keep k hk fun id o s h => by simp at h⟩, m', L, es, j4, j5, h1⟩
    · cases h1
  · cases h1

end Go.Ev
