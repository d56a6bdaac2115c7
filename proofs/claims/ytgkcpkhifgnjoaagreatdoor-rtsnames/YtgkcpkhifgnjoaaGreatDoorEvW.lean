/- What a function that was walked by hand is, for the evaluator: new blocks in a world in which nothing else has turned. -/
import Derived.Test.YtgkcpkhifgnjoaaGreatDoorEvI
import Derived.Test.YtgkcpkhifgnjoaaGreatDoorEvP
import Derived.Below
namespace Go.Ev
open Go Go.RowKit

theorem DoneG.below {m : PM} {g : G} {nx : Pos} {w w' : World} (hr : RepG m g w) (hb : Below w.heap.size w w') : DoneG m g nx w m g nx w' := by
  refine ⟨⟨fun id o h => ?_, hr.inj⟩, ⟨PLe.refl m, hb.size, fun b h1 _ => hb.block b h1, fun id o s h1 h2 _ => ⟨id, o, s, h1, h2, rfl⟩, hb.tape, hb.os, hb.output⟩, Only.refl m nx nx⟩
  obtain ⟨s, h1, h2, h3⟩ := hr.obj id o h
  exact ⟨s, h1, Nat.lt_of_lt_of_le h2 hb.size, h3.move (PLe.refl m) (hb.block _ h2)⟩

theorem DoneG.add {m m1 : PM} {g : G} {h1 : H} {nx nx1 : Pos} {w w' : World} (d : DoneG m g nx w m1 h1.get nx1 w') (hle : nx.toNat ≤ nx1.toNat) (hid : m1 nx1 = none) (s : Slot) {ob : AObj} (hs : w.heap.size ≤ s.blk) (hlt : s.blk < w'.heap.size)
    (hne : ∀ id o s', h1.get id = some o → m1 id = some s' → s'.blk ≠ s.blk) (hO : ORep (m1.set nx1 s) w' s ob) :
    DoneG m g nx w (m1.set nx1 s) (T.set (some ob) nx1 h1).get nx1.succ w' := by
  have hle1 : PLe m1 (m1.set nx1 s) := PLe.set s hid
  refine ⟨⟨fun id o hg => ?_, fun id id' o o' s1 s2 g1 g2 e1 e2 e => ?_⟩, ⟨d.ext.le.trans hle1, d.ext.size, d.ext.keep, fun id o s1 g1 e1 hlt1 => ?_, d.ext.tape, d.ext.os, d.ext.out⟩, fun id hid' => ?_⟩
  · by_cases e : nx1 = id
    · subst e; rw [T.get_set_same] at hg; cases hg
      exact ⟨s, PM.set_same _ _ _, hlt, hO⟩
    · rw [T.get_set_other _ _ _ _ e] at hg
      obtain ⟨s1, k1, k2, k3⟩ := d.rep.obj id o hg
      exact ⟨s1, hle1 _ _ k1, k2, k3.move hle1 rfl⟩
  · by_cases c1 : nx1 = id <;> by_cases c2 : nx1 = id'
    · rw [← c1, ← c2]
    · subst c1
      rw [PM.set_same] at e1; cases e1
      rw [T.get_set_other _ _ _ _ c2] at g2
      rw [PM.set_other _ _ (fun x => c2 x.symm)] at e2
      exact (hne _ _ _ g2 e2 e.symm).elim
    · subst c2
      rw [PM.set_same] at e2; cases e2
      rw [T.get_set_other _ _ _ _ c1] at g1
      rw [PM.set_other _ _ (fun x => c1 x.symm)] at e1
      exact (hne _ _ _ g1 e1 e).elim
    · rw [T.get_set_other _ _ _ _ c1] at g1
      rw [T.get_set_other _ _ _ _ c2] at g2
      rw [PM.set_other _ _ (fun x => c1 x.symm)] at e1
      rw [PM.set_other _ _ (fun x => c2 x.symm)] at e2
      exact d.rep.inj id id' o o' s1 s2 g1 g2 e1 e2 e
  · by_cases e : nx1 = id
    · subst e; rw [PM.set_same] at e1; cases e1; omega
    · rw [T.get_set_other _ _ _ _ e] at g1
      rw [PM.set_other _ _ (fun x => e x.symm)] at e1
      exact d.ext.dom id o s1 g1 e1 hlt1
  · rw [Pos.toNat_succ] at hid'
    rw [PM.set_other _ _ (fun e => by subst e; omega)]
    exact d.only id (by omega)
end Go.Ev
