/- core.of: the region that puts one constructor into the map: it draws its order; whatever the order, it comes to the same. Printed by program. -/
import Derived.Test.YtgkcpkhifgnjoaaGreatDoorOfA
import Derived.RangeFuncIn
import Derived.RangeFuncRecord
import Derived.Carry
namespace Go.Ev
open Go Go.Proofs Go.RowKit

def ofOps : Array Oper :=
                      #[{ dst := some 14, op := Op.load 246 (Operand.tmp 3), type := 246, pos := "core.go:267",
                            after := #[], guard := none },
                          { dst := some 15, op := Op.nilCheck (Operand.tmp 14), type := 0, pos := "core.go:267",
                            after := #[{ on := 0, ground := Ground.data }], guard := none },
                          { dst := some 16, op := Op.fieldAddr 259 (Operand.tmp 15) 0, type := 0, pos := "core.go:267",
                            after := #[{ on := 1, ground := Ground.data }], guard := none },
                          { dst := some 17, op := Op.load 257 (Operand.tmp 16), type := 257, pos := "core.go:267",
                            after := #[{ on := 2, ground := Ground.data }], guard := none },
                          { dst := some 18, op := Op.fieldAddr 135 (Operand.tmp 5) 0, type := 0, pos := "core.go:267",
                            after := #[], guard := none },
                          { dst := some 19, op := Op.load 9 (Operand.tmp 18), type := 9, pos := "core.go:267",
                            after := #[{ on := 4, ground := Ground.data }], guard := none },
                          { dst := some 20, op := Op.load 135 (Operand.tmp 5), type := 135, pos := "core.go:267",
                            after := #[], guard := none },
                          { dst := none, op := Op.mapUpdate 257 (Operand.tmp 17) (Operand.tmp 19) (Operand.tmp 20),
                            type := 0, pos := "core.go:267",
                            after :=
                              #[{ on := 3, ground := Ground.data }, { on := 5, ground := Ground.data },
                                { on := 6, ground := Ground.data }, { on := 0, ground := Ground.phase },
                                { on := 1, ground := Ground.phase }, { on := 2, ground := Ground.phase },
                                { on := 3, ground := Ground.phase }, { on := 4, ground := Ground.phase },
                                { on := 5, ground := Ground.phase }, { on := 6, ground := Ground.phase }],
                            guard := none }]

def ofTmps (cs : Array Value) (sv : Value) (k : Int) (s t : ByteArray) (a g : Int) (B0 N : Nat) (t14 t15 t16 t17 t18 t19 t20 : Value) : Array Value :=
  #[.agg cs, .pointer (some ⟨B0, 0, none⟩), .pointer none, .pointer (some ⟨B0 + 1 + 1 + 1, 0, none⟩), undef, .pointer (some ⟨N, 0, none⟩), .map (some (B0 + 1)), .agg #[.map (some (B0 + 1)), .int .i64 0], .pointer (some ⟨B0 + 1 + 1, 0, none⟩), .pointer (some ⟨B0, 0, none⟩), sv, .func (.func 328) #[] #[.pointer (some ⟨B0 + 1 + 1 + 1 + 1, 0, none⟩)], .int .i64 k, .agg #[.string s, .int .i64 a, .string t, .int .i64 g], t14, t15, t16, t17, t18, t19, t20, undef]

theorem allReady_cons {F : Fence} {n : Nat} {P : Program} {md : Region.Mode} {ops : Array Oper} {Q : Exit → Act → World → Prop} {fuel : Nat} {listed : Array Bool} {a : Act} {w : World} {i : Nat} {rs : List Nat}
    (h : wpOpIn F n P ops Q i (wpAnyIn F n P md ops Q fuel (listed.setIfInBounds i true)) a w) (hs : AllReadyIn F n P md ops Q fuel listed a w rs) : AllReadyIn F n P md ops Q fuel listed a w (i :: rs) := fun j hj => by
  rcases List.mem_cons.1 hj with rfl | hj
  · exact h
  · exact hs j hj

section
variable {F : Fence} {l m : Nat} {Q : Exit → Act → World → Prop} {cs : Array Value} {sv : Value} {k : Int} {s t : ByteArray} {a g : Int} {B0 N : Nat} {W W' : World} {K : Act → World → Prop}

set_option maxRecDepth 100000 in
set_option maxHeartbeats 2000000 in
theorem of_op0 (c3 : W.cell? ⟨B0 + 1 + 1 + 1, 0, none⟩ = some (.pointer (some ⟨B0 + 1 + 1, 0, none⟩))) (t14 t15 t16 t17 t18 t19 t20 : Value) (hK : K ⟨(ofTmps cs sv k s t a g B0 N (.pointer (some ⟨B0 + 1 + 1, 0, none⟩)) t15 t16 t17 t18 t19 t20), []⟩ W) :
    wpOpIn (F.inRound l) m Tryz.prog ofOps Q 0 K ⟨(ofTmps cs sv k s t a g B0 N t14 t15 t16 t17 t18 t19 t20), []⟩ W := by
  unfold ofOps
  refine wpOpIn_step (i := 0) rfl (fun K' hK' => ?_)
  replace hK := hK' _ _ hK
  clear hK'
  simp only [ofTmps] at hK ⊢
  go_simp
  rw [Oper.semAt_eq _ _ _ (fun c h => by cases h)]
  go_simp
  exact hK

set_option maxRecDepth 100000 in
set_option maxHeartbeats 2000000 in
theorem of_op1  (t15 t16 t17 t18 t19 t20 : Value) (hK : K ⟨(ofTmps cs sv k s t a g B0 N (.pointer (some ⟨B0 + 1 + 1, 0, none⟩)) (.pointer (some ⟨B0 + 1 + 1, 0, none⟩)) t16 t17 t18 t19 t20), []⟩ W) :
    wpOpIn (F.inRound l) m Tryz.prog ofOps Q 1 K ⟨(ofTmps cs sv k s t a g B0 N (.pointer (some ⟨B0 + 1 + 1, 0, none⟩)) t15 t16 t17 t18 t19 t20), []⟩ W := by
  unfold ofOps
  refine wpOpIn_step (i := 1) rfl (fun K' hK' => ?_)
  replace hK := hK' _ _ hK
  clear hK'
  simp only [ofTmps] at hK ⊢
  go_simp
  rw [Oper.semAt_eq _ _ _ (fun c h => by cases h)]
  go_simp
  exact hK

set_option maxRecDepth 100000 in
set_option maxHeartbeats 2000000 in
theorem of_op2  (t14 t16 t17 t18 t19 t20 : Value) (hK : K ⟨(ofTmps cs sv k s t a g B0 N t14 (.pointer (some ⟨B0 + 1 + 1, 0, none⟩)) (.pointer (some ⟨B0 + 1 + 1, 0, none⟩)) t17 t18 t19 t20), []⟩ W) :
    wpOpIn (F.inRound l) m Tryz.prog ofOps Q 2 K ⟨(ofTmps cs sv k s t a g B0 N t14 (.pointer (some ⟨B0 + 1 + 1, 0, none⟩)) t16 t17 t18 t19 t20), []⟩ W := by
  unfold ofOps
  refine wpOpIn_step (i := 2) rfl (fun K' hK' => ?_)
  replace hK := hK' _ _ hK
  clear hK'
  simp only [ofTmps] at hK ⊢
  go_simp
  rw [Oper.semAt_eq _ _ _ (fun c h => by cases h)]
  go_simp
  exact hK

set_option maxRecDepth 100000 in
set_option maxHeartbeats 2000000 in
theorem of_op3 (c2 : W.cell? ⟨B0 + 1 + 1, 0, none⟩ = some (.map (some (B0 + 1)))) (t14 t15 t17 t18 t19 t20 : Value) (hK : K ⟨(ofTmps cs sv k s t a g B0 N t14 t15 (.pointer (some ⟨B0 + 1 + 1, 0, none⟩)) (.map (some (B0 + 1))) t18 t19 t20), []⟩ W) :
    wpOpIn (F.inRound l) m Tryz.prog ofOps Q 3 K ⟨(ofTmps cs sv k s t a g B0 N t14 t15 (.pointer (some ⟨B0 + 1 + 1, 0, none⟩)) t17 t18 t19 t20), []⟩ W := by
  unfold ofOps
  refine wpOpIn_step (i := 3) rfl (fun K' hK' => ?_)
  replace hK := hK' _ _ hK
  clear hK'
  simp only [ofTmps] at hK ⊢
  go_simp
  rw [Oper.semAt_eq _ _ _ (fun c h => by cases h)]
  go_simp
  exact hK

set_option maxRecDepth 100000 in
set_option maxHeartbeats 2000000 in
theorem of_op4  (t14 t15 t16 t17 t18 t19 t20 : Value) (hK : K ⟨(ofTmps cs sv k s t a g B0 N t14 t15 t16 t17 (.pointer (some ⟨N, 0, none⟩)) t19 t20), []⟩ W) :
    wpOpIn (F.inRound l) m Tryz.prog ofOps Q 4 K ⟨(ofTmps cs sv k s t a g B0 N t14 t15 t16 t17 t18 t19 t20), []⟩ W := by
  unfold ofOps
  refine wpOpIn_step (i := 4) rfl (fun K' hK' => ?_)
  replace hK := hK' _ _ hK
  clear hK'
  simp only [ofTmps] at hK ⊢
  go_simp
  rw [Oper.semAt_eq _ _ _ (fun c h => by cases h)]
  go_simp
  exact hK

set_option maxRecDepth 100000 in
set_option maxHeartbeats 2000000 in
theorem of_op5 (d0 : W.cell? ⟨N, 0, none⟩ = some (.string s)) (t14 t15 t16 t17 t19 t20 : Value) (hK : K ⟨(ofTmps cs sv k s t a g B0 N t14 t15 t16 t17 (.pointer (some ⟨N, 0, none⟩)) (.string s) t20), []⟩ W) :
    wpOpIn (F.inRound l) m Tryz.prog ofOps Q 5 K ⟨(ofTmps cs sv k s t a g B0 N t14 t15 t16 t17 (.pointer (some ⟨N, 0, none⟩)) t19 t20), []⟩ W := by
  unfold ofOps
  refine wpOpIn_step (i := 5) rfl (fun K' hK' => ?_)
  replace hK := hK' _ _ hK
  clear hK'
  simp only [ofTmps] at hK ⊢
  go_simp
  rw [Oper.semAt_eq _ _ _ (fun c h => by cases h)]
  go_simp
  exact hK

set_option maxRecDepth 100000 in
set_option maxHeartbeats 2000000 in
theorem of_op6 (d0 : W.cell? ⟨N, 0, none⟩ = some (.string s)) (d1 : W.cell? ⟨N, 1, none⟩ = some (.int .i64 a)) (d2 : W.cell? ⟨N, 2, none⟩ = some (.string t)) (d3 : W.cell? ⟨N, 3, none⟩ = some (.int .i64 g)) (t14 t15 t16 t17 t18 t19 t20 : Value) (hK : K ⟨(ofTmps cs sv k s t a g B0 N t14 t15 t16 t17 t18 t19 (.agg #[.string s, .int .i64 a, .string t, .int .i64 g])), []⟩ W) :
    wpOpIn (F.inRound l) m Tryz.prog ofOps Q 6 K ⟨(ofTmps cs sv k s t a g B0 N t14 t15 t16 t17 t18 t19 t20), []⟩ W := by
  unfold ofOps
  refine wpOpIn_step (i := 6) rfl (fun K' hK' => ?_)
  replace hK := hK' _ _ hK
  clear hK'
  simp only [ofTmps] at hK ⊢
  go_simp
  rw [Oper.semAt_eq _ _ _ (fun c h => by cases h)]
  go_simp
  exact hK

set_option maxRecDepth 100000 in
set_option maxHeartbeats 2000000 in
theorem of_op7 (hmu : (Instr.mapUpdate 257 (.map (some (B0 + 1))) (.string s) (.agg #[.string s, .int .i64 a, .string t, .int .i64 g])).run Tryz.prog W = .ok () W') (t14 t15 t16 t18 : Value) (hK : K ⟨(ofTmps cs sv k s t a g B0 N t14 t15 t16 (.map (some (B0 + 1))) t18 (.string s) (.agg #[.string s, .int .i64 a, .string t, .int .i64 g])), []⟩ W') :
    wpOpIn (F.inRound l) m Tryz.prog ofOps Q 7 K ⟨(ofTmps cs sv k s t a g B0 N t14 t15 t16 (.map (some (B0 + 1))) t18 (.string s) (.agg #[.string s, .int .i64 a, .string t, .int .i64 g])), []⟩ W := by
  unfold ofOps
  refine wpOpIn_step (i := 7) rfl (fun K' hK' => ?_)
  replace hK := hK' _ _ hK
  clear hK'
  simp only [ofTmps] at hK ⊢
  go_simp
  rw [Oper.semAt_eq _ _ _ (fun c h => by cases h)]
  go_simp
  exact hK
end

set_option maxRecDepth 100000 in
set_option maxHeartbeats 4000000 in
theorem of_region (F : Fence) (l m : Nat) (Q : Exit → Act → World → Prop) (cs : Array Value) (sv : Value) (k : Int) (s t : ByteArray) (a g : Int) (B0 N : Nat) (W W' : World)
    (c3 : W.cell? ⟨B0 + 1 + 1 + 1, 0, none⟩ = some (.pointer (some ⟨B0 + 1 + 1, 0, none⟩)))
    (c2 : W.cell? ⟨B0 + 1 + 1, 0, none⟩ = some (.map (some (B0 + 1))))
    (d0 : W.cell? ⟨N, 0, none⟩ = some (.string s)) (d1 : W.cell? ⟨N, 1, none⟩ = some (.int .i64 a)) (d2 : W.cell? ⟨N, 2, none⟩ = some (.string t)) (d3 : W.cell? ⟨N, 3, none⟩ = some (.int .i64 g))
    (hmu : (Instr.mapUpdate 257 (.map (some (B0 + 1))) (.string s) (.agg #[.string s, .int .i64 a, .string t, .int .i64 g])).run Tryz.prog W = .ok () W')
    (hlast : Q .normal ⟨(ofTmps cs sv k s t a g B0 N (.pointer (some ⟨B0 + 1 + 1, 0, none⟩)) (.pointer (some ⟨B0 + 1 + 1, 0, none⟩)) (.pointer (some ⟨B0 + 1 + 1, 0, none⟩)) (.map (some (B0 + 1))) (.pointer (some ⟨N, 0, none⟩)) (.string s) (.agg #[.string s, .int .i64 a, .string t, .int .i64 g])), []⟩ W') :
    wpAnyIn (F.inRound l) m Tryz.prog .any ofOps Q 8 #[false, false, false, false, false, false, false, false] ⟨(ofTmps cs sv k s t a g B0 N undef undef undef undef undef undef undef), []⟩ W := by
  have h421 : wpAnyIn (F.inRound l) m Tryz.prog .any ofOps Q 1 #[true, true, true, true, true, true, true, false] ⟨(ofTmps cs sv k s t a g B0 N (.pointer (some ⟨B0 + 1 + 1, 0, none⟩)) (.pointer (some ⟨B0 + 1 + 1, 0, none⟩)) (.pointer (some ⟨B0 + 1 + 1, 0, none⟩)) (.map (some (B0 + 1))) (.pointer (some ⟨N, 0, none⟩)) (.string s) (.agg #[.string s, .int .i64 a, .string t, .int .i64 g])), []⟩ W :=
    wpAnyIn_ready (rs := [7]) (by kernel_rfl) (by simp) (allReady_cons (of_op7 hmu _ _ _ _ (wpAnyIn_done (by kernel_rfl) hlast _)) AllReadyIn.nil)
  have h321 : wpAnyIn (F.inRound l) m Tryz.prog .any ofOps Q 2 #[true, true, true, false, true, true, true, false] ⟨(ofTmps cs sv k s t a g B0 N (.pointer (some ⟨B0 + 1 + 1, 0, none⟩)) (.pointer (some ⟨B0 + 1 + 1, 0, none⟩)) (.pointer (some ⟨B0 + 1 + 1, 0, none⟩)) undef (.pointer (some ⟨N, 0, none⟩)) (.string s) (.agg #[.string s, .int .i64 a, .string t, .int .i64 g])), []⟩ W :=
    wpAnyIn_ready (rs := [3]) (by kernel_rfl) (by simp) (allReady_cons (of_op3 c2 _ _ _ _ _ _ h421) AllReadyIn.nil)
  have h411 : wpAnyIn (F.inRound l) m Tryz.prog .any ofOps Q 2 #[true, true, true, true, true, false, true, false] ⟨(ofTmps cs sv k s t a g B0 N (.pointer (some ⟨B0 + 1 + 1, 0, none⟩)) (.pointer (some ⟨B0 + 1 + 1, 0, none⟩)) (.pointer (some ⟨B0 + 1 + 1, 0, none⟩)) (.map (some (B0 + 1))) (.pointer (some ⟨N, 0, none⟩)) undef (.agg #[.string s, .int .i64 a, .string t, .int .i64 g])), []⟩ W :=
    wpAnyIn_ready (rs := [5]) (by kernel_rfl) (by simp) (allReady_cons (of_op5 d0 _ _ _ _ _ _ h421) AllReadyIn.nil)
  have h420 : wpAnyIn (F.inRound l) m Tryz.prog .any ofOps Q 2 #[true, true, true, true, true, true, false, false] ⟨(ofTmps cs sv k s t a g B0 N (.pointer (some ⟨B0 + 1 + 1, 0, none⟩)) (.pointer (some ⟨B0 + 1 + 1, 0, none⟩)) (.pointer (some ⟨B0 + 1 + 1, 0, none⟩)) (.map (some (B0 + 1))) (.pointer (some ⟨N, 0, none⟩)) (.string s) undef), []⟩ W :=
    wpAnyIn_ready (rs := [6]) (by kernel_rfl) (by simp) (allReady_cons (of_op6 d0 d1 d2 d3 _ _ _ _ _ _ _ h421) AllReadyIn.nil)
  have h221 : wpAnyIn (F.inRound l) m Tryz.prog .any ofOps Q 3 #[true, true, false, false, true, true, true, false] ⟨(ofTmps cs sv k s t a g B0 N (.pointer (some ⟨B0 + 1 + 1, 0, none⟩)) (.pointer (some ⟨B0 + 1 + 1, 0, none⟩)) undef undef (.pointer (some ⟨N, 0, none⟩)) (.string s) (.agg #[.string s, .int .i64 a, .string t, .int .i64 g])), []⟩ W :=
    wpAnyIn_ready (rs := [2]) (by kernel_rfl) (by simp) (allReady_cons (of_op2  _ _ _ _ _ _ h321) AllReadyIn.nil)
  have h311 : wpAnyIn (F.inRound l) m Tryz.prog .any ofOps Q 3 #[true, true, true, false, true, false, true, false] ⟨(ofTmps cs sv k s t a g B0 N (.pointer (some ⟨B0 + 1 + 1, 0, none⟩)) (.pointer (some ⟨B0 + 1 + 1, 0, none⟩)) (.pointer (some ⟨B0 + 1 + 1, 0, none⟩)) undef (.pointer (some ⟨N, 0, none⟩)) undef (.agg #[.string s, .int .i64 a, .string t, .int .i64 g])), []⟩ W :=
    wpAnyIn_ready (rs := [3, 5]) (by kernel_rfl) (by simp) (allReady_cons (of_op3 c2 _ _ _ _ _ _ h411) (allReady_cons (of_op5 d0 _ _ _ _ _ _ h321) AllReadyIn.nil))
  have h320 : wpAnyIn (F.inRound l) m Tryz.prog .any ofOps Q 3 #[true, true, true, false, true, true, false, false] ⟨(ofTmps cs sv k s t a g B0 N (.pointer (some ⟨B0 + 1 + 1, 0, none⟩)) (.pointer (some ⟨B0 + 1 + 1, 0, none⟩)) (.pointer (some ⟨B0 + 1 + 1, 0, none⟩)) undef (.pointer (some ⟨N, 0, none⟩)) (.string s) undef), []⟩ W :=
    wpAnyIn_ready (rs := [3, 6]) (by kernel_rfl) (by simp) (allReady_cons (of_op3 c2 _ _ _ _ _ _ h420) (allReady_cons (of_op6 d0 d1 d2 d3 _ _ _ _ _ _ _ h321) AllReadyIn.nil))
  have h401 : wpAnyIn (F.inRound l) m Tryz.prog .any ofOps Q 3 #[true, true, true, true, false, false, true, false] ⟨(ofTmps cs sv k s t a g B0 N (.pointer (some ⟨B0 + 1 + 1, 0, none⟩)) (.pointer (some ⟨B0 + 1 + 1, 0, none⟩)) (.pointer (some ⟨B0 + 1 + 1, 0, none⟩)) (.map (some (B0 + 1))) undef undef (.agg #[.string s, .int .i64 a, .string t, .int .i64 g])), []⟩ W :=
    wpAnyIn_ready (rs := [4]) (by kernel_rfl) (by simp) (allReady_cons (of_op4  _ _ _ _ _ _ _ h411) AllReadyIn.nil)
  have h410 : wpAnyIn (F.inRound l) m Tryz.prog .any ofOps Q 3 #[true, true, true, true, true, false, false, false] ⟨(ofTmps cs sv k s t a g B0 N (.pointer (some ⟨B0 + 1 + 1, 0, none⟩)) (.pointer (some ⟨B0 + 1 + 1, 0, none⟩)) (.pointer (some ⟨B0 + 1 + 1, 0, none⟩)) (.map (some (B0 + 1))) (.pointer (some ⟨N, 0, none⟩)) undef undef), []⟩ W :=
    wpAnyIn_ready (rs := [5, 6]) (by kernel_rfl) (by simp) (allReady_cons (of_op5 d0 _ _ _ _ _ _ h420) (allReady_cons (of_op6 d0 d1 d2 d3 _ _ _ _ _ _ _ h411) AllReadyIn.nil))
  have h121 : wpAnyIn (F.inRound l) m Tryz.prog .any ofOps Q 4 #[true, false, false, false, true, true, true, false] ⟨(ofTmps cs sv k s t a g B0 N (.pointer (some ⟨B0 + 1 + 1, 0, none⟩)) undef undef undef (.pointer (some ⟨N, 0, none⟩)) (.string s) (.agg #[.string s, .int .i64 a, .string t, .int .i64 g])), []⟩ W :=
    wpAnyIn_ready (rs := [1]) (by kernel_rfl) (by simp) (allReady_cons (of_op1  _ _ _ _ _ _ h221) AllReadyIn.nil)
  have h211 : wpAnyIn (F.inRound l) m Tryz.prog .any ofOps Q 4 #[true, true, false, false, true, false, true, false] ⟨(ofTmps cs sv k s t a g B0 N (.pointer (some ⟨B0 + 1 + 1, 0, none⟩)) (.pointer (some ⟨B0 + 1 + 1, 0, none⟩)) undef undef (.pointer (some ⟨N, 0, none⟩)) undef (.agg #[.string s, .int .i64 a, .string t, .int .i64 g])), []⟩ W :=
    wpAnyIn_ready (rs := [2, 5]) (by kernel_rfl) (by simp) (allReady_cons (of_op2  _ _ _ _ _ _ h311) (allReady_cons (of_op5 d0 _ _ _ _ _ _ h221) AllReadyIn.nil))
  have h220 : wpAnyIn (F.inRound l) m Tryz.prog .any ofOps Q 4 #[true, true, false, false, true, true, false, false] ⟨(ofTmps cs sv k s t a g B0 N (.pointer (some ⟨B0 + 1 + 1, 0, none⟩)) (.pointer (some ⟨B0 + 1 + 1, 0, none⟩)) undef undef (.pointer (some ⟨N, 0, none⟩)) (.string s) undef), []⟩ W :=
    wpAnyIn_ready (rs := [2, 6]) (by kernel_rfl) (by simp) (allReady_cons (of_op2  _ _ _ _ _ _ h320) (allReady_cons (of_op6 d0 d1 d2 d3 _ _ _ _ _ _ _ h221) AllReadyIn.nil))
  have h301 : wpAnyIn (F.inRound l) m Tryz.prog .any ofOps Q 4 #[true, true, true, false, false, false, true, false] ⟨(ofTmps cs sv k s t a g B0 N (.pointer (some ⟨B0 + 1 + 1, 0, none⟩)) (.pointer (some ⟨B0 + 1 + 1, 0, none⟩)) (.pointer (some ⟨B0 + 1 + 1, 0, none⟩)) undef undef undef (.agg #[.string s, .int .i64 a, .string t, .int .i64 g])), []⟩ W :=
    wpAnyIn_ready (rs := [3, 4]) (by kernel_rfl) (by simp) (allReady_cons (of_op3 c2 _ _ _ _ _ _ h401) (allReady_cons (of_op4  _ _ _ _ _ _ _ h311) AllReadyIn.nil))
  have h310 : wpAnyIn (F.inRound l) m Tryz.prog .any ofOps Q 4 #[true, true, true, false, true, false, false, false] ⟨(ofTmps cs sv k s t a g B0 N (.pointer (some ⟨B0 + 1 + 1, 0, none⟩)) (.pointer (some ⟨B0 + 1 + 1, 0, none⟩)) (.pointer (some ⟨B0 + 1 + 1, 0, none⟩)) undef (.pointer (some ⟨N, 0, none⟩)) undef undef), []⟩ W :=
    wpAnyIn_ready (rs := [3, 5, 6]) (by kernel_rfl) (by simp) (allReady_cons (of_op3 c2 _ _ _ _ _ _ h410) (allReady_cons (of_op5 d0 _ _ _ _ _ _ h320) (allReady_cons (of_op6 d0 d1 d2 d3 _ _ _ _ _ _ _ h311) AllReadyIn.nil)))
  have h400 : wpAnyIn (F.inRound l) m Tryz.prog .any ofOps Q 4 #[true, true, true, true, false, false, false, false] ⟨(ofTmps cs sv k s t a g B0 N (.pointer (some ⟨B0 + 1 + 1, 0, none⟩)) (.pointer (some ⟨B0 + 1 + 1, 0, none⟩)) (.pointer (some ⟨B0 + 1 + 1, 0, none⟩)) (.map (some (B0 + 1))) undef undef undef), []⟩ W :=
    wpAnyIn_ready (rs := [4, 6]) (by kernel_rfl) (by simp) (allReady_cons (of_op4  _ _ _ _ _ _ _ h410) (allReady_cons (of_op6 d0 d1 d2 d3 _ _ _ _ _ _ _ h401) AllReadyIn.nil))
  have h021 : wpAnyIn (F.inRound l) m Tryz.prog .any ofOps Q 5 #[false, false, false, false, true, true, true, false] ⟨(ofTmps cs sv k s t a g B0 N undef undef undef undef (.pointer (some ⟨N, 0, none⟩)) (.string s) (.agg #[.string s, .int .i64 a, .string t, .int .i64 g])), []⟩ W :=
    wpAnyIn_ready (rs := [0]) (by kernel_rfl) (by simp) (allReady_cons (of_op0 c3 _ _ _ _ _ _ _ h121) AllReadyIn.nil)
  have h111 : wpAnyIn (F.inRound l) m Tryz.prog .any ofOps Q 5 #[true, false, false, false, true, false, true, false] ⟨(ofTmps cs sv k s t a g B0 N (.pointer (some ⟨B0 + 1 + 1, 0, none⟩)) undef undef undef (.pointer (some ⟨N, 0, none⟩)) undef (.agg #[.string s, .int .i64 a, .string t, .int .i64 g])), []⟩ W :=
    wpAnyIn_ready (rs := [1, 5]) (by kernel_rfl) (by simp) (allReady_cons (of_op1  _ _ _ _ _ _ h211) (allReady_cons (of_op5 d0 _ _ _ _ _ _ h121) AllReadyIn.nil))
  have h120 : wpAnyIn (F.inRound l) m Tryz.prog .any ofOps Q 5 #[true, false, false, false, true, true, false, false] ⟨(ofTmps cs sv k s t a g B0 N (.pointer (some ⟨B0 + 1 + 1, 0, none⟩)) undef undef undef (.pointer (some ⟨N, 0, none⟩)) (.string s) undef), []⟩ W :=
    wpAnyIn_ready (rs := [1, 6]) (by kernel_rfl) (by simp) (allReady_cons (of_op1  _ _ _ _ _ _ h220) (allReady_cons (of_op6 d0 d1 d2 d3 _ _ _ _ _ _ _ h121) AllReadyIn.nil))
  have h201 : wpAnyIn (F.inRound l) m Tryz.prog .any ofOps Q 5 #[true, true, false, false, false, false, true, false] ⟨(ofTmps cs sv k s t a g B0 N (.pointer (some ⟨B0 + 1 + 1, 0, none⟩)) (.pointer (some ⟨B0 + 1 + 1, 0, none⟩)) undef undef undef undef (.agg #[.string s, .int .i64 a, .string t, .int .i64 g])), []⟩ W :=
    wpAnyIn_ready (rs := [2, 4]) (by kernel_rfl) (by simp) (allReady_cons (of_op2  _ _ _ _ _ _ h301) (allReady_cons (of_op4  _ _ _ _ _ _ _ h211) AllReadyIn.nil))
  have h210 : wpAnyIn (F.inRound l) m Tryz.prog .any ofOps Q 5 #[true, true, false, false, true, false, false, false] ⟨(ofTmps cs sv k s t a g B0 N (.pointer (some ⟨B0 + 1 + 1, 0, none⟩)) (.pointer (some ⟨B0 + 1 + 1, 0, none⟩)) undef undef (.pointer (some ⟨N, 0, none⟩)) undef undef), []⟩ W :=
    wpAnyIn_ready (rs := [2, 5, 6]) (by kernel_rfl) (by simp) (allReady_cons (of_op2  _ _ _ _ _ _ h310) (allReady_cons (of_op5 d0 _ _ _ _ _ _ h220) (allReady_cons (of_op6 d0 d1 d2 d3 _ _ _ _ _ _ _ h211) AllReadyIn.nil)))
  have h300 : wpAnyIn (F.inRound l) m Tryz.prog .any ofOps Q 5 #[true, true, true, false, false, false, false, false] ⟨(ofTmps cs sv k s t a g B0 N (.pointer (some ⟨B0 + 1 + 1, 0, none⟩)) (.pointer (some ⟨B0 + 1 + 1, 0, none⟩)) (.pointer (some ⟨B0 + 1 + 1, 0, none⟩)) undef undef undef undef), []⟩ W :=
    wpAnyIn_ready (rs := [3, 4, 6]) (by kernel_rfl) (by simp) (allReady_cons (of_op3 c2 _ _ _ _ _ _ h400) (allReady_cons (of_op4  _ _ _ _ _ _ _ h310) (allReady_cons (of_op6 d0 d1 d2 d3 _ _ _ _ _ _ _ h301) AllReadyIn.nil)))
  have h011 : wpAnyIn (F.inRound l) m Tryz.prog .any ofOps Q 6 #[false, false, false, false, true, false, true, false] ⟨(ofTmps cs sv k s t a g B0 N undef undef undef undef (.pointer (some ⟨N, 0, none⟩)) undef (.agg #[.string s, .int .i64 a, .string t, .int .i64 g])), []⟩ W :=
    wpAnyIn_ready (rs := [0, 5]) (by kernel_rfl) (by simp) (allReady_cons (of_op0 c3 _ _ _ _ _ _ _ h111) (allReady_cons (of_op5 d0 _ _ _ _ _ _ h021) AllReadyIn.nil))
  have h020 : wpAnyIn (F.inRound l) m Tryz.prog .any ofOps Q 6 #[false, false, false, false, true, true, false, false] ⟨(ofTmps cs sv k s t a g B0 N undef undef undef undef (.pointer (some ⟨N, 0, none⟩)) (.string s) undef), []⟩ W :=
    wpAnyIn_ready (rs := [0, 6]) (by kernel_rfl) (by simp) (allReady_cons (of_op0 c3 _ _ _ _ _ _ _ h120) (allReady_cons (of_op6 d0 d1 d2 d3 _ _ _ _ _ _ _ h021) AllReadyIn.nil))
  have h101 : wpAnyIn (F.inRound l) m Tryz.prog .any ofOps Q 6 #[true, false, false, false, false, false, true, false] ⟨(ofTmps cs sv k s t a g B0 N (.pointer (some ⟨B0 + 1 + 1, 0, none⟩)) undef undef undef undef undef (.agg #[.string s, .int .i64 a, .string t, .int .i64 g])), []⟩ W :=
    wpAnyIn_ready (rs := [1, 4]) (by kernel_rfl) (by simp) (allReady_cons (of_op1  _ _ _ _ _ _ h201) (allReady_cons (of_op4  _ _ _ _ _ _ _ h111) AllReadyIn.nil))
  have h110 : wpAnyIn (F.inRound l) m Tryz.prog .any ofOps Q 6 #[true, false, false, false, true, false, false, false] ⟨(ofTmps cs sv k s t a g B0 N (.pointer (some ⟨B0 + 1 + 1, 0, none⟩)) undef undef undef (.pointer (some ⟨N, 0, none⟩)) undef undef), []⟩ W :=
    wpAnyIn_ready (rs := [1, 5, 6]) (by kernel_rfl) (by simp) (allReady_cons (of_op1  _ _ _ _ _ _ h210) (allReady_cons (of_op5 d0 _ _ _ _ _ _ h120) (allReady_cons (of_op6 d0 d1 d2 d3 _ _ _ _ _ _ _ h111) AllReadyIn.nil)))
  have h200 : wpAnyIn (F.inRound l) m Tryz.prog .any ofOps Q 6 #[true, true, false, false, false, false, false, false] ⟨(ofTmps cs sv k s t a g B0 N (.pointer (some ⟨B0 + 1 + 1, 0, none⟩)) (.pointer (some ⟨B0 + 1 + 1, 0, none⟩)) undef undef undef undef undef), []⟩ W :=
    wpAnyIn_ready (rs := [2, 4, 6]) (by kernel_rfl) (by simp) (allReady_cons (of_op2  _ _ _ _ _ _ h300) (allReady_cons (of_op4  _ _ _ _ _ _ _ h210) (allReady_cons (of_op6 d0 d1 d2 d3 _ _ _ _ _ _ _ h201) AllReadyIn.nil)))
  have h001 : wpAnyIn (F.inRound l) m Tryz.prog .any ofOps Q 7 #[false, false, false, false, false, false, true, false] ⟨(ofTmps cs sv k s t a g B0 N undef undef undef undef undef undef (.agg #[.string s, .int .i64 a, .string t, .int .i64 g])), []⟩ W :=
    wpAnyIn_ready (rs := [0, 4]) (by kernel_rfl) (by simp) (allReady_cons (of_op0 c3 _ _ _ _ _ _ _ h101) (allReady_cons (of_op4  _ _ _ _ _ _ _ h011) AllReadyIn.nil))
  have h010 : wpAnyIn (F.inRound l) m Tryz.prog .any ofOps Q 7 #[false, false, false, false, true, false, false, false] ⟨(ofTmps cs sv k s t a g B0 N undef undef undef undef (.pointer (some ⟨N, 0, none⟩)) undef undef), []⟩ W :=
    wpAnyIn_ready (rs := [0, 5, 6]) (by kernel_rfl) (by simp) (allReady_cons (of_op0 c3 _ _ _ _ _ _ _ h110) (allReady_cons (of_op5 d0 _ _ _ _ _ _ h020) (allReady_cons (of_op6 d0 d1 d2 d3 _ _ _ _ _ _ _ h011) AllReadyIn.nil)))
  have h100 : wpAnyIn (F.inRound l) m Tryz.prog .any ofOps Q 7 #[true, false, false, false, false, false, false, false] ⟨(ofTmps cs sv k s t a g B0 N (.pointer (some ⟨B0 + 1 + 1, 0, none⟩)) undef undef undef undef undef undef), []⟩ W :=
    wpAnyIn_ready (rs := [1, 4, 6]) (by kernel_rfl) (by simp) (allReady_cons (of_op1  _ _ _ _ _ _ h200) (allReady_cons (of_op4  _ _ _ _ _ _ _ h110) (allReady_cons (of_op6 d0 d1 d2 d3 _ _ _ _ _ _ _ h101) AllReadyIn.nil)))
  have h000 : wpAnyIn (F.inRound l) m Tryz.prog .any ofOps Q 8 #[false, false, false, false, false, false, false, false] ⟨(ofTmps cs sv k s t a g B0 N undef undef undef undef undef undef undef), []⟩ W :=
    wpAnyIn_ready (rs := [0, 4, 6]) (by kernel_rfl) (by simp) (allReady_cons (of_op0 c3 _ _ _ _ _ _ _ h100) (allReady_cons (of_op4  _ _ _ _ _ _ _ h010) (allReady_cons (of_op6 d0 d1 d2 d3 _ _ _ _ _ _ _ h001) AllReadyIn.nil)))
  exact h000
end Go.Ev
