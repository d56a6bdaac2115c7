/- What the model's operations become for the evaluator, and that it carries them out as the model does. -/
import Derived.Test.YtgkcpkhifgnjoaaGreatDoorEvC
import Derived.LaidEql
import Derived.RowKit
namespace Go.Ev
open Go

def natOf : List UInt8 → Nat
  | [] => 0
  | b :: l => b.toNat + 256 * natOf l

theorem bytesOf_natOf : ∀ l : List UInt8, bytesOf l.length (natOf l) = l
  | [] => rfl
  | b :: l => by
    have hb : b.toNat < 256 := b.toNat_lt
    have e1 : (b.toNat + 256 * natOf l) % 256 = b.toNat := by generalize b.toNat = x at *; generalize natOf l = y; omega
    have e2 : (b.toNat + 256 * natOf l) / 256 = natOf l := by generalize b.toNat = x at *; generalize natOf l = y; omega
    show UInt8.ofNat ((b.toNat + 256 * natOf l) % 256) :: bytesOf l.length ((b.toNat + 256 * natOf l) / 256) = b :: l
    rw [e1, e2, bytesOf_natOf l]
    simp

theorem strOf_natOf (s : ByteArray) : strOf s.size (natOf s.data.toList) = s := by
  have : bytesOf s.size (natOf s.data.toList) = s.data.toList := by
    have := bytesOf_natOf s.data.toList
    rwa [show s.data.toList.length = s.size from Array.length_toList] at this
  unfold strOf
  rw [this]

theorem bytesOf_length : ∀ n v : Nat, (bytesOf n v).length = n
  | 0, _ => rfl
  | n + 1, v => by simp [bytesOf, bytesOf_length n]

theorem strOf_size (n v : Nat) : (strOf n v).size = n := by
  show (bytesOf n v).toArray.size = n
  rw [List.size_toArray, bytesOf_length]

def avOf1 : Value → Option AV
  | .bool b => some (.bool b)
  | .int k n => some (.int k n)
  | .string s => some (.str s.size (natOf s.data.toList))
  | .pointer none => some .nilPtr
  | .slice none 0 0 => some .nilSl
  | .map none => some .nilMap
  | .chan none => some .nilChan
  | .nilFunc => some .nilFn
  | .func (.func f) ⟨[]⟩ ⟨[]⟩ => some (.fn f [])
  | .nilIface => some .nilIface
  | _ => none

def allOf {α β : Type} (f : α → Option β) : List α → Option (List β)
  | [] => some []
  | a :: l => match f a, allOf f l with
    | some b, some bs => some (b :: bs)
    | _, _ => none

def avOf : Value → Option AV
  | .agg l => (allOf avOf1 l.toList).map .agg
  | .tuple l => (allOf avOf1 l.toList).map .tup
  | v => avOf1 v

theorem avOf1_sound {V : Value} {v : AV} (m : PM) (h : avOf1 V = some v) : VRel m v V := by
  unfold avOf1 at h
  split at h <;> first
    | (cases h; done)
    | (simp only [Option.some.injEq] at h; subst h; first | rfl | (simp only [VRel]; first | rfl | exact ⟨[], rfl, rfl⟩ | (rw [strOf_natOf])))

theorem allOf_avOf1 (m : PM) : ∀ {L : List Value} {l : List AV}, allOf avOf1 L = some l → LRel m l L
  | [], l, h => by simp [allOf] at h; subst h; exact LRel.nil
  | V :: L, l, h => by
    unfold allOf at h
    split at h
    · rename_i b bs h1 h2
      simp at h; subst h
      exact (allOf_avOf1 m h2).cons (avOf1_sound m h1)
    · cases h

theorem avOf_sound {V : Value} {v : AV} (m : PM) (h : avOf V = some v) : VRel m v V := by
  unfold avOf at h
  split at h
  · rename_i l
    cases hl : allOf avOf1 l.toList with
    | none => rw [hl] at h; cases h
    | some l' => rw [hl] at h; simp at h; subst h; exact ⟨l.toList, allOf_avOf1 m hl, by simp⟩
  · rename_i l
    cases hl : allOf avOf1 l.toList with
    | none => rw [hl] at h; cases h
    | some l' => rw [hl] at h; simp at h; subst h; exact ⟨l.toList, allOf_avOf1 m hl, by simp⟩
  · exact avOf1_sound m h

def opd : Operand → Option Opd
  | .tmp t => if t < 4294967296 then some (.t (pos t)) else none
  | .const v => (avOf v).map .c
  | .func f => some (.c (.fn f []))
  | .global _ => none

/-- What the slots stand for. -/
def FRel (m : PM) (ρ : Fr) (a : Act) : Prop := ∀ t, t < 4294967296 → VRel m (getF ρ (pos t)) (a.tmps.getD t undef)

theorem FRel.mono {m m' : PM} {ρ : Fr} {a : Act} (h : FRel m ρ a) (hm : PLe m m') : FRel m' ρ a := fun t ht => (h t ht).mono hm

theorem opd_sound {m : PM} {ρ : Fr} {a : Act} {x : Operand} {y : Opd} (h : opd x = some y) (hf : FRel m ρ a) : VRel m (ev ρ y) (a.eval x) := by
  cases x with
  | tmp t =>
    simp only [opd] at h
    split at h
    · simp at h; subst h; exact hf t ‹_›
    · cases h
  | const v =>
    simp only [opd] at h
    cases hv : avOf v with
    | none => rw [hv] at h; cases h
    | some w => rw [hv] at h; simp at h; subst h; exact avOf_sound m hv
  | func f => simp [opd] at h; subst h; exact ⟨[], rfl, rfl⟩
  | global g => simp [opd] at h

theorem opds_sound {m : PM} {ρ : Fr} {a : Act} (hf : FRel m ρ a) : ∀ {xs : List Operand} {ys : List Opd}, allOf opd xs = some ys → LRel m (ys.map (ev ρ)) (xs.map a.eval)
  | [], ys, h => by simp [allOf] at h; subst h; exact LRel.nil
  | x :: xs, ys, h => by
    unfold allOf at h
    split at h
    · rename_i b bs h1 h2
      simp at h; subst h
      exact (opds_sound hf h2).cons (opd_sound h1 hf)
    · cases h

/-- What an operation hands back. -/
def NRel (m : PM) (v : AV) : Next → Prop
  | .value V => VRel m v V
  | .skip => v = undefA
  | _ => False

/-- An operation, told by its value and the memory behind it: so it goes from whatever stands for the memory ahead of it. -/
def OpSem (P : Program) (o : Oper) (ρ : Fr) (h : H) (nx : Pos) (v : AV) (h' : H) (nx' : Pos) : Prop :=
  nx.toNat ≤ nx'.toNat ∧ ∀ m w a, Rep m h w → FRel m ρ a → Free m nx nx' →
    ∃ m' w' r, (execOp a.eval o).run P w = .ok r w' ∧ NRel m' v r ∧ Done m h nx w m' h' nx' w'

def R (P : Program) (o : Oper) (ρ : Fr) (h : H) (nx : Pos) (K : AV → H → Pos → Bool) : Prop :=
  ∃ v h' nx', K v h' nx' = true ∧ OpSem P o ρ h nx v h' nx'

section
variable {P : Program} {o : Oper} {ρ : Fr} {h : H} {nx : Pos} {K : AV → H → Pos → Bool}

theorem R.pure {v : AV} (hk : K v h nx = true) (hs : ∀ m w a, FRel m ρ a → Rep m h w → ∃ V, (execOp a.eval o).run P w = .ok (.value V) w ∧ VRel m v V) : R P o ρ h nx K :=
  ⟨v, h, nx, hk, Nat.le_refl _, fun m w a hr hf _ => let ⟨V, h1, h2⟩ := hs m w a hf hr; ⟨m, w, .value V, h1, h2, Done.refl hr⟩⟩

/-- An operation that makes a block. -/
theorem R.new {v : AV} {ob : AObj} (cap : Nat) (hk : K v (T.set (some ob) nx h) nx.succ = true)
    (hs : ∀ m w a, FRel m ρ a → Rep m h w → m nx = none → ∃ O V, (execOp a.eval o).run P w = .ok (.value V) (newW w O) ∧
      ORep (m.set nx ⟨w.heap.size, 0, cap⟩) (newW w O) ⟨w.heap.size, 0, cap⟩ ob ∧ VRel (m.set nx ⟨w.heap.size, 0, cap⟩) v V) : R P o ρ h nx K := by
  refine ⟨v, _, nx.succ, hk, by rw [Pos.toNat_succ]; omega, fun m w a hr hf hfree => ?_⟩
  have hid : m nx = none := hfree nx (Nat.le_refl _) (by rw [Pos.toNat_succ]; omega)
  obtain ⟨O, V, h1, h2, h3⟩ := hs m w a hf hr hid
  obtain ⟨g1, g2⟩ := hr.new O ob ⟨w.heap.size, 0, cap⟩ hid rfl h2
  refine ⟨_, _, .value V, h1, h3, ⟨g1, g2, fun id hlt => PM.set_other m _ fun e => ?_⟩⟩
  subst e; rw [Pos.toNat_succ] at hlt; omega

/-- An operation that turns a block. -/
theorem R.write {v : AV} {h' : H} (hk : K v h' nx = true)
    (hs : ∀ m w a, FRel m ρ a → Rep m h w → ∃ w' r, (execOp a.eval o).run P w = .ok r w' ∧ NRel m v r ∧ Rep m h' w' ∧ Ext m h w m h' w') : R P o ρ h nx K :=
  ⟨v, h', nx, hk, Nat.le_refl _, fun m w a hr hf _ => let ⟨w', r, h1, h2, h3, h4⟩ := hs m w a hf hr; ⟨m, w', r, h1, h2, ⟨h3, h4, Only.refl m nx nx⟩⟩⟩
end

/-! ### the conversion -/
def aggT (P : Program) (t : TypeId) : Bool := match P.underlying t with | some (.struct _) | some (.array ..) => true | _ => false

def zerosOf (P : Program) (t : TypeId) : Option AV := match P.info? t with
  | some i => match i.zero with
    | some z => avOf z
    | none => none
  | none => none

def eqTy (P : Program) (t : TypeId) : Option EqTy := match P.underlying t with
  | some .bool => some .bool | some (.int _) => some .int | some .string => some .str | some (.pointer _) => some .ptr | some (.slice _) => some .slice
  | some (.map ..) => some .map | some (.func ..) => some .func | some (.chan ..) => some .chan | some (.interface _) => some .iface | _ => none

/-- A field of a struct that is held: its place, its type's way; none: it may not be. -/
def eqField (P : Program) (f : Field) : Option (Nat × EqTy) :=
  if f.name = "_" then none else match eqTy P f.type with
    | some .iface => none
    | some t => some (f.offset, t)
    | none => none

def oo : Option Operand → Option (Option Opd)
  | none => some none
  | some x => (opd x).map some

def conv (P : Program) (o : Oper) : OpK :=
  match o.op with
  | .move x => match opd x with | some x => .mv x | none => .bad "move"
  | .assign x => match opd x with | some x => .mv x | none => .bad "assign"
  | .pick c a b => match opd c, opd a, opd b with | some c, some a, some b => .pick c a b | _, _, _ => .bad "pick"
  | .alloc t => match zerosOf P t with | some z => bif Nat.blt z.cells.length 1048576 then .alloc z.cells.length z.cells else .bad "alloc" | none => .bad "alloc"
  | .box _ x => match opd x with | some x => .box x | none => .bad "box"
  | .load t x => match opd x, P.info? t with
    | some x, some i => bif aggT P t then .loadN i.size x else bif (P.underlying t).isSome then .load1 x else .bad "load"
    | _, _ => .bad "load"
  | .store t x y => match opd x, opd y, P.info? t with
    | some x, some y, some i => .store i.size x y
    | _, _, _ => .bad "store"
  | .nilCheck x => match opd x with | some x => .nilChk x | none => .bad "nilCheck"
  | .unOp op _ x => match opd x with | some x => .un op x | none => .bad "unOp"
  | .extract x i => match opd x with | some x => .extract x i | none => .bad "extract"
  | .makeFunc (.func f) ⟨[]⟩ caps => match allOf opd caps.toList with | some l => .mkFn f l | none => .bad "makeFunc"
  | .send c v => match opd c, opd v with
    | some c, some v => .send c v
    | _, _ => .bad "send"
  | .select cs b => match b, cs.toList with
    | false, [s] => match s.send, opd s.chan, zerosOf P s.elem with
      | none, some c, some z => .selR c z
      | _, _, _ => .bad "select"
    | _, _ => .bad "select"
  | .makeChan t x => match opd x, P.underlying t with
    | some x, some (.chan _ e) => match P.info? e with
      | some i => bif Nat.ble i.bytes 1024 then .mkChan x else .bad "makeChan"
      | none => .bad "makeChan"
    | _, _ => .bad "makeChan"
  | .makeMap t none => match P.underlying t with
    | some (.map kt _) => match P.underlying kt with
      | some (.int .i64) => .mkMap false
      | some .string => .mkMap true
      | _ => .bad "makeMap"
    | _ => .bad "makeMap"
  | .fieldAddr t x i => match opd x, P.underlying t with
    | some x, some (.struct fs) => match fs[i]? with
      | some f => match P.info? f.type with
        | some fi => bif Nat.beq fi.size 0 then .bad "fieldAddr: no cell" else .faddr f.offset x
        | none => .bad "fieldAddr"
      | none => .bad "fieldAddr"
    | _, _ => .bad "fieldAddr"
  | .field t x i => match opd x, P.underlying t with
    | some x, some (.struct fs) => match fs[i]? with
      | some f => match P.info? f.type with
        | some fi => bif (P.underlying f.type).isSome then .fld f.offset fi.size (aggT P f.type) x else .bad "field"
        | none => .bad "field"
      | none => .bad "field"
    | _, _ => .bad "field"
  | .indexAddr t x i => match opd x, opd i, P.underlying t with
    | some x, some i, some (.slice e) => match P.info? e with | some ei => .idxSl ei.size x i | none => .bad "indexAddr"
    | some x, some i, some (.array n e) => match P.info? e with | some ei => .idxAr n ei.size x i | none => .bad "indexAddr"
    | _, _, _ => .bad "indexAddr"
  | .index t x i => match opd x, opd i, P.underlying t with
    | some x, some i, some .string => .strIdx x i
    | _, _, _ => .bad "index"
  | .binOp op t x y _ => match opd x, opd y with
    | some x, some y => match op with
      | .eql => match P.underlying t with
        | some (.int _) => .bin .eql x y
        | some .string => .bin .eql x y
        | some (.struct fs) => bif P.stoodInHeld t || P.eqGuardType P.depth t then .bad "eql" else match allOf (eqField P) fs.toList with | some l => .eqS false l x y | none => .bad "eql"
        | _ => match eqTy P t with | some .iface => .bad "eql" | some e => .eq false e x y | none => .bad "eql"
      | .neq => match P.underlying t with
        | some (.int _) => .bin .neq x y
        | some .string => .bin .neq x y
        | some (.struct fs) => bif P.stoodInHeld t || P.eqGuardType P.depth t then .bad "neq" else match allOf (eqField P) fs.toList with | some l => .eqS true l x y | none => .bad "neq"
        | _ => match eqTy P t with | some .iface => .bad "neq" | some e => .eq true e x y | none => .bad "neq"
      | op => .bin op x y
    | _, _ => .bad "binOp"
  | .convert s t x => match opd x, P.underlying s, P.underlying t with
    | some x, some _, some (.int k) => .convI k x
    | some x, some (.slice e), some .string => match P.underlying e with | some (.int .u8) => .b2s x | _ => .bad "convert"
    | some x, some (.slice _), some (.slice e) => match P.underlying e with | some (.int .u8) => bif Nat.beq s t then .cvS x else .bad "convert" | _ => .bad "convert"
    | _, _, _ => .bad "convert"
  | .build t ps => match zerosOf P t, P.underlying t with
    | some (.agg z), some (.struct fs) => match allOf (fun p : Nat × Operand => match fs[p.1]?, opd p.2 with
        | some f, some x => match P.info? f.type with | some fi => some (f.offset, fi.size, x) | none => none
        | _, _ => none) ps.toList, fs.all fun f => (P.info? f.type).isSome with
      | some l, true => .build z l
      | _, _ => .bad "build"
    | some (.agg z), some (.array _ e) => match P.info? e with
      | some ei => match allOf (fun p : Nat × Operand => match opd p.2 with | some x => some (Nat.mul p.1 ei.size, ei.size, x) | none => none) ps.toList with
        | some l => .build z l
        | none => .bad "build"
      | none => .bad "build"
    | _, _ => .bad "build"
  | .buildSlice t len ps => match P.underlying t with
    | some (.slice e) => match zerosOf P e, P.info? e with
      | some z, some ei => bif Nat.beq z.cells.length ei.size && Nat.ble (Nat.mul len ei.size) 65536 then
          match allOf (fun p : Nat × Operand => match opd p.2 with | some x => some (Nat.mul p.1 ei.size, ei.size, x) | none => none) ps.toList with
          | some l => .buildSlice len ei.size (List.replicate len z.cells).flatten l
          | none => .bad "buildSlice"
        else .bad "buildSlice"
      | _, _ => .bad "buildSlice"
    | _ => .bad "buildSlice"
  | .makeSlice t l c => match opd l, opd c, P.underlying t with
    | some l, some c, some (.slice e) => match zerosOf P e, P.info? e with
      | some z, some ei => bif Nat.beq z.cells.length ei.size && Nat.blt 0 ei.size then .mkSlice ei.size ei.bytes z.cells l c else .bad "makeSlice"
      | _, _ => .bad "makeSlice"
    | _, _, _ => .bad "makeSlice"
  | .slice t x lo hi mx => match opd x, oo lo, oo hi, oo mx, P.underlying t with
    | some x, some lo, some hi, some none, some .string => .slStr x lo hi
    | some x, some lo, some hi, some mx, some (.slice e) => match P.info? e with | some ei => bif mx.isSome && !hi.isSome then .bad "slice" else .slSl ei.size x lo hi mx | none => .bad "slice"
    | _, _, _, _, _ => .bad "slice"
  | .lookup t m k ok => match opd m, opd k, P.underlying t with
    | some m, some k, some (.map kt e) => match P.underlying kt, zerosOf P e with
      | some (.int .i64), some z => .lookup false z m k ok
      | some .string, some z => .lookup true z m k ok
      | _, _ => .bad "lookup"
    | _, _, _ => .bad "lookup"
  | .mapUpdate t m k v => match opd m, opd k, opd v, P.underlying t with
    | some m, some k, some v, some (.map kt _) => match P.underlying kt with
      | some (.int .i64) => .mapSet false m k v
      | some .string => .mapSet true m k v
      | _ => .bad "mapUpdate"
    | _, _, _, _ => .bad "mapUpdate"
  | .insert t m k v => match opd m, opd k, opd v, P.underlying t with
    | some m, some k, some v, some (.map kt _) => match P.underlying kt with
      | some (.int .i64) => .mapSet false m k v
      | some .string => .mapSet true m k v
      | _ => .bad "insert"
    | _, _, _, _ => .bad "insert"
  | .call c => match allOf opd c.args.toList, c.callee with
    | some args, .value (.func f) => .call f args
    | some args, .value x => match opd x with | some x => .callV x args | none => .bad "call"
    | some [x], .builtin .len => match c.argTypes[0]? with
      | some t => match P.underlying t with
        | some .string => .len .str x
        | some (.slice _) => .len .slice x
        | some (.map _ _) => .len .map x
        | _ => .bad "len"
      | none => .bad "len"
    | some [s, x], .builtin .append => match c.argTypes[0]?, c.argTypes[1]? with
      | some t, some u => match P.underlying t, P.underlying u with
        | some (.slice e), some (.slice _) => match zerosOf P e, P.info? e with | some z, some ei => bif Nat.beq z.cells.length ei.size then .append ei.size ei.bytes s x else .bad "append" | _, _ => .bad "append"
        | _, _ => .bad "append"
      | _, _ => .bad "append"
    | some [m, k], .builtin .delete => match c.argTypes[0]? with
      | some t => match P.underlying t with
        | some (.map kt _) => match P.underlying kt with
          | some (.int .i64) => .del false m k
          | some .string => .del true m k
          | _ => .bad "delete"
        | _ => .bad "delete"
      | none => .bad "delete"
    | some [x, y], .builtin .max => .max2 x y
    | some [x, y], .builtin .copy => match c.argTypes[0]? with
      | some t => match P.underlying t with
        | some (.slice e) => match P.info? e with
          | some ei => .copy ei.size x y
          | none => .bad "copy"
        | _ => .bad "copy"
      | none => .bad "copy"
    | some [x], .builtin .clear => match c.argTypes[0]? with
      | some t => match P.underlying t with
        | some (.slice e) => match zerosOf P e, P.info? e with
          | some z, some ei => bif Nat.beq z.cells.length ei.size && Nat.blt 0 ei.size then .clear ei.size z.cells x else .bad "clear"
          | _, _ => .bad "clear"
        | _ => .bad "clear"
      | none => .bad "clear"
    | _, _ => .bad "call"
  | _ => .bad "op"

end Go.Ev
