/- The evaluator: operations, regions, code. -/
import Derived.Test.YtgkcpkhifgnjoaaGreatDoorEvB
namespace Go.Ev

inductive Opd where
  | t (p : Pos) | c (v : AV)

/-- How two values of a type are held against one another. -/
inductive EqTy where
  | bool | ptr | slice | map | func | iface | int | str | chan

inductive OpK where
  | mv (x : Opd)
  | pick (c a b : Opd)
  | alloc (k : Nat) (d : List AV)
  | box (x : Opd)
  | build (z : List AV) (ps : List (Nat × Nat × Opd))
  | buildSlice (len es : Nat) (z : List AV) (ps : List (Nat × Nat × Opd))
  | load1 (a : Opd) | loadN (n : Nat) (a : Opd)
  | store (n : Nat) (a v : Opd)
  | nilChk (x : Opd)
  | bin (op : BinOp) (x y : Opd)
  | eq (neg : Bool) (t : EqTy) (x y : Opd)
  | eqS (neg : Bool) (fs : List (Nat × EqTy)) (x y : Opd)
  | un (op : UnOp) (x : Opd)
  | convI (k : IntKind) (x : Opd) | b2s (x : Opd)
  | mkFn (f : Nat) (caps : List Opd)
  | mkMap (ks : Bool)
  | mkChan (x : Opd)
  | cvS (x : Opd)
  | send (c v : Opd)
  | selR (c : Opd) (z : AV)
  | copy (es : Nat) (x y : Opd)
  | clear (es : Nat) (z : List AV) (x : Opd)
  | mkSlice (es bytes : Nat) (z : List AV) (l c : Opd)
  | slStr (x : Opd) (lo hi : Option Opd)
  | slSl (es : Nat) (x : Opd) (lo hi mx : Option Opd)
  | faddr (off : Nat) (x : Opd)
  | fld (off size : Nat) (agg : Bool) (x : Opd)
  | idxSl (es : Nat) (x i : Opd) | idxAr (n es : Nat) (x i : Opd)
  | strIdx (x i : Opd)
  | lookup (ks : Bool) (z : AV) (m k : Opd) (ok : Bool)
  | mapSet (ks : Bool) (m k v : Opd)
  | extract (x : Opd) (i : Nat)
  | len (t : EqTy) (x : Opd)
  | append (es bytes : Nat) (s x : Opd)
  | del (ks : Bool) (m k : Opd)
  | max2 (x y : Opd)
  | call (f : Nat) (args : List Opd)
  | callV (f : Opd) (args : List Opd)
  | bad (s : String)

/-- What an operation does to memory. -/
inductive Cls where
  | pure | alloc | read | app | ins | big

structure IOp where
  dst : Option Pos
  guard : Option (Pos × Bool)
  op : OpK

/-- An operation of a region that draws its order: with the slots that it asks for, and with those that it waits for. -/
structure DOp where
  op : IOp
  cls : Cls
  mask : Nat
  names : List Pos

inductive C where
  | skip | reg (l : List IOp) | regD (l : List DOp) (pairs : List (Nat × Nat)) | seq (a b : C) | cond (c : Opd) (a b : C) | block (id : Nat) (b : C) | loop (b : C) | exit (id : Nat) | ret | bad (s : String)

inductive RV where
  | tmp (p : Pos) | cell (p : Pos) | cells (p : Pos) (n : Nat)

structure IFunc where
  body : C
  results : List RV

def undefA : AV := .tup []

def getF (ρ : Fr) (p : Pos) : AV := (ρ.get p).getD undefA

def ev (ρ : Fr) : Opd → AV
  | .t p => getF ρ p
  | .c v => v

section
variable {R : Type}
/-- The same number, worked out first. -/
def fN (n : Nat) (k : Nat → R) : R := Nat.casesOn n (k 0) fun m => k (Nat.succ m)
theorem fN_eq (n : Nat) (k : Nat → R) : fN n k = k n := by cases n <;> rfl
def fI (n : Int) (k : Int → R) : R := Int.casesOn n (fun a => fN a fun a => k (.ofNat a)) (fun a => fN a fun a => k (.negSucc a))
theorem fI_eq (n : Int) (k : Int → R) : fI n k = k n := by cases n <;> simp [fI, fN_eq]
end

def AV.cells : AV → List AV
  | .agg l => l
  | v => [v]

def newK (h : H) (nx : Pos) (o : AObj) (k : Pos → H → Pos → Bool) : Bool := putObjK h nx o fun h => k nx h nx.succ

def wrapF (k : IntKind) (n : Int) : Int :=
  match k, n with
  | .i64, .ofNat a => bif Nat.blt a 9223372036854775808 then .ofNat a else k.wrap n
  | .i64, .negSucc a => bif Nat.blt a 9223372036854775808 then .negSucc a else k.wrap n
  | _, _ => k.wrap n

def binI (op : BinOp) (k : IntKind) (a b : Int) (K : AV → Bool) : Bool :=
  match op with
  | .add => fI (wrapF k (Int.add a b)) fun n => K (.int k n)
  | .sub => fI (wrapF k (Int.sub a b)) fun n => K (.int k n)
  | .mul => fI (wrapF k (Int.mul a b)) fun n => K (.int k n)
  | .quo => bif intEq b 0 then bad "div" else fI (k.wrap (a.tdiv b)) fun n => K (.int k n)
  | .rem => bif intEq b 0 then bad "div" else fI (a.tmod b) fun n => K (.int k n)
  | .and => fI (k.wrap (BitVec.ofInt k.bits a &&& BitVec.ofInt k.bits b).toNat) fun n => K (.int k n)
  | .or => fI (k.wrap (BitVec.ofInt k.bits a ||| BitVec.ofInt k.bits b).toNat) fun n => K (.int k n)
  | .eql => K (.bool (intEq a b))
  | .neq => K (.bool (!intEq a b))
  | .lss => K (.bool (intLt a b))
  | .leq => K (.bool (!intLt b a))
  | .gtr => K (.bool (intLt b a))
  | .geq => K (.bool (!intLt a b))
  | _ => bad "binop"

def shiftI (op : BinOp) (k : IntKind) (a b : Int) (K : AV → Bool) : Bool :=
  bif intLt b 0 then bad "shift" else
  match op with
  | .shl => fI (k.wrap (a * 2 ^ (min b.toNat k.bits))) fun n => K (.int k n)
  | .shr => fI (a.fdiv (2 ^ (min b.toNat k.bits))) fun n => K (.int k n)
  | _ => bad "shift"

def byteAt (v i : Nat) : Nat := Nat.mod (Nat.div v (Nat.pow 256 i)) 256
def strLess : (n1 v1 n2 v2 : Nat) → Bool
  | _, _, 0, _ => false
  | 0, _, _ + 1, _ => true
  | n1 + 1, v1, n2 + 1, v2 => bif Nat.blt (Nat.mod v1 256) (Nat.mod v2 256) then true else bif Nat.beq (Nat.mod v1 256) (Nat.mod v2 256) then strLess n1 (Nat.div v1 256) n2 (Nat.div v2 256) else false

def binS (op : BinOp) (n1 v1 n2 v2 : Nat) (K : AV → Bool) : Bool :=
  match op with
  | .add => bif Nat.blt (Nat.add n1 n2) 9223372036854775808 then fN (Nat.add n1 n2) fun n => fN (Nat.add (Nat.mod v1 (Nat.pow 256 n1)) (Nat.mul v2 (Nat.pow 256 n1))) fun v => K (.str n v) else bad "long"
  | .eql => K (.bool (strEq n1 v1 n2 v2))
  | .neq => K (.bool (!strEq n1 v1 n2 v2))
  | .lss => K (.bool (strLess n1 v1 n2 v2))
  | .leq => K (.bool (strLess n1 v1 n2 v2 || strEq n1 v1 n2 v2))
  | .gtr => K (.bool (!(strLess n1 v1 n2 v2 || strEq n1 v1 n2 v2)))
  | .geq => K (.bool (!strLess n1 v1 n2 v2))
  | _ => bad "string op"

/-- Is a value the nil of its type? -/
def nilOf : EqTy → AV → Option Bool
  | .ptr, .nilPtr => some true
  | .ptr, .ptr _ _ => some false
  | .slice, .nilSl => some true
  | .slice, .slice _ _ _ _ => some false
  | .slice, .gsl _ _ _ _ => some false
  | .slice, .gend _ => some false
  | .map, .nilMap => some true
  | .map, .map _ => some false
  | .chan, .nilChan => some true
  | .chan, .chan _ => some false
  | .func, .nilFn => some true
  | .func, .fn _ _ => some false
  | .iface, .nilIface => some true
  | .iface, .iface _ _ => some false
  | _, _ => none

/-- Are two values the same, if that can be told without memory? -/
def eqV (e : EqTy) (x y : AV) : Option Bool :=
  match e with
  | .bool => match x, y with | .bool a, .bool b => some (a == b) | _, _ => none
  | .int => match x, y with | .int k a, .int k' b => bif kindEq k k' then some (intEq a b) else none | _, _ => none
  | .str => match x, y with | .str n a, .str m b => some (strEq n a m b) | _, _ => none
  | e => match nilOf e x, nilOf e y with
    | some true, some b => some b
    | some false, some true => some false
    | _, _ => none

def eqFields : List (Nat × EqTy) → List AV → List AV → Option Bool
  | [], _, _ => some true
  | (off, t) :: fs, xs, ys =>
    match xs[off]?, ys[off]? with
    | some x, some y => match eqV t x y with
      | some true => eqFields fs xs ys
      | some false => some false
      | none => none
    | _, _ => none

/-- The first n elements' cells of a slice, or a string's bytes. -/
def cellsOfK (h : H) (es n : Nat) (x : AV) (k : List AV → Bool) : Bool :=
  match x with
  | .nilSl | .gend _ => bif Nat.beq n 0 then k [] else bad "cells"
  | .slice id off _ _ => readNK h id (Nat.mul n es) off k
  | .gsl id es' lo _ => bif Nat.beq es es' then readNK h id (Nat.mul n es) (Nat.mul lo es) k else bad "es"
  | _ => bad "cellsOf"
def lenOf : AV → Option Nat
  | .nilSl => some 0 | .gend _ => some 0 | .slice _ _ n _ => some n | .gsl _ _ _ n => some n | _ => none

/-- Cells written at a slice's beginning. -/
def wrK (h : H) (es n : Nat) (x : AV) (l : List AV) (k : H → Bool) : Bool :=
  bif Nat.beq n 0 then k h else match x with
  | .slice id off _ _ => writeK h id off l k
  | .gsl id es' lo _ => bif Nat.beq es es' then writeK h id (Nat.mul lo es) l k else bad "wrK"
  | _ => bad "wrK"

def natK (v : AV) (k : Nat → Bool) : Bool := match v with | .int _ (.ofNat n) => k n | _ => bad "natK"
def optNatK (ρ : Fr) (o : Option Opd) (d : Nat) (k : Nat → Bool) : Bool := match o with | none => k d | some x => natK (ev ρ x) k

def mapFind (key : AV) : List (AV × AV) → Option AV
  | [] => none
  | (k, v) :: l => bif keyEq key k then some v else mapFind key l
def mapRep (key val : AV) : List (AV × AV) → List (AV × AV)
  | [] => []
  | (k, v) :: l => bif keyEq key k then (key, val) :: l else (k, v) :: mapRep key val l
/-- A new key among the others, in order. -/
def mapIns (key val : AV) : List (AV × AV) → List (AV × AV)
  | [] => [(key, val)]
  | (k, v) :: l => bif keyLt key k then (key, val) :: (k, v) :: l else (k, v) :: mapIns key val l
def mapPut (key val : AV) (es : List (AV × AV)) : List (AV × AV) :=
  match mapFind key es with
  | some _ => mapRep key val es
  | none => mapIns key val es
def mapDel (key : AV) : List (AV × AV) → List (AV × AV)
  | [] => []
  | (k, v) :: l => bif keyEq key k then l else (k, v) :: mapDel key l

def fillParts (ρ : Fr) : List AV → List (Nat × Nat × Opd) → Option (List AV)
  | cells, [] => some cells
  | cells, (off, size, x) :: ps =>
    let l := (ev ρ x).cells
    bif Nat.beq l.length size && Nat.ble (Nat.add off size) cells.length then fillParts ρ (cells.take off ++ (l ++ cells.drop (Nat.add off size))) ps else none

def bytesToStr : List AV → Option Nat
  | [] => some 0
  | .int .u8 (.ofNat b) :: l => bif Nat.blt b 256 then (bytesToStr l).map fun v => Nat.add b (Nat.mul 256 v) else none
  | _ => none

def boolEq : Bool → Bool → Bool
  | true, b => b
  | false, b => !b

/-- An operation that calls nothing. -/
def simple (ρ : Fr) (h : H) (nx : Pos) (op : OpK) (K : AV → H → Pos → Bool) : Bool :=
  match op with
  | .mv x => K (ev ρ x) h nx
  | .pick c a b => match ev ρ c with | .bool t => K (cond t (ev ρ a) (ev ρ b)) h nx | _ => bad "pick"
  | .alloc k d => newK h nx (.cells k k d .e) fun id h nx => K (.ptr id 0) h nx
  | .box x => bif Nat.blt (ev ρ x).cells.length 1048576 then newK h nx (.cells (ev ρ x).cells.length (ev ρ x).cells.length (ev ρ x).cells .e) fun id h nx => K (.ptr id 0) h nx else bad "box"
  | .build z ps => match fillParts ρ z ps with | some l => K (.agg l) h nx | none => bad "build"
  | .buildSlice len es z ps => match fillParts ρ z ps with
    | some l => bif Nat.beq l.length (Nat.mul len es) then newK h nx (.cells (Nat.mul len es) (Nat.mul len es) l .e) fun id h nx => K (.slice id 0 len len) h nx else bad "buildSlice"
    | none => bad "buildSlice"
  | .load1 a => match ev ρ a with | .ptr id off => readK h id off fun v => K v h nx | _ => bad "load1: no ptr"
  | .loadN n a => match ev ρ a with | .ptr id off => readNK h id n off fun l => K (.agg l) h nx | _ => bad "loadN: no ptr"
  | .store n a v => match ev ρ a with
    | .ptr id off => bif Nat.beq (ev ρ v).cells.length n then writeK h id off (ev ρ v).cells fun h => K undefA h nx else bad "store: size"
    | _ => bad "store: no ptr"
  | .nilChk x => match ev ρ x with
    | .ptr id off => K (.ptr id off) h nx
    | .fn f cs => K (.fn f cs) h nx
    | _ => bad "nil"
  | .bin op x y => match ev ρ x, ev ρ y with
    | .int k a, .int k' b => match op with
      | .shl => shiftI .shl k a b fun v => K v h nx
      | .shr => shiftI .shr k a b fun v => K v h nx
      | op => bif kindEq k k' then binI op k a b fun v => K v h nx else bad "kinds"
    | .str n a, .str m b => binS op n a m b fun v => K v h nx
    | _, _ => bad "bin"
  | .eq neg t x y => match eqV t (ev ρ x) (ev ρ y) with
    | some b => K (.bool (bif neg then !b else b)) h nx
    | none => bad "eq"
  | .eqS neg fs x y => match ev ρ x, ev ρ y with
    | .agg xs, .agg ys => match eqFields fs xs ys with
      | some b => K (.bool (bif neg then !b else b)) h nx
      | none => bad "eqS"
    | _, _ => bad "eqS"
  | .un op x => match op, ev ρ x with
    | .not, .bool b => K (.bool !b) h nx
    | .neg, .int k n => fI (k.wrap (0 - n)) fun n => K (.int k n) h nx
    | _, _ => bad "un"
  | .cvS x => match ev ρ x with
    | .slice id off len cap => match h.get id with
      | some (.cells _ _ _ _) => K (.slice id off len cap) h nx
      | _ => bad "cvS"
    | _ => bad "cvS"
  | .convI k x => match ev ρ x with | .int _ n => fI (wrapF k n) fun n => K (.int k n) h nx | _ => bad "convI"
  | .b2s x => match ev ρ x with
    | .nilSl => K (.str 0 0) h nx
    | v => match lenOf v with
      | some n => cellsOfK h 1 n v fun l => match bytesToStr l with | some s => fN s fun s => K (.str n s) h nx | none => bad "b2s"
      | none => bad "b2s"
  | .mkFn f caps => K (.fn f (caps.map (ev ρ))) h nx
  | .mkMap ks => newK h nx (.mp ks []) fun id h nx => K (.map id) h nx
  | .mkChan x => match ev ρ x with
    | .int .i64 (.ofNat n) => bif Nat.ble n 16777216 then newK h nx (.ch n []) fun id h nx => K (.chan id) h nx else bad "mkChan"
    | _ => bad "mkChan"
  | .mkSlice es bytes z l c => natK (ev ρ l) fun l => natK (ev ρ c) fun c =>
    bif Nat.ble (Nat.mul bytes c) 281474976710656 && Nat.ble l c && Nat.blt c 1099511627776 && Nat.blt es 1048576 then
      fN (Nat.mul c es) fun s => newK h nx (.cells s es z .e) fun id h nx => K (.slice id 0 l c) h nx
    else bad "mkSlice"
  | .slStr x lo hi => match ev ρ x with
    | .str n v => optNatK ρ hi n fun hi => optNatK ρ lo 0 fun lo =>
      bif Nat.ble lo hi && Nat.ble hi n then fN (Nat.sub hi lo) fun m => fN (Nat.div v (Nat.pow 256 lo)) fun w => K (.str m w) h nx else bad "slStr"
    | _ => bad "slStr"
  | .slSl es x lo hi mx => match ev ρ x with
    | .nilSl => optNatK ρ hi 0 fun hi => optNatK ρ lo 0 fun lo => optNatK ρ mx 0 fun mx =>
      bif Nat.beq hi 0 && Nat.beq lo 0 && Nat.beq mx 0 then K .nilSl h nx else bad "slice nil"
    | .slice id off len cap => optNatK ρ mx cap fun m => optNatK ρ hi len fun hi => optNatK ρ lo 0 fun lo =>
      bif Nat.ble lo hi && Nat.ble hi m && Nat.ble m cap then
        fN (Nat.add off (bif Nat.beq m lo then 0 else Nat.mul lo es)) fun off' => fN (Nat.sub hi lo) fun l' => fN (Nat.sub m lo) fun c' => K (.slice id off' l' c') h nx
      else bad "slice bounds"
    | .gsl id es' l0 len =>
      match h.get id with
      | some (.grown es2 ext _ _ _) =>
        bif !(Nat.beq es es' && Nat.beq es es2) then bad "es" else
        match mx with
        | some mx => natK (ev ρ mx) fun m => optNatK ρ hi len fun hi => optNatK ρ lo 0 fun lo =>
          bif Nat.ble lo hi && Nat.ble hi m && Nat.ble (Nat.mul (Nat.add l0 m) es) ext then
            fN (Nat.add (Nat.mul l0 es) (bif Nat.beq m lo then 0 else Nat.mul lo es)) fun off' => fN (Nat.sub hi lo) fun l' => fN (Nat.sub m lo) fun c' => K (.slice id off' l' c') h nx
          else bad "gslice3"
        | none => optNatK ρ hi len fun hi => optNatK ρ lo 0 fun lo =>
          bif Nat.ble lo hi && Nat.ble (Nat.mul (Nat.add l0 hi) es) ext then
            bif Nat.beq lo 0 || Nat.blt (Nat.mul (Nat.add l0 lo) es) ext then fN (Nat.add l0 lo) fun l0 => fN (Nat.sub hi lo) fun l' => K (.gsl id es l0 l') h nx
            else K (.gend nx) h nx.succ
          else bad "gslice"
      | _ => bad "gslice: no block"
    | _ => bad "slice"
  | .faddr off x => match ev ρ x with | .ptr id o => fN (Nat.add o off) fun o => K (.ptr id o) h nx | _ => bad "faddr"
  | .fld off size agg x => match ev ρ x with
    | .agg l => bif agg then K (.agg ((l.drop off).take size)) h nx else match l[off]? with | some v => K v h nx | none => bad "fld"
    | _ => bad "fld"
  | .idxSl es x i => natK (ev ρ i) fun i => match ev ρ x with
    | .slice id off len _ => bif Nat.blt i len then fN (Nat.add off (Nat.mul i es)) fun o => K (.ptr id o) h nx else bad "index"
    | .gsl id es' lo len => bif Nat.blt i len && Nat.beq es es' then fN (Nat.mul (Nat.add lo i) es) fun o => K (.ptr id o) h nx else bad "index"
    | _ => bad "idxSl"
  | .idxAr n es x i => natK (ev ρ i) fun i => match ev ρ x with
    | .ptr id off => bif Nat.blt i n then fN (Nat.add off (Nat.mul i es)) fun o => K (.ptr id o) h nx else bad "index"
    | _ => bad "idxAr"
  | .strIdx x i => natK (ev ρ i) fun i => match ev ρ x with
    | .str n v => bif Nat.blt i n then fN (byteAt v i) fun b => K (.int .u8 (.ofNat b)) h nx else bad "string index"
    | _ => bad "strIdx"
  | .lookup ks z m key ok => bif !keyOk ks (ev ρ key) then bad "lookup: kind" else match ev ρ m with
    | .nilMap => K (bif ok then .tup [z, .bool false] else z) h nx
    | .map id => match h.get id with
      | some (.mp ks' es) => bif !boolEq ks ks' then bad "lookup: kinds" else match mapFind (ev ρ key) es with
        | some v => K (bif ok then .tup [v, .bool true] else v) h nx
        | none => K (bif ok then .tup [z, .bool false] else z) h nx
      | _ => bad "lookup"
    | _ => bad "lookup"
  | .mapSet ks m key v => bif !keyOk ks (ev ρ key) then bad "mapSet: kind" else match ev ρ m with
    | .map id => match h.get id with
      | some (.mp ks' es) => bif !boolEq ks ks' then bad "mapSet: kinds" else putObjK h id (.mp ks (mapPut (ev ρ key) (ev ρ v) es)) fun h => K undefA h nx
      | _ => bad "mapSet"
    | _ => bad "mapSet"
  | .extract x i => match ev ρ x with
    | .tup l => match l[i]? with | some v => K v h nx | none => bad "extract"
    | _ => bad "extract"
  | .len t x => match t with
    | .str => match ev ρ x with | .str n _ => K (.int .i64 (.ofNat n)) h nx | _ => bad "len"
    | .slice => match lenOf (ev ρ x) with | some n => K (.int .i64 (.ofNat n)) h nx | none => bad "len"
    | .map => match ev ρ x with
      | .nilMap => K (.int .i64 (.ofNat 0)) h nx
      | .map id => match h.get id with | some (.mp _ es) => fN es.length fun n => K (.int .i64 (.ofNat n)) h nx | _ => bad "len"
      | _ => bad "len"
    | _ => bad "len"
  | .copy es x y => match lenOf (ev ρ x), lenOf (ev ρ y) with
    | some d, some s => fN (bif Nat.ble s d then s else d) fun n => cellsOfK h es n (ev ρ y) fun l => wrK h es n (ev ρ x) l fun h => K (.int .i64 (.ofNat n)) h nx
    | _, _ => bad "copy"
  | .clear es z x => match lenOf (ev ρ x) with
    | some n => bif Nat.blt n 1048576 then wrK h es n (ev ρ x) (List.replicate n z).flatten fun h => K (.tup []) h nx else bad "clear"
    | none => bad "clear"
  | .append es bytes s x => match lenOf (ev ρ x) with
    | none => bad "append: what"
    | some m => cellsOfK h es m (ev ρ x) fun new =>
      bif !(Nat.blt m 1048576 && Nat.blt bytes 65536 && Nat.blt es 65536 && Nat.blt 0 es) then bad "append: long" else
      match ev ρ s with
      | .nilSl => bif Nat.beq m 0 then K .nilSl h nx else fN (Nat.mul m es) fun e => newK h nx (.grown es e e new .e) fun id h nx => K (.gsl id es 0 m) h nx
      | .gend id => bif Nat.beq m 0 then K (.gend id) h nx else bad "append: end"
      | .slice id off len cap =>
        bif Nat.ble (Nat.add len m) cap then writeK h id (Nat.add off (Nat.mul len es)) new fun h => fN (Nat.add len m) fun n => K (.slice id off n cap) h nx
        else bif Nat.blt len 1048576 then
          readNK h id (Nat.mul len es) off fun old => fN (Nat.add len m) fun n => fN (Nat.mul n es) fun e => newK h nx (.grown es e e (old ++ new) .e) fun id h nx => K (.gsl id es 0 n) h nx
        else bad "append: long"
      | .gsl id es' lo len => match h.get id with
        | some (.grown es2 ext k d t) =>
          bif !(Nat.beq es es' && Nat.beq es es2) then bad "append: es" else
          bif Nat.ble (Nat.mul (Nat.add (Nat.add lo len) m) es) ext then writeK h id (Nat.mul (Nat.add lo len) es) new fun h => fN (Nat.add len m) fun n => K (.gsl id es lo n) h nx
          else bif Nat.blt len 1048576 && new.all oneCell then
            T.setK none id h fun h =>
            bif Nat.beq lo 0 && Nat.ble (Nat.mul len es) ext then setCellsK t (Nat.mul len es) new fun t => fN (Nat.add len m) fun n => fN (Nat.mul n es) fun e => newK h nx (.grown es e k d t) fun id h nx => K (.gsl id es 0 n) h nx
            else bad "append: lo"
          else bad "append: long"
        | _ => bad "append: no block"
      | _ => bad "append"
  | .del ks m key => bif !keyOk ks (ev ρ key) then bad "del: kind" else match ev ρ m with
    | .nilMap => K (.tup []) h nx
    | .map id => match h.get id with
      | some (.mp ks' es) => bif !boolEq ks ks' then bad "del: kinds" else putObjK h id (.mp ks (mapDel (ev ρ key) es)) fun h => K (.tup []) h nx
      | _ => bad "del"
    | _ => bad "del"
  | .max2 x y => match ev ρ x, ev ρ y with
    | .int k a, .int _ b => K (.int k (bif intLt a b then b else a)) h nx
    | _, _ => bad "max"
  | .call .. => bad "call"
  | .callV .. => bad "callV"
  | .send .. => bad "send"
  | .selR .. => bad "selR"
  | .bad s => bad s

end Go.Ev
