/- The evaluator of regions and code. -/
import Derived.Test.YtgkcpkhifgnjoaaGreatDoorEvN
import Derived.Orders
namespace Go.Ev
open Go

mutual
/-- Are two abstract values the same? -/
def AV.beq : AV → AV → Bool
  | .bool a, .bool b => a == b
  | .int k a, .int k' b => kindEq k k' && intEq a b
  | .str n a, .str m b => Nat.beq n m && Nat.beq a b
  | .nilPtr, .nilPtr => true
  | .ptr a i, .ptr b j => a.beq b && Nat.beq i j
  | .nilSl, .nilSl => true
  | .slice a o l c, .slice b p m d => a.beq b && Nat.beq o p && Nat.beq l m && Nat.beq c d
  | .gsl a o l c, .gsl b p m d => a.beq b && Nat.beq o p && Nat.beq l m && Nat.beq c d
  | .gend a, .gend b => a.beq b
  | .nilMap, .nilMap => true
  | .map a, .map b => a.beq b
  | .nilChan, .nilChan => true
  | .chan a, .chan b => a.beq b
  | .fn f a, .fn g b => Nat.beq f g && AV.beqL a b
  | .nilFn, .nilFn => true
  | .nilIface, .nilIface => true
  | .agg a, .agg b => AV.beqL a b
  | .tup a, .tup b => AV.beqL a b
  | _, _ => false
def AV.beqL : List AV → List AV → Bool
  | [], [] => true
  | a :: l, b :: r => a.beq b && AV.beqL l r
  | _, _ => false
end

mutual
theorem AV.beq_eq : ∀ {a b : AV}, a.beq b = true → a = b
  | .bool a, b, h => by cases b <;> simp_all [AV.beq]
  | .int k a, b, h => by
    cases b <;> simp_all only [AV.beq, Bool.false_eq_true, Bool.and_eq_true]
    rw [kindEq_iff.1 h.1]
    have := h.2; rw [intEq_eq] at this; simp at this; rw [this]
  | .str n a, b, h => by
    cases b <;> simp_all only [AV.beq, Bool.false_eq_true, Bool.and_eq_true]
    rw [Nat.eq_of_beq_eq_true h.1, Nat.eq_of_beq_eq_true h.2]
  | .nilPtr, b, h => by cases b <;> simp_all [AV.beq]
  | .ptr a i, b, h => by
    cases b <;> simp_all only [AV.beq, Bool.false_eq_true, Bool.and_eq_true]
    rw [(Pos.beq_iff _ _).1 h.1, Nat.eq_of_beq_eq_true h.2]
  | .nilSl, b, h => by cases b <;> simp_all [AV.beq]
  | .slice _ _ _ _, b, h => by
    cases b <;> simp_all only [AV.beq, Bool.false_eq_true, Bool.and_eq_true]
    rw [(Pos.beq_iff _ _).1 h.1.1.1, Nat.eq_of_beq_eq_true h.1.1.2, Nat.eq_of_beq_eq_true h.1.2, Nat.eq_of_beq_eq_true h.2]
  | .gsl _ _ _ _, b, h => by
    cases b <;> simp_all only [AV.beq, Bool.false_eq_true, Bool.and_eq_true]
    rw [(Pos.beq_iff _ _).1 h.1.1.1, Nat.eq_of_beq_eq_true h.1.1.2, Nat.eq_of_beq_eq_true h.1.2, Nat.eq_of_beq_eq_true h.2]
  | .gend a, b, h => by
    cases b <;> simp_all only [AV.beq, Bool.false_eq_true]
    rw [(Pos.beq_iff _ _).1 h]
  | .nilMap, b, h => by cases b <;> simp_all [AV.beq]
  | .map a, b, h => by
    cases b <;> simp_all only [AV.beq, Bool.false_eq_true]
    rw [(Pos.beq_iff _ _).1 h]
  | .nilChan, b, h => by cases b <;> simp_all [AV.beq]
  | .chan a, b, h => by
    cases b <;> simp_all only [AV.beq, Bool.false_eq_true]
    rw [(Pos.beq_iff _ _).1 h]
  | .fn f l, b, h => by
    cases b <;> simp_all only [AV.beq, Bool.false_eq_true, Bool.and_eq_true]
    rw [Nat.eq_of_beq_eq_true h.1, AV.beqL_eq h.2]
  | .nilFn, b, h => by cases b <;> simp_all [AV.beq]
  | .iface _ _, b, h => by cases b <;> simp_all [AV.beq]
  | .nilIface, b, h => by cases b <;> simp_all [AV.beq]
  | .agg l, b, h => by
    cases b <;> simp_all only [AV.beq, Bool.false_eq_true]
    rw [AV.beqL_eq h]
  | .tup l, b, h => by
    cases b <;> simp_all only [AV.beq, Bool.false_eq_true]
    rw [AV.beqL_eq h]
theorem AV.beqL_eq : ∀ {a b : List AV}, AV.beqL a b = true → a = b
  | [], [], _ => rfl
  | [], _ :: _, h => by simp [AV.beqL] at h
  | _ :: _, [], h => by simp [AV.beqL] at h
  | a :: l, b :: r, h => by
    simp only [AV.beqL, Bool.and_eq_true] at h
    rw [AV.beq_eq h.1, AV.beqL_eq h.2]
end

def T.beqA : T AV → T AV → Bool
  | .e, .e => true
  | .n none l r, .n none l' r' => T.beqA l l' && T.beqA r r'
  | .n (some v) l r, .n (some v') l' r' => v.beq v' && T.beqA l l' && T.beqA r r'
  | _, _ => false

theorem T.beqA_eq : ∀ {a b : T AV}, T.beqA a b = true → a = b
  | .e, .e, _ => rfl
  | .e, .n _ _ _, h => by simp [T.beqA] at h
  | .n none _ _, .e, h => by simp [T.beqA] at h
  | .n (some _) _ _, .e, h => by simp [T.beqA] at h
  | .n none l r, .n none l' r', h => by
    simp only [T.beqA, Bool.and_eq_true] at h
    rw [T.beqA_eq h.1, T.beqA_eq h.2]
  | .n none _ _, .n (some _) _ _, h => by simp [T.beqA] at h
  | .n (some _) _ _, .n none _ _, h => by simp [T.beqA] at h
  | .n (some v) l r, .n (some v') l' r', h => by
    simp only [T.beqA, Bool.and_eq_true] at h
    rw [AV.beq_eq h.1.1, T.beqA_eq h.1.2, T.beqA_eq h.2]

def AObj.beq : AObj → AObj → Bool
  | .cells s k d t, .cells s' k' d' t' => Nat.beq s s' && Nat.beq k k' && AV.beqL d d' && T.beqA t t'
  | .grown s x k d t, .grown s' x' k' d' t' => Nat.beq s s' && Nat.beq x x' && Nat.beq k k' && AV.beqL d d' && T.beqA t t'
  | _, _ => false

theorem AObj.beq_eq {a b : AObj} (h : a.beq b = true) : a = b := by
  cases a <;> cases b <;> simp only [AObj.beq, Bool.and_eq_true, Bool.false_eq_true] at h
  · rw [Nat.eq_of_beq_eq_true h.1.1.1, Nat.eq_of_beq_eq_true h.1.1.2, AV.beqL_eq h.1.2, T.beqA_eq h.2]
  · rw [Nat.eq_of_beq_eq_true h.1.1.1.1, Nat.eq_of_beq_eq_true h.1.1.1.2, Nat.eq_of_beq_eq_true h.1.1.2, AV.beqL_eq h.1.2, T.beqA_eq h.2]

abbrev KN := Fr → H → Pos → Bool
abbrev Env := List (Nat × KN)
/-- How a function of the program is called. -/
abbrev CallK := Nat → List AV → H → Pos → (AV → H → Pos → Bool) → Bool

def putK (ρ : Fr) (d : Option Pos) (v : AV) (k : Fr → Bool) : Bool := match d with | some p => T.setK (some v) p ρ k | none => k ρ

/-- One operation, a call or none. -/
def oneK (call : CallK) (ρ : Fr) (h : H) (nx : Pos) (op : OpK) (k : AV → H → Pos → Bool) : Bool :=
  match op with
  | .call f args => call f (args.map (ev ρ)) h nx k
  | .callV f args => match ev ρ f with
    | .fn f caps => call f (args.map (ev ρ) ++ caps) h nx k
    | _ => bad "callV"
  | op => simple ρ h nx op k

/-- Is an operation wanted? -/
def wantedK (ρ : Fr) : Option (Pos × Bool) → Bool
  | none => true
  | some (p, b) => match ρ.get p with
    | some (.bool c) => bif c then b else !b
    | _ => false

/-- A value sent into a buffer that has room. -/
def sendK (ρ : Fr) (h : H) (c v : Opd) (k : H → Bool) : Bool := match ev ρ c with
  | .chan id => match h.get id with
    | some (.ch cap buf) => bif Nat.blt buf.length cap then putObjK h id (.ch cap (buf ++ [ev ρ v])) k else bad "send: full"
    | _ => bad "send"
  | _ => bad "send"
/-- A select of one receive, with a default. -/
def selK (ρ : Fr) (h : H) (c : Opd) (z : AV) (k : AV → H → Bool) : Bool := match ev ρ c with
  | .chan id => match h.get id with
    | some (.ch _ []) => k (.tup [.int .i64 (.negSucc 0), .bool false, z]) h
    | some (.ch cap (v :: l)) => putObjK h id (.ch cap l) fun h => k (.tup [.int .i64 (.ofNat 0), .bool true, v]) h
    | _ => bad "select"
  | _ => bad "select"

/-- One operation of a region in its order. -/
def opK (call : CallK) (ρ : Fr) (h : H) (nx : Pos) (op : OpK) (k : AV → H → Pos → Bool) : Bool := match op with
  | .send c v => sendK ρ h c v fun h => k undefA h nx
  | .selR c z => selK ρ h c z fun v h => k v h nx
  | op => oneK call ρ h nx op k

def evOps (call : CallK) : List IOp → Fr → H → Pos → KN → Bool
  | [], ρ, h, nx, k => k ρ h nx
  | o :: l, ρ, h, nx, k =>
    bif wantedK ρ o.guard then opK call ρ h nx o.op fun v h nx => putK ρ o.dst v fun ρ => evOps call l ρ h nx k
    else putK ρ o.dst undefA fun ρ => evOps call l ρ h nx k

/-- What an operation of a region that draws its order has to do with memory: blocks that it reads; a stretch that it turns into another. Or: an entry put into a map. -/
inductive Rec where
  | foot (made : Option Pos) (rd : List (Pos × (AObj → Bool))) (A C : H)
  | ins (id : Pos) (key val : AV)

def Rec.idle : Rec := .foot none [] .e .e

/-- What an operation reads from. -/
def rdId (ρ : Fr) : OpK → Option Pos
  | .load1 a => match ev ρ a with | .ptr id _ => some id | _ => none
  | .loadN _ a => match ev ρ a with | .ptr id _ => some id | _ => none
  | .lookup _ _ m _ _ => match ev ρ m with | .map id => some id | _ => none
  | .slSl _ x _ _ _ => match ev ρ x with | .gsl id _ _ _ => some id | _ => none
  | _ => none

def OpK.cls : OpK → Cls
  | .mv _ | .pick _ _ _ | .build _ _ | .nilChk _ | .bin _ _ _ | .eq _ _ _ _ | .eqS _ _ _ _ | .un _ _ | .convI _ _ | .mkFn _ _ | .slStr _ _ _ | .faddr _ _ | .fld _ _ _ _ | .idxSl _ _ _ | .idxAr _ _ _ _ | .strIdx _ _ | .extract _ _ => .pure
  | .len .str _ | .len .slice _ | .max2 _ _ => .pure
  | .alloc _ _ | .box _ | .buildSlice _ _ _ _ | .mkMap _ | .mkChan _ | .mkSlice _ _ _ _ _ => .alloc
  | .load1 _ | .loadN _ _ | .lookup _ _ _ _ _ | .slSl _ _ _ _ _ => .read
  | _ => .big

/-- Strikes the names of new blocks that the operation does not wait for; hands on what was struck. -/
def hideK (mask : Nat) : (i : Nat) → List Rec → H → List (Pos × AObj) → (H → List (Pos × AObj) → Bool) → Bool
  | _, [], h, hid, k => k h hid
  | i, .foot (some id) _ _ _ :: rs, h, hid, k => bif Nat.testBit mask (Nat.pred i) then hideK mask (Nat.pred i) rs h hid k else match h.get id with
    | some o => T.setK none id h fun h => hideK mask (Nat.pred i) rs h ((id, o) :: hid) k
    | none => hideK mask (Nat.pred i) rs h hid k
  | i, _ :: rs, h, hid, k => hideK mask (Nat.pred i) rs h hid k

def unhideK : List (Pos × AObj) → H → (H → Bool) → Bool
  | [], h, k => k h
  | (id, o) :: l, h, k => match h.get id with
    | some _ => bad "unhide"
    | none => T.setK (some o) id h fun h => unhideK l h k

/-- The blocks of a slice, with what stands in them. -/
def slIds (h : H) (v : AV) (l : List (Pos × AObj)) : List (Pos × AObj) :=
  match v with
  | .slice id _ _ _ | .gsl id _ _ _ => match h.get id with | some o => (id, o) :: l | none => l
  | _ => l
def rdIds (ρ : Fr) (h : H) : OpK → List (Pos × AObj)
  | .append _ _ s x => slIds h (ev ρ s) (slIds h (ev ρ x) [])
  | _ => []
def heapOf : List (Pos × AObj) → H
  | [] => .e
  | (id, o) :: l => T.set (some o) id (heapOf l)
def sameIn (h : H) : List (Pos × AObj) → Bool
  | [] => true
  | (id, o) :: l => (match h.get id with | some o' => o'.beq o | none => false) && sameIn h l
def chkIds : List (Pos × AObj) → List (Pos × (AObj → Bool))
  | [] => []
  | (id, o) :: l => (id, fun o' => o'.beq o) :: chkIds l

/-- Does a reading come to the same with another block? -/
def rdChk (σ : Fr) (nx : Pos) (op : OpK) (id : Pos) (v : AV) (nx1 : Pos) (ob : AObj) : Bool :=
  simple σ (T.set (some ob) id .e) nx op fun v' _ nx' => v'.beq v && nx'.beq nx1

/-- One operation of such a region, with the slots that it asks for alone. -/
def stepD (call : CallK) (d : DOp) (i : Nat) (σ : Fr) (h : H) (nx : Pos) (rs : List Rec) (k : AV → H → Pos → Rec → Bool) : Bool :=
  match d.cls with
  | .pure => simple σ .e nx d.op.op fun v _ nx1 => k v h nx1 .idle
  | .alloc => simple σ .e nx d.op.op fun v h1 nx1 => match h1.get nx with
    | some ob => T.setK (some ob) nx h fun h => k v h nx1 (.foot (some nx) [] .e (T.set (some ob) nx .e))
    | none => bad "alloc"
  | .read => match rdId σ d.op.op with
    | none => simple σ .e nx d.op.op fun v _ nx1 => k v h nx1 .idle
    | some id => match h.get id with
      | none => bad "read: no block"
      | some ob => simple σ (T.set (some ob) id .e) nx d.op.op fun v _ nx1 =>
        bif rdChk σ nx d.op.op id v nx1 ob then k v h nx1 (.foot none [(id, rdChk σ nx d.op.op id v nx1)] .e .e) else bad "read: not so"
  | .app => simple σ (heapOf (rdIds σ h d.op.op)) nx d.op.op fun v h1 nx1 => bif sameIn h1 (rdIds σ h d.op.op) then match h1.get nx with
    | some ob => T.setK (some ob) nx h fun h' => k v h' nx1 (.foot (some nx) (chkIds (rdIds σ h d.op.op)) .e (T.set (some ob) nx .e))
    | none => bad "app" else bad "app: not so"
  | .ins => match d.op.op with
    | .mapSet ks m key val => match ev σ m with
      | .map id => match h.get id with
        | some (.mp ks' es) => bif keyOk ks (ev σ key) && boolEq ks ks' then (match mapFind (ev σ key) es with
          | none => T.setK (some (.mp ks (mapIns (ev σ key) (ev σ val) es))) id h fun h => k undefA h nx (.ins id (ev σ key) (ev σ val))
          | some _ => bad "insert: there") else bad "insert: key"
        | _ => bad "insert: no map"
      | _ => bad "insert: no map"
    | _ => bad "insert"
  | .big => hideK d.mask i rs h [] fun A hid => oneK call σ A nx d.op.op fun v Cc nx1 => unhideK hid Cc fun h => k v h nx1 (.foot none [] A Cc)

/-- The slots asked for, alone. -/
def restrK (ρ : Fr) : List Pos → Fr → (Fr → Bool) → Bool
  | [], σ, k => k σ
  | p :: l, σ, k => match ρ.get p with
    | some v => T.setK (some v) p σ fun σ => restrK ρ l σ k
    | none => restrK ρ l σ k

def evD (call : CallK) : List DOp → (i : Nat) → Fr → H → Pos → List Rec → (Fr → H → Pos → List Rec → Bool) → Bool
  | [], _, ρ, h, nx, rs, k => k ρ h nx rs
  | d :: l, i, ρ, h, nx, rs, k =>
    restrK ρ d.names .e fun σ =>
      bif wantedK σ d.op.guard then stepD call d i σ h nx rs fun v h nx r => putK ρ d.op.dst v fun ρ => evD call l (Nat.succ i) ρ h nx (r :: rs) k
      else putK ρ d.op.dst undefA fun ρ => evD call l (Nat.succ i) ρ h nx (.idle :: rs) k

def isNone' {α : Type} : Option α → Bool
  | none => true
  | some _ => false

/-- Does a stretch of memory leave alone what is read? -/
def rdOk (A C : H) : List (Pos × (AObj → Bool)) → Bool
  | [] => true
  | (id, chk) :: l => (match A.get id with
    | some a => chk a && (match C.get id with | some c => chk c | none => false)
    | none => isNone' (C.get id)) && rdOk A C l
def noRd (id : Pos) : List (Pos × (AObj → Bool)) → Bool
  | [] => true
  | (id', _) :: l => !id.beq id' && noRd id l
def disj : H → H → Bool
  | .e, _ => true
  | .n _ _ _, .e => true
  | .n (some _) _ _, .n (some _) _ _ => false
  | .n none l r, .n _ l' r' => disj l l' && disj r r'
  | .n (some _) l r, .n none l' r' => disj l l' && disj r r'

/-- May two operations that do not wait for one another come in either order? -/
def okPair : Rec → Rec → Bool
  | .foot _ rd A C, .foot _ rd' A' C' => rdOk A' C' rd && rdOk A C rd' && disj A A' && disj A C' && disj C A' && disj C C'
  | .foot _ rd A C, .ins id _ _ => isNone' (A.get id) && isNone' (C.get id) && noRd id rd
  | .ins id _ _, .foot _ rd A C => isNone' (A.get id) && isNone' (C.get id) && noRd id rd
  | .ins id k _, .ins id' k' _ => !id.beq id' || !keyEq k k'

def okPairs (rs : List Rec) : List (Nat × Nat) → Bool
  | [] => true
  | (i, j) :: l => (match rs[i]?, rs[j]? with | some a, some b => okPair a b | _, _ => false) && okPairs rs l

def envGet : Env → Nat → Option KN
  | [], _ => none
  | (i, k) :: l, id => bif Nat.beq i id then some k else envGet l id

abbrev Run := C → Fr → H → Pos → KN → Env → KN → Bool

def argFrame : List AV → Nat → Fr → (Fr → Bool) → Bool
  | [], _, ρ, k => k ρ
  | v :: l, i, ρ, k => bif Nat.blt i 65536 then T.setK (some v) (pos i) ρ fun ρ => argFrame l (Nat.succ i) ρ k else bad "arguments"

def resultsK (ρ : Fr) (h : H) : List RV → (List AV → Bool) → Bool
  | [], k => k []
  | .tmp p :: l, k => resultsK ρ h l fun vs => k (getF ρ p :: vs)
  | .cell p :: l, k => match getF ρ p with
    | .ptr id off => readK h id off fun v => resultsK ρ h l fun vs => k (v :: vs)
    | _ => bad "result"
  | .cells p n :: l, k => match getF ρ p with
    | .ptr id off => readNK h id n off fun v => resultsK ρ h l fun vs => k (.agg v :: vs)
    | _ => bad "result"

def wrapRes : List AV → AV
  | [v] => v
  | l => .tup l

/-- What the evaluator knows of a function: its code; or a way of its own. -/
inductive Entry where
  | code (f : IFunc)
  | ext (run : List AV → H → Pos → (AV → H → Pos → Bool) → Bool)

abbrev PT := T Entry

def callK (prog : PT) (ih : Run) : CallK := fun f args h nx k =>
  bif !Nat.blt f 4294967296 then bad "no function" else
  match prog.get (pos f) with
  | some (.code fn) => argFrame args 0 .e fun ρ => ih fn.body ρ h nx (fun ρ h nx => resultsK ρ h fn.results fun vs => k (wrapRes vs) h nx) [] (fun ρ h nx => resultsK ρ h fn.results fun vs => k (wrapRes vs) h nx)
  | some (.ext run) => run args h nx k
  | none => bad "no function"

def runC (prog : PT) (ih : Run) : Run
  | .skip, ρ, h, nx, kn, _, _ => kn ρ h nx
  | .reg l, ρ, h, nx, kn, _, _ => evOps (callK prog ih) l ρ h nx kn
  | .regD l ps, ρ, h, nx, kn, _, _ => evD (callK prog ih) l 0 ρ h nx [] fun ρ h nx rs => bif okPairs rs.reverse ps then kn ρ h nx else bad "order"
  | .seq a b, ρ, h, nx, kn, env, kr => runC prog ih a ρ h nx (fun ρ h nx => runC prog ih b ρ h nx kn env kr) env kr
  | .cond c a b, ρ, h, nx, kn, env, kr => match ev ρ c with
    | .bool t => bif t then runC prog ih a ρ h nx kn env kr else runC prog ih b ρ h nx kn env kr
    | _ => bad "cond"
  | .block id b, ρ, h, nx, kn, env, kr => runC prog ih b ρ h nx kn ((id, kn) :: env) kr
  | .loop b, ρ, h, nx, kn, env, kr => runC prog ih b ρ h nx (fun ρ h nx => ih (.loop b) ρ h nx kn env kr) env kr
  | .exit id, ρ, h, nx, _, env, _ => match envGet env id with | some k => k ρ h nx | none => bad "exit"
  | .ret, ρ, h, nx, _, _, kr => kr ρ h nx
  | .bad s, _, _, _, _, _, _ => bad s

def run (prog : PT) : Nat → Run
  | 0 => fun _ _ _ _ _ _ _ => bad "fuel"
  | n + 1 => runC prog (run prog n)

/-! ### the conversion of code -/
def guardOf (ops : Array Oper) (o : Oper) : Option (Option (Pos × Bool)) :=
  match o.guard with
  | none => some none
  | some (j, w) => match (ops[j]?).bind (·.dst) with
    | some d => if d < 4294967296 then some (some (pos d, w)) else none
    | none => none

def convOp (P : Program) (nt : Nat) (ops : Array Oper) (o : Oper) : IOp :=
  match guardOf ops o, (match o.dst with | some d => decide (d < nt) && decide (d < 4294967296) | none => true) with
  | some g, true => { dst := o.dst.map pos, guard := g, op := conv P o }
  | _, _ => { dst := none, guard := none, op := .bad "op" }

def isPureC : Cls → Bool
  | .pure => true
  | _ => false

/-- Which operations each operation waits for, itself or by way of others. -/
def afterMask (bs : List Nat) (o : Oper) : Nat := o.after.toList.foldl (fun m e => bif Region.binds .any e then m ||| (1 <<< e.on) ||| bs.getD e.on 0 else m) 0
def befs : List Oper → List Nat → List Nat
  | [], bs => bs
  | o :: l, bs => befs l (bs ++ [afterMask bs o])

def unordered (bs : List Nat) : List (Nat × Nat) :=
  (List.range bs.length).flatMap fun i => let m := bs.getD i 0; (List.range i).filterMap fun j => bif Nat.testBit m j then none else some (j, i)

def clsOf (P : Program) (ops : Array Oper) (un : List (Nat × Nat)) (i : Nat) (o : Oper) : Cls :=
  match (conv P o).cls with
  | .big => match conv P o with
    | .append _ _ _ _ => bif un.any fun (j, k) => (Nat.beq j i || Nat.beq k i) && (match ops[bif Nat.beq j i then k else j]? with | some p => (match (conv P p).cls with | .big => true | _ => false) | none => false) then .app else .big
    | _ => match o.op with | .insert _ _ _ _ => .ins | _ => .big
  | c => c

def isSelect : Op → Bool
  | .select _ _ => true
  | _ => false

def convDOp (P : Program) (nt : Nat) (ops : Array Oper) (bs : List Nat) (un : List (Nat × Nat)) (i : Nat) (o : Oper) : DOp :=
  { op := convOp P nt ops o, cls := clsOf P ops un i o, mask := bs.getD i 0, names := (o.looksAt ops).map pos }

def convDs (P : Program) (nt : Nat) (ops : Array Oper) (bs : List Nat) (un : List (Nat × Nat)) : Nat → List Oper → List DOp
  | _, [] => []
  | i, o :: l => convDOp P nt ops bs un i o :: convDs P nt ops bs un (i + 1) l

def edgesOk (ops : Array Oper) : Nat → List Oper → Bool
  | _, [] => true
  | i, o :: l => (o.after.toList.all fun e => !Region.binds .any e || Nat.blt e.on i) && !isSelect o.op && ((o.looksAt ops).all fun t => Nat.blt t 4294967296) && edgesOk ops (i + 1) l

/-- A region that draws its order; none: it can't be taken so. -/
def convD (P : Program) (nt : Nat) (ops : Array Oper) : Option (List DOp × List (Nat × Nat)) :=
  let bs := befs ops.toList []
  let un := unordered bs
  let ds := convDs P nt ops bs un 0 ops.toList
  bif (un.all fun (j, i) => match ops[j]?, ops[i]? with | some x, some y => x.apart ops y | _, _ => false) && edgesOk ops 0 ops.toList then
    some (ds, un.filter fun (j, i) => match ds[j]?, ds[i]? with | some x, some y => !isPureC x.cls && !isPureC y.cls | _, _ => true)
  else none

def convC (P : Program) (nt : Nat) : Code → C
  | .skip => .skip
  | .region _ ops false => .reg (ops.toList.map (convOp P nt ops))
  | .region _ ops true => match convD P nt ops with
    | some (l, ps) => .regD l ps
    | none => .bad "region"
  | .seq a b => .seq (convC P nt a) (convC P nt b)
  | .cond c a b => match opd c with | some c => .cond c (convC P nt a) (convC P nt b) | none => .bad "cond"
  | .block i b => .block i (convC P nt b)
  | .loop b => .loop (convC P nt b)
  | .exit i => .exit i
  | .ret => .ret
  | .label _ => .skip
  | _ => .bad "code"

def convR (P : Program) : List ResultVar → Option (List RV)
  | [] => some []
  | .tmp t :: l => match convR P l with | some r => if t < 4294967296 then some (.tmp (pos t) :: r) else none | none => none
  | .cell t ty :: l => match convR P l, P.underlying ty, P.info? ty with
    | some r, some _, some i => if t < 4294967296 then some ((if aggT P ty then .cells (pos t) i.size else .cell (pos t)) :: r) else none
    | _, _, _ => none

def convF (P : Program) (f : Func) : Option IFunc :=
  match f.body, convR P f.results.toList with
  | some c, some r => some { body := convC P f.ntmps c, results := r }
  | _, _ => none

end Go.Ev
