/-
  A reckoner of what a Go function of the model must meet, and its proof. No condition.
-/
import Derived.WalkKit
import Derived.OrdersHeld
import Derived.Maps.AppendAt
import Derived.WideShapes
set_option linter.all false
set_option linter.unusedVariables false
set_option linter.unusedSimpArgs false
set_option linter.unusedSectionVars false
section
open Go
namespace Vc
/-! Symbolic values, the ghost memory, the generator of conditions. -/

/-- The part of memory that nobody writes any more: whole blocks. -/
abbrev Mem := Nat → Option Obj
def Mem.le (m m' : Mem) : Prop := ∀ b o, m b = some o → m' b = some o
/-- Two memories beside one another. -/
def Mem.join (m m1 : Mem) : Mem := fun b => match m b with
  | some o => some o
  | none => m1 b
def Mem.Disj (m m1 : Mem) : Prop := ∀ b o, m b = some o → m1 b = none

inductive Cap where
  | v (x : Value)
  | ptr (i off : Nat)

/-- One cell's value: known; a pointer into the local block i; the local slice i; a pointer into the local slice i; a pointer to cells that are only read; a closure. -/
inductive Leaf where
  | v (x : Value)
  | ptr (i off : Nat)
  | own (i : Nat)
  | optr (i off : Nat)
  | rd (a : Addr) (cs : List Value) (off : Nat)
  | fn (f : FuncId) (caps : List Cap)
  | kb (b : Bool)

inductive AV where
  | one (l : Leaf)
  | agg (ls : List Leaf)
  | tup (vs : List (Bool × List Leaf))
  | bad

abbrev Fr := List (Nat × AV)
inductive Ent where
  | box (cells : List Leaf) (typ : TypeId)
  | own (n : Nat) (cells : List Value) (elem : TypeId) (size : Nat)
abbrev Ents := List (Nat × Ent)

def look {α : Type} (k : Nat) : List (Nat × α) → Option α
  | [] => none
  | (k', v) :: r => bif Nat.beq k k' then some v else look k r

inductive Kind where
  | bool | int (k : IntKind) | string | ptr (e : TypeId) | slice (e : TypeId) | struct (fs : List (Nat × TypeId)) | array (n : Nat) (e : TypeId) | func | map (k e : TypeId) | iface | other

structure TInfo where
  kind : Kind
  size : Nat
  bytes : Nat
  zero : List Value
abbrev Types := List (Nat × TInfo)

def Kind.isAgg : Kind → Bool
  | .struct _ | .array _ _ => true
  | _ => false

def vmap : List Value → List Leaf
  | [] => []
  | x :: r => .v x :: vmap r

def ofValue (x : Value) : AV :=
  match x with
  | .agg cs => .agg (vmap cs.toList)
  | v => .one (.v v)

def oneAll : List Value → Bool
  | [] => true
  | x :: r => (match x.oneCell' with | true => oneAll r | false => false)
def ofConst (x : Value) : Option AV :=
  match x with
  | .agg cs => (match oneAll cs.toList with | true => some (.agg (vmap cs.toList)) | false => none)
  | .bool b => some (.one (.kb b))
  | .tuple _ => none
  | v => some (.one (.v v))

def ev (F : Fr) : Operand → Option AV
  | .tmp t => look t F
  | .const v => ofConst v
  | .global g => some (.one (.v (.pointer (some ⟨g, 0, none⟩))))
  | .func f => some (.one (.fn f []))

/-! What a symbolic value stands for -/
structure Val where
  blk : Nat → Nat
  sl : Nat → Option Addr × Nat × Nat
def Val.slv (ρ : Val) (i : Nat) : Value := .slice (ρ.sl i).1 (ρ.sl i).2.1 (ρ.sl i).2.2

def Cap.con (ρ : Val) : Cap → Value
  | .v x => x
  | .ptr i off => .pointer (some ⟨ρ.blk i, off, none⟩)

def Leaf.con (ρ : Val) : Leaf → Value
  | .v x => x
  | .ptr i off => .pointer (some ⟨ρ.blk i, off, none⟩)
  | .own i => ρ.slv i
  | .optr i off => .pointer ((ρ.sl i).1.map (·.add off))
  | .rd a _ off => .pointer (some (a.add off))
  | .fn f caps => .func (.func f) #[] (caps.map (Cap.con ρ)).toArray
  | .kb b => .bool b

def conL (ρ : Val) (ls : List Leaf) : List Value := ls.map (Leaf.con ρ)

def partCon (ρ : Val) : Bool × List Leaf → Value
  | (false, [l]) => l.con ρ
  | (_, ls) => .agg (conL ρ ls).toArray

def AV.con (ρ : Val) : AV → Value
  | .one l => l.con ρ
  | .agg ls => .agg (conL ρ ls).toArray
  | .tup vs => .tuple (vs.map (partCon ρ)).toArray
  | .bad => undef

/-- These cells stand at this address in the ghost memory. -/
def MemReads (m : Mem) (a : Addr) (cs : List Value) : Prop :=
  a.spot = none ∧ ∃ c t fr, m a.block = some (.cells c t fr) ∧ ∀ j u, cs[j]? = some u → c[a.off + j]? = some u ∧ u.oneCell' = true

def Cap.ok : Cap → Prop
  | .v x => x.oneCell' = true
  | _ => True
def Leaf.ok (m : Mem) : Leaf → Prop
  | .v x => x.oneCell' = true
  | .rd a cs _ => MemReads m a cs
  | .fn _ caps => ∀ c ∈ caps, c.ok
  | _ => True
def okL (m : Mem) (ls : List Leaf) : Prop := ∀ l ∈ ls, l.ok m
def AV.ok (m : Mem) : AV → Prop
  | .one l => l.ok m
  | .agg ls => okL m ls
  | .tup vs => ∀ p ∈ vs, okL m p.2
  | .bad => True

/-! The world part, the frame part -/
/-- The slice value v of n elements owns the cells: it has no room at all, or it begins a block of its own. -/
def OwnRow (W : World) (e : TypeId) (size : Nat) (v : Value) (n : Nat) (cells : List Value) : Prop :=
  cells.length = n * size ∧
  ((∃ A, v = .slice A 0 0 ∧ n = 0) ∨
   ∃ g cap cur, v = .slice (some ⟨g, 0, none⟩) n (cap + 1) ∧ W.heap[g]? = some (.cells cur e (0, 0)) ∧ n ≤ cap + 1 ∧ cap + 1 ≤ maxLen ∧ cur.size = (cap + 1) * size ∧ cur.toList.take (n * size) = cells)
def rowBlock : Value → Option Nat
  | .slice (some a) _ (_ + 1) => some a.block
  | _ => none
def Ent.sat (ρ : Val) (m : Mem) (W : World) (i : Nat) : Ent → Prop
  | .box cells typ => W.heap[ρ.blk i]? = some (.cells (conL ρ cells).toArray typ (0, 0)) ∧ okL m cells
  | .own n cells e size => OwnRow W e size (ρ.slv i) n cells ∧ ∀ u ∈ cells, u.oneCell' = true
def Ent.block (ρ : Val) (i : Nat) : Ent → Option Nat
  | .box _ _ => some (ρ.blk i)
  | .own _ _ _ _ => rowBlock (ρ.slv i)
def blockOf (ρ : Val) (B : Ents) (i : Nat) : Option Nat := (look i B).bind (Ent.block ρ i)

structure Env where
  P : Program
  Γ : Types
  N : Nat
  w0 : World
  m0 : Mem
  lent : Nat → Prop
  pins : List (Nat × Nat)

structure WS (E : Env) (ρ : Val) (B : Ents) (m : Mem) (W : World) : Prop where
  ents : ∀ i e, look i B = some e → e.sat ρ m W i
  fresh : ∀ i b, blockOf ρ B i = some b → m b = none ∧ (E.w0.heap.size ≤ b ∨ E.lent b)
  inj : ∀ i j b, i ≠ j → blockOf ρ B i = some b → blockOf ρ B j ≠ some b
  mem : ∀ b o, m b = some o → W.heap[b]? = some o
  le : E.m0.le m
  new : ∀ b o, m b = some o → E.m0 b = some o ∨ E.w0.heap.size ≤ b ∨ E.lent b
  os : W.os = E.w0.os
  tape : W.tape = E.w0.tape
  output : W.output = E.w0.output
  size : E.w0.heap.size ≤ W.heap.size
  old : ∀ k, k < E.w0.heap.size → ¬ E.lent k → W.heap[k]? = E.w0.heap[k]?
  pin : ∀ p ∈ E.pins, ρ.blk p.1 = p.2

structure FS (E : Env) (ρ : Val) (m : Mem) (F : Fr) (a : Act) : Prop where
  size : E.N ≤ a.tmps.size
  vals : ∀ d v, look d F = some v → a.tmps.getD d undef = v.con ρ ∧ v.ok m
  defers : a.defers = []

abbrev Cont := Fr → Ents → Mem → Prop
abbrev SPost := Exit → Cont
def Post (E : Env) (K : Cont) (a : Act) (W : World) : Prop := ∃ ρ F B m, K F B m ∧ WS E ρ B m W ∧ FS E ρ m F a

/-! The generator -/
def forceL (l : List Leaf) (K : List Leaf → Prop) : Prop :=
  match l with
  | [] => K []
  | x :: r => match x with
    | .v y => forceL r fun r' => K (.v y :: r')
    | .ptr i o => forceL r fun r' => K (.ptr i o :: r')
    | .own i => forceL r fun r' => K (.own i :: r')
    | .optr i o => forceL r fun r' => K (.optr i o :: r')
    | .rd a cs o => forceL r fun r' => K (.rd a cs o :: r')
    | .fn f cs => forceL r fun r' => K (.fn f cs :: r')
    | .kb b => match b with
      | true => forceL r fun r' => K (.kb true :: r')
      | false => forceL r fun r' => K (.kb false :: r')

def force (v : AV) (K : AV → Prop) : Prop :=
  match v with
  | .one l => match l with
    | .v x => K (.one (.v x))
    | .ptr i o => K (.one (.ptr i o))
    | .own i => K (.one (.own i))
    | .optr i o => K (.one (.optr i o))
    | .rd a cs o => K (.one (.rd a cs o))
    | .fn f cs => K (.one (.fn f cs))
    | .kb b => match b with
      | true => K (.one (.kb true))
      | false => K (.one (.kb false))
  | .agg ls => forceL ls fun ls' => K (.agg ls')
  | .tup vs => K (.tup vs)
  | .bad => K .bad

def chk (b : Bool) (p : Prop) : Prop :=
  match b with
  | true => p
  | false => False

/-! The name k stands nowhere. -/
def capNo (k : Nat) : Cap → Bool
  | .v _ => true
  | .ptr i _ => (match Nat.beq i k with | true => false | false => true)
def capsNo (k : Nat) : List Cap → Bool
  | [] => true
  | c :: r => (match capNo k c with | true => capsNo k r | false => false)
def leafNo (k : Nat) : Leaf → Bool
  | .ptr i _ => (match Nat.beq i k with | true => false | false => true)
  | .own i => (match Nat.beq i k with | true => false | false => true)
  | .optr i _ => (match Nat.beq i k with | true => false | false => true)
  | .fn _ caps => capsNo k caps
  | _ => true
def leavesNo (k : Nat) : List Leaf → Bool
  | [] => true
  | c :: r => (match leafNo k c with | true => leavesNo k r | false => false)
def partsNo (k : Nat) : List (Bool × List Leaf) → Bool
  | [] => true
  | c :: r => (match leavesNo k c.2 with | true => partsNo k r | false => false)
def avNo (k : Nat) : AV → Bool
  | .one l => leafNo k l
  | .agg ls => leavesNo k ls
  | .tup vs => partsNo k vs
  | .bad => true
def frNo (k : Nat) : Fr → Bool
  | [] => true
  | c :: r => (match avNo k c.2 with | true => frNo k r | false => false)
def entsNo (k : Nat) : Ents → Bool
  | [] => true
  | (j, e) :: r => (match Nat.beq j k with
    | true => false
    | false => (match e with
      | .box cells _ => (match leavesNo k cells with | true => entsNo k r | false => false)
      | .own _ _ _ _ => entsNo k r))
/-- The name's block is not held fast. -/
def pinNo (k : Nat) : List (Nat × Nat) → Bool
  | [] => true
  | p :: r => (match Nat.beq p.1 k with | true => false | false => pinNo k r)
def newName (k : Nat) (F : Fr) (B : Ents) : Bool := match frNo k F with | true => entsNo k B | false => false

def putK (E : Env) (d : Option Nat) (v : AV) (F : Fr) (B : Ents) (m : Mem) (K : Cont) : Prop :=
  match d with
  | some d => chk (Nat.blt d E.N) (force v fun v' => K ((d, v') :: F) B m)
  | none => K F B m

/-! ### Steps that the prover takes between operations -/
/-- A slice value, in its three parts. -/
structure Sl where
  A : Option Addr
  n : Nat
  c : Nat
def Sl.v (x : Sl) : Value := .slice x.A x.n x.c
def substLeaf (i : Nat) (x : Sl) (l : Leaf) : Leaf :=
  match l with
  | .own j => (match Nat.beq i j with | true => .v (.slice x.A x.n x.c) | false => .own j)
  | .optr j off => (match Nat.beq i j with | true => .v (.pointer (x.A.map (·.add off))) | false => .optr j off)
  | l => l
def substL (i : Nat) (x : Sl) : List Leaf → List Leaf
  | [] => []
  | l :: r => substLeaf i x l :: substL i x r
def substP (i : Nat) (x : Sl) : List (Bool × List Leaf) → List (Bool × List Leaf)
  | [] => []
  | p :: r => (p.1, substL i x p.2) :: substP i x r
def substAV (i : Nat) (x : Sl) : AV → AV
  | .one l => .one (substLeaf i x l)
  | .agg ls => .agg (substL i x ls)
  | .tup vs => .tup (substP i x vs)
  | .bad => .bad
def substF (i : Nat) (x : Sl) : Fr → Fr
  | [] => []
  | (d, v) :: r => (d, substAV i x v) :: substF i x r
def substE (i : Nat) (x : Sl) : Ent → Ent
  | .box cells t => .box (substL i x cells) t
  | e => e
/-- The entry i goes; the others forget that they named it. -/
def substB (i : Nat) (x : Sl) : Ents → Ents
  | [] => []
  | (j, e) :: r => (match Nat.beq i j with | true => substB i x r | false => (j, substE i x e) :: substB i x r)

inductive Step where
  | freeze (i : Nat)
  | nilOwn (slot k : Nat) (elem : TypeId) (size : Nat)
  | cut
  | keep (ks : List Nat)

def isNilSlice : Option AV → Bool
  | some (.one (.v (.slice none 0 0))) => true
  | _ => false

def runSteps : List Step → Cont → Cont
  | [], K => K
  | .freeze i :: r, K => fun F B m => match look i B with
    | some (.own n cells _ sz) => ∀ (A : Option Addr) (c : Nat) (m1 : Mem), Mem.Disj m m1 → cells.length = n * sz → n ≤ c → c ≤ maxLen → (0 < n → ∃ a, A = some a ∧ MemReads m1 a cells) → runSteps r K (substF i ⟨A, n, c⟩ F) (substB i ⟨A, n, c⟩ B) (Mem.join m m1)
    | _ => False
  | .nilOwn slot k elem size :: r, K => fun F B m => match isNilSlice (look slot F), newName k F B with
    | true, true => runSteps r K ((slot, .one (.own k)) :: F) ((k, .own 0 [] elem size) :: B) m
    | _, _ => False
  | .cut :: _, _ => fun _ _ _ => False
  | .keep _ :: _, _ => fun _ _ _ => False

/-- From here on by whatever state holds too: shown by hand, world by world. -/
structure CutNode (E : Env) (K : Cont) (F : Fr) (B : Ents) (m : Mem) : Prop where
  out : ∀ ρ a W, WS E ρ B m W → FS E ρ m F a → Post E K a W
def runCuts (E : Env) : List Step → Cont → Cont
  | [], K => K
  | s :: r, K => (match s with
    | .cut => CutNode E (runCuts E r K)
    | .keep _ => runCuts E r K
    | .freeze i => runSteps [.freeze i] (runCuts E r K)
    | .nilOwn a b c d => runSteps [.nilOwn a b c d] (runCuts E r K))

/-- What the frame still says behind a call that turns rows which it names. -/
def keepsOf : List Step → Option (List Nat)
  | [] => none
  | s :: r => (match s with
    | .keep ks => some ks
    | _ => keepsOf r)
def keepSlots : List Nat → Fr → Fr
  | [], _ => []
  | k :: r, F => (match look k F with
    | some v => (k, v) :: keepSlots r F
    | none => keepSlots r F)

/-! ### Calls -/
def Below (w w' : World) : Prop := Go.RowKit.Below w.heap.size w w'

def Invk (P : Program) (f : FuncId) (args : List Value) (W : World) (R : Ending → World → Prop) : Prop :=
  ((callFunc f args.toArray).run P W = .ok (.enter f args.toArray) W ∧ Calls P f args.toArray W R) ∨
  ∃ v W', (callFunc f args.toArray).run P W = .ok (.value v) W' ∧ R (.returned v) W'

/-- What a call's end must bring for the walk to go on. -/
def CallEnd (E : Env) (ρ : Val) (d : Option Nat) (F : Fr) (m : Mem) (K : Cont) (Q : SPost) : Ending → World → Prop
  | .returned v, W' => ∃ ρ' B' m' u, v = AV.con ρ' u ∧ u.ok m' ∧ m.le m' ∧ (∀ t x, look t F = some x → x.con ρ' = x.con ρ) ∧ WS E ρ' B' m' W' ∧
      putK E d u F B' m' K
  | .panicked ch, W' => ∃ ρ' B' m', m.le m' ∧ (∀ t x, look t F = some x → x.con ρ' = x.con ρ) ∧ WS E ρ' B' m' W' ∧ Q (.panic ch) F B' m'
  | .outgrown, _ => False

structure CallNode (E : Env) (f : FuncId) (args : List AV) (d : Option Nat) (F : Fr) (B : Ents) (m : Mem) (K : Cont) (Q : SPost) : Prop where
  out : ∀ ρ W, WS E ρ B m W → Invk E.P f (args.map (AV.con ρ)) W (CallEnd E ρ d F m K Q)

/-- An operation for which the generator has no rule: shown by hand. -/
structure HandNode (E : Env) (o : Oper) (F : Fr) (B : Ents) (m : Mem) (K : Cont) (Q : SPost) : Prop where
  out : ∀ ρ a W, WS E ρ B m W → FS E ρ m F a → o.wp E.P a W (Post E K) (fun e => Post E (Q e))

def evs (F : Fr) : List Operand → Option (List AV)
  | [] => some []
  | x :: r => match ev F x, evs F r with
    | some v, some vs => some (v :: vs)
    | _, _ => none

def forceAVs (l : List AV) (K : List AV → Prop) : Prop :=
  match l with
  | [] => K []
  | v :: r => force v fun v' => forceAVs r fun r' => K (v' :: r')

def capAV : Cap → AV
  | .v x => ofValue x
  | .ptr i off => .one (.ptr i off)

def mkAV (agg : Bool) (ls : List Leaf) : Option AV :=
  match agg, ls with
  | true, ls => some (.agg ls)
  | false, [l] => some (.one l)
  | _, _ => none

def leaves? : AV → Option (List Leaf)
  | .one l => some [l]
  | .agg ls => some ls
  | _ => none
def leavesO : Option AV → Option (List Leaf)
  | some v => leaves? v
  | none => none

def nthL (n : Nat) : List Leaf → Option Leaf
  | [] => none
  | x :: r => match n with
    | 0 => some x
    | n + 1 => nthL n r
def dropL (n : Nat) (l : List Leaf) : List Leaf :=
  match n, l with
  | 0, l => l
  | _ + 1, [] => []
  | n + 1, _ :: r => dropL n r
def takeL (n : Nat) (l : List Leaf) : List Leaf :=
  match n, l with
  | 0, _ => []
  | _ + 1, [] => []
  | n + 1, x :: r => x :: takeL n r
/-- the cells from off on are replaced -/
def writeL (off : Nat) (vs l : List Leaf) : List Leaf :=
  match off with
  | 0 => (match vs, l with
    | [], l => l
    | _ :: _, [] => []
    | v :: vs, _ :: r => v :: writeL 0 vs r)
  | n + 1 => (match l with
    | [] => []
    | x :: r => x :: writeL n vs r)
def lenL : List Leaf → Nat
  | [] => 0
  | _ :: r => lenL r + 1

def vals? : List Leaf → Option (List Value)
  | [] => some []
  | .v x :: r => (match vals? r with | some xs => some (x :: xs) | none => none)
  | .kb b :: r => (match vals? r with | some xs => some (.bool b :: xs) | none => none)
  | .rd a _ o :: r => (match vals? r with | some xs => some (.pointer (some (a.add o)) :: xs) | none => none)
  | _ => none
/-- one value that names nothing local -/
def val? : AV → Option Value
  | .one (.v x) => some x
  | .one (.kb b) => some (.bool b)
  | .one (.rd a _ o) => some (.pointer (some (a.add o)))
  | .one (.fn f []) => some (.func (.func f) #[] #[])
  | .agg ls => (match vals? ls with | some xs => some (.agg xs.toArray) | none => none)
  | _ => none
def avals : List AV → Option (List Value)
  | [] => some []
  | v :: r => (match val? v, avals r with | some x, some xs => some (x :: xs) | _, _ => none)

def fillL (fs : Nat → Option (Nat × Nat)) (F : Fr) : List (Nat × Operand) → List Leaf → Option (List Leaf)
  | [], ls => some ls
  | (i, x) :: r, ls => match fs i, leavesO (ev F x) with
    | some (off, sz), some vs => bif Nat.beq (lenL vs) sz && Nat.ble (off + sz) (lenL ls) then fillL fs F r (writeL off vs ls) else none
    | _, _ => none

def fieldPlaces (Γ : Types) (fs : List (Nat × TypeId)) (i : Nat) : Option (Nat × Nat) :=
  match fs[i]? with
  | some (off, t) => (match look t Γ with | some ti => some (off, ti.size) | none => none)
  | none => none

def repeatL (n : Nat) (l : List Leaf) : List Leaf :=
  match n with
  | 0 => []
  | n + 1 => l ++ repeatL n l

def kindEq : IntKind → IntKind → Bool
  | .i64, .i64 | .i32, .i32 | .i16, .i16 | .i8, .i8 | .u64, .u64 | .u32, .u32 | .u16, .u16 | .u8, .u8 => true
  | _, _ => false

def sLt (x y : ByteArray) : Bool := Op.bytesLess x.toList y.toList

/-- Two lists of plain cells, held against each other by ==. -/
def eqv (x y : Value) : Option Prop :=
  match x, y with
  | .int k a, .int k' b => bif kindEq k k' then some (a = b) else none
  | .bool a, .bool b => some (a = b)
  | .string a, .string b => some (a = b)
  | _, _ => none

def boolLeaf (b : Bool) : AV := .one (.v (.bool b))

def cmpInt (op : BinOp) (a b : Int) : Option Bool :=
  match op with
  | .eql => some (decide (a = b))
  | .neq => some (decide (a ≠ b))
  | .lss => some (decide (a < b))
  | .leq => some (decide (a ≤ b))
  | .gtr => some (decide (b < a))
  | .geq => some (decide (b ≤ a))
  | _ => none
def cmpStr (op : BinOp) (a b : ByteArray) : Option Bool :=
  match op with
  | .eql => some (decide (a = b))
  | .neq => some (decide (a ≠ b))
  | .lss => some (sLt a b)
  | .leq => some (sLt a b || decide (a = b))
  | .gtr => some (!(sLt a b || decide (a = b)))
  | .geq => some (!sLt a b)
  | _ => none

structure EqNode (E : Env) (t : TypeId) (neg : Bool) (xs ys : List Leaf) (d : Option Nat) (F : Fr) (B : Ents) (m : Mem) (K : Cont) : Prop where
  out : ∃ us vs b, vals? xs = some us ∧ vals? ys = some vs ∧ (∀ W, ((do eqGuard (bif neg then .neq else .eql) t (.tmp 0) (.tmp 0) (.agg us.toArray) (.agg vs.toArray); binOp (bif neg then .neq else .eql) t (.agg us.toArray) (.agg vs.toArray)) : Sem Value).run E.P W = .ok (.bool b) W) ∧ putK E d (boolLeaf b) F B m K

/-- append: what is appended -/
def srcCells (E : Env) (size : Nat) (B : Ents) (m : Mem) (x : AV) (K : Nat → List Value → Prop) : Prop :=
  match x with
  | .one (.own j) => (match look j B with
    | some (.own n cells _ sz) => chk (Nat.beq sz size) (K n cells)
    | _ => False)
  | .one (.v (.slice A n c)) => ∃ cells, cells.length = n * size ∧ (0 < n → ∃ a, A = some a ∧ MemReads m a cells) ∧ K n cells
  | _ => False

def appendK (E : Env) (d : Option Nat) (t : TypeId) (s x : AV) (F : Fr) (B : Ents) (m : Mem) (K : Cont) : Prop :=
  match look t E.Γ, d with
  | some ⟨.slice e, _, _, _⟩, some d => match look e E.Γ with
    | some te => match s with
      | .one (.own i) => match look i B with
        | some (.own n cells e' sz) => srcCells E te.size B m x fun n' cells' => n + n' ≤ maxLen ∧ (n + n') * te.bytes ≤ 140737488355328 ∧ chk (Nat.beq e' e) (chk (Nat.beq sz te.size) (chk (Nat.blt d E.N)
            (∀ old : Sl, K ((d, .one (.own i)) :: substF i old F) ((i, .own (n + n') (cells ++ cells') e te.size) :: substB i old B) m)))
        | _ => False
      | .one (.v (.slice A n c)) => n = 0 ∧ c = 0 ∧ srcCells E te.size B m x fun n' cells' => n' ≤ maxLen ∧ n' * te.bytes ≤ 140737488355328 ∧ chk (Nat.blt d E.N) (chk (newName d F B)
            (K ((d, .one (.own d)) :: F) ((d, .own n' cells' e te.size) :: B) m))
      | _ => False
    | none => False
  | _, _ => False
end Vc
end

section
open Go
namespace Vc

def fieldOff (Γ : Types) (t f : Nat) : Option Nat :=
  match look t Γ with
  | some ti => (match ti.kind with
    | .struct fs => (match fs[f]? with
      | some (o', t') => (match look t' Γ with
        | some te => (match Nat.blt 0 te.size with | true => some o' | false => none)
        | none => none)
      | none => none)
    | _ => none)
  | none => none
def sliceElem (Γ : Types) (t : Nat) : Option (Nat × TInfo) :=
  match look t Γ with
  | some ti => (match ti.kind with
    | .slice e => (match look e Γ with
      | some te => some (e, te)
      | none => none)
    | _ => none)
  | none => none
def structFields (Γ : Types) (t : Nat) : Option (List (Nat × TypeId) × List Value) :=
  match look t Γ with
  | some ti => (match ti.kind with
    | .struct fs => some (fs, ti.zero)
    | _ => none)
  | none => none
def isString (Γ : Types) (t : Nat) : Bool :=
  match look t Γ with
  | some ti => (match ti.kind with
    | .string => true
    | _ => false)
  | none => false
def intKind (Γ : Types) (t : Nat) : Option IntKind :=
  match look t Γ with
  | some ti => (match ti.kind with
    | .int k => some k
    | _ => none)
  | none => none

def loadLeaves (E : Env) (B : Ents) (m : Mem) (n : Nat) (x : Option AV) (K : List Leaf → Prop) : Prop :=
  match x with
  | some (.one (.ptr i off)) => (match look i B with
    | some (.box cells _) => K (takeL n (dropL off cells))
    | _ => False)
  | some (.one (.rd _ cs off)) => K (takeL n (dropL off (vmap cs)))
  | some (.one (.optr i off)) => (match look i B with
    | some (.own _ cells _ _) => ∃ cs, (cells.drop off).take n = cs ∧ cs ≠ [] ∧ K (vmap cs)
    | _ => False)
  | some (.one (.v (.pointer A))) => ∃ cs, (∃ a, A = some a ∧ MemReads m a cs) ∧ K (takeL n (vmap cs))
  | _ => False

def storeLeaves (E : Env) (F : Fr) (B : Ents) (m : Mem) (x : Option AV) (vs : List Leaf) (K : Cont) : Prop :=
  match x with
  | some (.one (.ptr i off)) => (match look i B with
    | some (.box cells t) => chk (Nat.ble (off + lenL vs) (lenL cells)) (forceL (writeL off vs cells) fun cells' => K F ((i, .box cells' t) :: B) m)
    | _ => False)
  | some (.one (.optr i off)) => (match look i B with
    | some (.own n cells e sz) => (match vals? vs with
      | some us => chk (Nat.blt 0 (lenL vs)) (off + us.length ≤ cells.length ∧ K F ((i, .own n (cells.take off ++ us ++ cells.drop (off + us.length)) e sz) :: B) m)
      | none => False)
    | _ => False)
  | _ => False

def callK (E : Env) (c : Call) (t : TypeId) (d : Option Nat) (F : Fr) (B : Ents) (m : Mem) (K : Cont) (Q : SPost) : Prop :=
  match c.callee with
  | .builtin b => (match b, evs F c.args.toList with
    | .len, some [x] => (match c.argTypes.toList with
      | [t] => (match sliceElem E.Γ t, isString E.Γ t, x with
        | some _, _, .one (.v (.slice _ n _)) => putK E d (.one (.v (.int .i64 (n : Int)))) F B m K
        | some _, _, .one (.own i) => (match look i B with
          | some (.own n _ _ _) => putK E d (.one (.v (.int .i64 (n : Int)))) F B m K
          | _ => False)
        | none, true, .one (.v (.string s)) => putK E d (.one (.v (.int .i64 (s.size : Int)))) F B m K
        | _, _, _ => False)
      | _ => False)
    | .cap, some [.one (.v (.slice _ _ n))] => (match c.argTypes.toList with
      | [t] => (match sliceElem E.Γ t with
        | some _ => putK E d (.one (.v (.int .i64 (n : Int)))) F B m K
        | none => False)
      | _ => False)
    | .max, some [.one (.v (.int k a)), .one (.v (.int k' b))] => chk (kindEq k k') (putK E d (.one (.v (.int k (if b > a then b else a)))) F B m K)
    | .min, some [.one (.v (.int k a)), .one (.v (.int k' b))] => chk (kindEq k k') (putK E d (.one (.v (.int k (if b < a then b else a)))) F B m K)
    | .append, some _ => ∃ st, runCuts E st (fun F B m => match evs F c.args.toList with
      | some [s, x] => (match c.argTypes.toList with
        | [t1, t2] => (match sliceElem E.Γ t2 with
          | some _ => appendK E d t1 s x F B m K
          | none => False)
        | _ => False)
      | _ => False) F B m
    | _, _ => False)
  | .value f => ∃ st, runCuts E st (match keepsOf st with
    | none => fun F B m => (match ev F f, evs F c.args.toList with
      | some (.one (.fn g caps)), some avs => forceAVs (avs ++ caps.map capAV) fun avs => CallNode E g avs d F B m K Q
      | some (.one (.v fv)), some avs => forceAVs avs fun avs => ∃ g caps, fv = .func (.func g) #[] caps ∧ CallNode E g (avs ++ (caps.toList.map ofValue)) d F B m K Q
      | _, _ => False)
    | some ks => fun F B m => (match ev F f, evs F c.args.toList with
      | some (.one (.fn g caps)), some avs => forceAVs (avs ++ caps.map capAV) fun avs => CallNode E g avs d (keepSlots ks F) B m K Q
      | _, _ => False)) F B m
  | .invoke _ _ => False

/-- a Bool that is not known yet parts the way -/
def splitB (x : Option AV) (yes no : Prop) : Prop :=
  match x with
  | some (.one (.kb b)) => (match b with | true => yes | false => no)
  | some (.one (.v (.bool b))) => (b = true → yes) ∧ (b = false → no)
  | _ => False

def putO (E : Env) (d : Option Nat) (v : Option AV) (F : Fr) (B : Ents) (m : Mem) (K : Cont) : Prop :=
  match v with
  | some v => putK E d v F B m K
  | none => False

def putO' (E : Env) (d : Option Nat) (v : Option AV) (F : Fr) (B : Ents) (m : Mem) (K : Cont) : Prop :=
  match v with
  | some v => putK E d v F B m K
  | none => False

def boolOf : Option AV → Option Bool
  | some (.one (.kb b)) => some b
  | some (.one (.v (.bool b))) => some b
  | _ => none
def isBool (Γ : Types) (t : Nat) : Bool :=
  match look t Γ with
  | some ti => (match ti.kind with
    | .bool => true
    | _ => false)
  | none => false
/-- A slice held against nil. -/
def nilK (E : Env) (d : Option Nat) (op : BinOp) (t : TypeId) (x y : Option AV) (F : Fr) (B : Ents) (m : Mem) (K : Cont) : Prop :=
  match sliceElem E.Γ t, x, y with
  | some _, some (.one (.v (.slice A _ _))), some (.one (.v (.slice none 0 0))) => (match op with
    | .eql => putK E d (boolLeaf A.isNone) F B m K
    | .neq => putK E d (boolLeaf (!A.isNone)) F B m K
    | _ => False)
  | _, _, _ => False
def boolK (E : Env) (d : Option Nat) (op : BinOp) (t : TypeId) (x y : Option AV) (F : Fr) (B : Ents) (m : Mem) (K : Cont) : Prop :=
  match boolOf x, boolOf y, isBool E.Γ t with
  | some a, some b, true => (match op with
    | .eql => putK E d (boolLeaf (a == b)) F B m K
    | .neq => putK E d (boolLeaf (!(a == b))) F B m K
    | _ => False)
  | _, _, _ => nilK E d op t x y F B m K
def binK (E : Env) (d : Option Nat) (op : BinOp) (t : TypeId) (x y : Option AV) (F : Fr) (B : Ents) (m : Mem) (K : Cont) : Prop :=
  match x, y with
  | some (.one (.v (.int k a))), some (.one (.v (.int k' b))) =>
    (match kindEq k k' with
     | true => (match op with
       | .add => ∃ r, k.wrap (a + b) = r ∧ putK E d (.one (.v (.int k r))) F B m K
       | .sub => ∃ r, k.wrap (a - b) = r ∧ putK E d (.one (.v (.int k r))) F B m K
       | .mul => ∃ r, k.wrap (a * b) = r ∧ putK E d (.one (.v (.int k r))) F B m K
       | .quo => b ≠ 0 ∧ ∃ r, k.wrap (a.tdiv b) = r ∧ putK E d (.one (.v (.int k r))) F B m K
       | .rem => b ≠ 0 ∧ putK E d (.one (.v (.int k (a.tmod b)))) F B m K
       | .shr => 0 ≤ b ∧ ∃ r, a.fdiv (2 ^ min b.toNat k.bits) = r ∧ putK E d (.one (.v (.int k r))) F B m K
       | .shl => 0 ≤ b ∧ ∃ r, k.wrap (a * 2 ^ min b.toNat k.bits) = r ∧ putK E d (.one (.v (.int k r))) F B m K
       | op => (match cmpInt op a b with
         | some r => putK E d (boolLeaf r) F B m K
         | none => False))
     | false => False)
  | some (.one (.v (.string a))), some (.one (.v (.string b))) =>
    (match op with
     | .add => a.size + b.size ≤ 9223372036854775807 ∧ putK E d (.one (.v (.string (a ++ b)))) F B m K
     | op => (match cmpStr op a b with
       | some r => putK E d (boolLeaf r) F B m K
       | none => False))
  | some (.agg xs), some (.agg ys) =>
    (match op with
     | .eql => EqNode E t false xs ys d F B m K
     | .neq => EqNode E t true xs ys d F B m K
     | _ => False)
  | _, _ => boolK E d op t x y F B m K

/-- Calls of Go's own functions that are shown by hand. -/
def handCall (Γ : Types) (c : Call) : Bool :=
  match c.callee with
  | .builtin b => (match b with
    | .copy => true
    | .append => (match c.argTypes.toList with
      | [_, t2] => (match intKind Γ t2 with | some _ => true | none => false)
      | _ => false)
    | _ => false)
  | _ => false

def vcOp (E : Env) (o : Oper) (K : Cont) (Q : SPost) (F : Fr) (B : Ents) (m : Mem) : Prop :=
  match o.op with
  | .move x | .assign x => putO E o.dst (ev F x) F B m K
  | .pick c x y => splitB (ev F c) (putO E o.dst (ev F x) F B m K) (putO E o.dst (ev F y) F B m K)
  | .alloc t => (match look t E.Γ, o.dst with
    | some ti, some d => chk (Nat.blt d E.N) (chk (newName d F B) (chk (pinNo d E.pins) (forceL (vmap ti.zero) fun ls => K ((d, .one (.ptr d 0)) :: F) ((d, .box ls t) :: B) m)))
    | _, _ => False)
  | .box t x => (match leavesO (ev F x), o.dst with
    | some vs, some d => chk (Nat.blt d E.N) (chk (newName d F B) (chk (pinNo d E.pins) (chk (leavesNo d vs) (forceL vs fun ls => K ((d, .one (.ptr d 0)) :: F) ((d, .box ls t) :: B) m))))
    | _, _ => False)
  | .build t parts => (match structFields E.Γ t with
    | some (fs, zero) => (match fillL (fieldPlaces E.Γ fs) F parts.toList (vmap zero) with
      | some ls => putK E o.dst (.agg ls) F B m K
      | none => False)
    | _ => False)
  | .buildSlice t len parts => (match sliceElem E.Γ t, o.dst with
    | some (e, te), some d => (∃ st, runSteps st (fun F B m => match fillL (fun i => some (i * te.size, te.size)) F parts.toList (repeatL len (vmap te.zero)) with
        | some ls => (match vals? ls with
          | some us => chk (Nat.blt d E.N) (chk (newName d F B) (chk (Nat.ble (len * te.size) 1000) (chk (Nat.blt 0 te.size) (K ((d, .one (.own d)) :: F) ((d, .own len us e te.size) :: B) m))))
          | none => False)
        | none => False) F B m)
    | _, _ => False)
  | .load t x => (match look t E.Γ with
    | some ti => loadLeaves E B m ti.size (ev F x) fun ls => chk (Nat.beq (lenL ls) ti.size) (putO' E o.dst (mkAV ti.kind.isAgg ls) F B m K)
    | none => False)
  | .store t x y => (match leavesO (ev F y) with
    | some vs => (match look t E.Γ with
      | some ti => (match o.dst with
        | none => chk (Nat.beq (lenL vs) ti.size) (storeLeaves E F B m (ev F x) vs K)
        | some _ => False)
      | none => False)
    | none => False)
  | .nilCheck x => (match ev F x with
    | some (.one (.ptr i off)) => putK E o.dst (.one (.ptr i off)) F B m K
    | some (.one (.rd a cs off)) => putK E o.dst (.one (.rd a cs off)) F B m K
    | _ => False)
  | .fieldAddr t x f => (match fieldOff E.Γ t f, ev F x with
    | some o', some (.one (.ptr i off)) => putK E o.dst (.one (.ptr i (off + o'))) F B m K
    | some o', some (.one (.optr i off)) => (match look i B with
      | some (.own n _ _ _) => 0 < n ∧ putK E o.dst (.one (.optr i (off + o'))) F B m K
      | _ => False)
    | some o', some (.one (.rd a cs off)) => putK E o.dst (.one (.rd a cs (off + o'))) F B m K
    | _, _ => False)
  | .field t x f => (match structFields E.Γ t, ev F x with
    | some (fs, _), some (.agg ls) => (match fs[f]? with
      | some (o', t') => (match look t' E.Γ with
        | some ti => putO' E o.dst (mkAV ti.kind.isAgg (takeL ti.size (dropL o' ls))) F B m K
        | none => False)
      | none => False)
    | _, _ => False)
  | .indexAddr t x i => (match sliceElem E.Γ t, ev F x, ev F i with
    | some (_, te), some (.one (.v (.slice A n c))), some (.one (.v (.int _ z))) => ∃ (k : Nat) (a : Addr) (cs : List Value), z = (k : Int) ∧ k < n ∧ A = some a ∧ MemReads m (a.add (k * te.size)) cs ∧ putK E o.dst (.one (.rd (a.add (k * te.size)) cs 0)) F B m K
    | some (_, te), some (.one (.own j)), some (.one (.v (.int _ z))) => (match look j B with
      | some (.own n _ _ sz) => chk (Nat.beq sz te.size) (∃ (k : Nat), z = (k : Int) ∧ k < n ∧ putK E o.dst (.one (.optr j (k * te.size))) F B m K)
      | _ => False)
    | _, _, _ => False)
  | .index t x i => (match isString E.Γ t, ev F x, ev F i with
    | true, some (.one (.v (.string s))), some (.one (.v (.int _ z))) => ∃ (k : Nat) (h : k < s.size), z = (k : Int) ∧ putK E o.dst (.one (.v (.int .u8 ((s[k]'h).toNat : Int)))) F B m K
    | _, _, _ => False)
  | .binOp op t x y _ => binK E o.dst op t (ev F x) (ev F y) F B m K
  | .unOp op _ x => (match op, ev F x with
    | .not, some (.one (.kb b)) => putK E o.dst (.one (.kb (!b))) F B m K
    | .not, some (.one (.v (.bool b))) => putK E o.dst (boolLeaf (!b)) F B m K
    | .neg, some (.one (.v (.int k a))) => ∃ r, k.wrap (0 - a) = r ∧ putK E o.dst (.one (.v (.int k r))) F B m K
    | _, _ => False)
  | .convert s t x => (match intKind E.Γ t, intKind E.Γ s, ev F x with
    | some k, some _, some (.one (.v (.int _ a))) => ∃ r, k.wrap a = r ∧ putK E o.dst (.one (.v (.int k r))) F B m K
    | _, _, some (.one (.v (.string a))) => (match isString E.Γ t, isString E.Γ s with
      | true, true => putK E o.dst (.one (.v (.string a))) F B m K
      | _, _ => HandNode E o F B m K Q)
    | _, _, _ => HandNode E o F B m K Q)
  | .extract x i => (match ev F x with
    | some (.tup vs) => (match vs[i]? with
      | some (true, ls) => putK E o.dst (.agg ls) F B m K
      | some (false, [l]) => putK E o.dst (.one l) F B m K
      | _ => False)
    | _ => False)
  | .makeFunc (.func f) first caps => (match first.toList, evs F caps.toList with
    | [], some vs => (match vs with
      | [] => putK E o.dst (.one (.fn f [])) F B m K
      | [.one (.ptr i off)] => putK E o.dst (.one (.fn f [.ptr i off])) F B m K
      | [.one (.ptr i off), .one (.ptr i2 off2)] => putK E o.dst (.one (.fn f [.ptr i off, .ptr i2 off2])) F B m K
      | _ => False)
    | _, _ => False)
  | .slice t x lo hi none => (match isString E.Γ t, sliceElem E.Γ t, ev F x with
    | true, _, some (.one (.v (.string s))) => ∃ (l h : Nat), l ≤ h ∧ h ≤ s.size ∧ bnd F lo 0 l ∧ bnd F hi s.size h ∧ putK E o.dst (.one (.v (.string (s.extract l h)))) F B m K
    | false, some (_, te), some (.one (.v (.slice A n c))) => ∃ (l h : Nat), l ≤ h ∧ h ≤ c ∧ bnd F lo 0 l ∧ bnd F hi n h ∧ putK E o.dst (.one (.v (.slice (if c = l then A else A.map (·.add (l * te.size))) (h - l) (c - l)))) F B m K
    | _, _, _ => False)
  | .call c => (match handCall E.Γ c with | true => HandNode E o F B m K Q | false => callK E c o.type o.dst F B m K Q)
  | _ => HandNode E o F B m K Q
 where
  bnd (F : Fr) (x : Option Operand) (dflt n : Nat) : Prop :=
    match x with
    | none => n = dflt
    | some x => (match ev F x with
      | some (.one (.v (.int _ z))) => z = (n : Int)
      | _ => False)

/-- is the operation carried out? -/
def guardK (ops : List Oper) (o : Oper) (yes no : Fr → Prop) (F : Fr) : Prop :=
  match o.guard with
  | none => yes F
  | some (j, want) => (match ops[j]? with
    | some oj => (match oj.dst with
      | some d => (match look d F with
        | some (.one (.kb b)) => (match b, want with
          | true, true | false, false => yes F
          | _, _ => no F)
        | some (.one (.v (.bool b))) => (b = true → match want with | true => yes ((d, .one (.kb true)) :: F) | false => no ((d, .one (.kb true)) :: F)) ∧
            (b = false → match want with | true => no ((d, .one (.kb false)) :: F) | false => yes ((d, .one (.kb false)) :: F))
        | some .bad => no F
        | _ => False)
      | none => False)
    | none => False)

def skipF (o : Oper) (F : Fr) : Fr :=
  match o.dst with
  | some d => (d, .bad) :: F
  | none => F

def vcOps (E : Env) (ops : List Oper) (Q : SPost) : List Oper → Cont → Cont
  | [], K => K
  | o :: rest, K => fun F B m => guardK ops o (fun F => vcOp E o (vcOps E ops Q rest K) Q F B m) (fun F => vcOps E ops Q rest K (skipF o F) B m) F

/-- From here on by another state, which this one entails. -/
def Entails (E : Env) (F : Fr) (B : Ents) (m : Mem) (F' : Fr) (B' : Ents) (m' : Mem) : Prop :=
  ∀ ρ a W, WS E ρ B m W → FS E ρ m F a → ∃ ρ', WS E ρ' B' m' W ∧ FS E ρ' m' F' a

structure LoopNode (round : Cont → Cont) (E : Env) (F : Fr) (B : Ents) (m : Mem) : Prop where
  out : ∃ (α : Type) (ok : α → Prop) (μ : α → Nat) (TF : α → Fr) (TB : α → Ents) (Tm : α → Mem),
    (∃ x, ok x ∧ Entails E F B m (TF x) (TB x) (Tm x)) ∧
    ∀ x, ok x → round (fun F' B' m' => ∃ st, runCuts E st (fun F' B' m' => ∃ y, ok y ∧ μ y < μ x ∧ Entails E F' B' m' (TF y) (TB y) (Tm y)) F' B' m') (TF x) (TB x) (Tm x)

def thenQ (Q : SPost) (K : Cont) : SPost
  | .normal => K
  | e => Q e
def blockQ (i : Nat) (Q : SPost) : SPost
  | .exit j => fun F B m => bif Nat.beq j i then Q .normal F B m else Q (.exit j) F B m
  | e => Q e

def QN (E : Env) (K : Cont) (Q : SPost) : Exit → Act → World → Prop
  | .normal => Post E K
  | e => Post E (Q e)

/-- A region that draws its order. -/
structure DrawNode (E : Env) (ops : Array Oper) (K : Cont) (Q : SPost) (F : Fr) (B : Ents) (m : Mem) : Prop where
  out : ∀ ρ a W, WS E ρ B m W → FS E ρ m F a → wpAny E.P .any ops (QN E K Q) ops.size (Array.replicate ops.size false) a W

def vc (E : Env) : Code → SPost → Cont
  | .skip, Q => Q .normal
  | .ret, Q => Q .ret
  | .exit i, Q => Q (.exit i)
  | .seq a b, Q => vc E a (thenQ Q (vc E b Q))
  | .cond c x y, Q => fun F B m => splitB (ev F c) (vc E x Q F B m) (vc E y Q F B m)
  | .block i c, Q => vc E c (blockQ i Q)
  | .region _ ops false, Q => vcOps E ops.toList Q ops.toList (Q .normal)
  | .region _ ops true, Q => fun F B m => DrawNode E ops (Q .normal) Q F B m
  | .loop c, Q => fun F B m => ∃ st, runCuts E st (LoopNode (fun K => vc E c (thenQ Q K)) E) F B m
  | _, _ => fun _ _ _ => False
end Vc
end

section
open Go
namespace Vc
set_option linter.unusedSimpArgs false

/-! ### The type table -/
def descKind : TypeDesc → Kind
  | .bool => .bool | .int k => .int k | .string => .string | .pointer e => .ptr e | .slice e => .slice e
  | .struct fs => .struct (fs.toList.map fun f => (f.offset, f.type)) | .array n e => .array n e | .func .. => .func | .map k e => .map k e | .interface _ => .iface
  | _ => .other
structure TOk (P : Program) (t : TypeId) (ti : TInfo) : Prop where
  kind : (P.underlying t).map descKind = some ti.kind
  info : (P.info? t).map (fun i => (i.size, i.bytes, i.zero.map (·.cells.toList))) = some (ti.size, ti.bytes, some ti.zero)
  zero1 : oneAll ti.zero = true
  zsize : ti.zero.length = ti.size
  fields : (match ti.kind with | .struct fs => fs.all (fun p => (P.info? p.2).isSome) | _ => true) = true
def TypesOk (P : Program) (Γ : Types) : Prop := ∀ t ti, look t Γ = some ti → TOk P t ti

theorem typesOk_nil (P : Program) : TypesOk P [] := fun _ _ h => by cases h
theorem typesOk_cons {P : Program} {t : TypeId} {ti : TInfo} {Γ : Types} (h : TOk P t ti) (hr : TypesOk P Γ) : TypesOk P ((t, ti) :: Γ) := by
  intro t' ti' h'
  simp only [look] at h'
  cases hb : Nat.beq t' t with
  | true => rw [hb] at h'; simp at h'; subst h'; have := Nat.eq_of_beq_eq_true hb; subst this; exact h
  | false => rw [hb] at h'; exact hr _ _ h'

theorem look_cons_eq {α : Type} (d : Nat) (v : α) (r : List (Nat × α)) : look d ((d, v) :: r) = some v := by simp [look]
theorem look_cons_ne {α : Type} {d k : Nat} (v : α) (r : List (Nat × α)) (h : k ≠ d) : look k ((d, v) :: r) = look k r := by
  have : Nat.beq k d = false := by
    cases hb : Nat.beq k d with
    | true => exact absurd (Nat.eq_of_beq_eq_true hb) h
    | false => rfl
  simp [look, this]

theorem chk_elim {b : Bool} {p : Prop} (h : chk b p) : b = true ∧ p := by cases b <;> first | exact ⟨rfl, h⟩ | exact absurd h id

/-! ### Forcing does nothing -/
theorem forceL_elim {l : List Leaf} {K : List Leaf → Prop} (h : forceL l K) : K l := by
  induction l generalizing K with
  | nil => exact h
  | cons x r ih =>
    cases x with
    | kb b => cases b <;> exact ih h
    | _ => exact ih h
theorem force_elim {v : AV} {K : AV → Prop} (h : force v K) : K v := by
  cases v with
  | one l => cases l with
    | kb b => cases b <;> exact h
    | _ => exact h
  | agg ls => exact forceL_elim h
  | tup vs => exact h
  | bad => exact h
theorem forceAVs_elim {l : List AV} {K : List AV → Prop} (h : forceAVs l K) : K l := by
  induction l generalizing K with
  | nil => exact h
  | cons x r ih => exact ih (force_elim h)

/-! ### Plain facts on the lists -/
theorem lenL_eq (l : List Leaf) : lenL l = l.length := by induction l <;> simp [lenL, *]
theorem takeL_eq (n : Nat) (l : List Leaf) : takeL n l = l.take n := by
  induction n generalizing l with
  | zero => simp [takeL]
  | succ n ih => cases l <;> simp [takeL, ih]
theorem dropL_eq (n : Nat) (l : List Leaf) : dropL n l = l.drop n := by
  induction n generalizing l with
  | zero => simp [dropL]
  | succ n ih => cases l <;> simp [dropL, ih]
theorem vmap_eq (l : List Value) : vmap l = l.map .v := by induction l <;> simp [vmap, *]
theorem conL_vmap (ρ : Val) (l : List Value) : conL ρ (vmap l) = l := by rw [vmap_eq]; simp [conL, Leaf.con, Function.comp_def]
theorem writeL_length (off : Nat) (vs l : List Leaf) : (writeL off vs l).length = l.length := by
  induction off generalizing l with
  | zero =>
    induction vs generalizing l with
    | nil => cases l <;> simp [writeL]
    | cons v vs ih => cases l <;> simp [writeL, ih]
  | succ n ih => cases l <;> simp [writeL, ih]
theorem writeL_get (off : Nat) (vs l : List Leaf) (j : Nat) : (writeL off vs l)[j]? = if off ≤ j ∧ j < off + vs.length ∧ j < l.length then vs[j - off]? else l[j]? := by
  induction off generalizing l j with
  | zero =>
    induction vs generalizing l j with
    | nil => cases l <;> simp [writeL] <;> omega
    | cons v vs ih =>
      cases l with
      | nil => simp [writeL]
      | cons x r =>
        cases j with
        | zero => simp [writeL]
        | succ j =>
          simp only [writeL, List.getElem?_cons_succ, ih, List.length_cons]
          by_cases h : j < vs.length ∧ j < r.length
          · rw [if_pos (by omega), if_pos (by omega)]; simp
          · rw [if_neg (by omega), if_neg (by omega)]
  | succ n ih =>
    cases l with
    | nil => simp [writeL]
    | cons x r =>
      cases j with
      | zero => simp [writeL]
      | succ j =>
        simp only [writeL, List.getElem?_cons_succ, ih, List.length_cons]
        by_cases h : n ≤ j ∧ j < n + vs.length ∧ j < r.length
        · rw [if_pos h, if_pos (by omega)]; congr 1; omega
        · rw [if_neg h, if_neg (by omega)]

theorem oneAll_spec {l : List Value} (h : oneAll l = true) : ∀ u ∈ l, u.oneCell' = true := by
  induction l with
  | nil => simp
  | cons x r ih =>
    simp only [oneAll] at h
    cases hx : x.oneCell' with
    | true => rw [hx] at h; intro u hu; cases hu with
      | head => exact hx
      | tail _ hm => exact ih h u hm
    | false => rw [hx] at h; simp at h

/-! ### con -/
theorem Leaf.con_one {m : Mem} {ρ : Val} {l : Leaf} (h : l.ok m) : (l.con ρ).oneCell' = true := by
  cases l <;> first | exact h | rfl
theorem okL_con {m : Mem} {ρ : Val} {ls : List Leaf} (h : okL m ls) : ∀ u ∈ conL ρ ls, u.oneCell' = true := by
  intro u hu
  obtain ⟨l, hl, rfl⟩ := List.mem_map.1 hu
  exact Leaf.con_one (h l hl)
theorem okL_vmap {m : Mem} {cs : List Value} (h : ∀ u ∈ cs, u.oneCell' = true) : okL m (vmap cs) := by
  intro l hl
  rw [vmap_eq] at hl
  obtain ⟨u, hu, rfl⟩ := List.mem_map.1 hl
  exact h u hu
theorem okL_take {m : Mem} {ls : List Leaf} {n : Nat} (h : okL m ls) : okL m (ls.take n) := fun l hl => h l (List.mem_of_mem_take hl)
theorem okL_drop {m : Mem} {ls : List Leaf} {n : Nat} (h : okL m ls) : okL m (ls.drop n) := fun l hl => h l (List.mem_of_mem_drop hl)

theorem MemReads.mono {m m' : Mem} {a : Addr} {cs : List Value} (h : MemReads m a cs) (hm : m.le m') : MemReads m' a cs := by
  obtain ⟨h0, c, t, fr, h1, h2⟩ := h
  exact ⟨h0, c, t, fr, hm _ _ h1, h2⟩
theorem Leaf.ok_mono {m m' : Mem} {l : Leaf} (h : l.ok m) (hm : m.le m') : l.ok m' := by
  cases l with
  | rd a cs o => exact MemReads.mono h hm
  | _ => exact h
theorem okL_mono {m m' : Mem} {ls : List Leaf} (h : okL m ls) (hm : m.le m') : okL m' ls := fun l hl => Leaf.ok_mono (h l hl) hm
theorem AV.ok_mono {m m' : Mem} {v : AV} (h : v.ok m) (hm : m.le m') : v.ok m' := by
  cases v with
  | one l => exact Leaf.ok_mono h hm
  | agg ls => exact okL_mono h hm
  | tup vs => exact fun p hp => okL_mono (h p hp) hm
  | bad => trivial
theorem MemReads.one {m : Mem} {a : Addr} {cs : List Value} (h : MemReads m a cs) : ∀ u ∈ cs, u.oneCell' = true := by
  intro u hu
  obtain ⟨h0, c, t, fr, h1, h2⟩ := h
  obtain ⟨j, hj⟩ := List.mem_iff_getElem?.1 hu
  exact (h2 j u hj).2
theorem addr_add {a : Addr} (h : a.spot = none) (n : Nat) : a.add n = ⟨a.block, a.off + n, none⟩ := by
  unfold Addr.add
  split
  · rename_i h0; subst h0; cases a; simp_all
  · cases a; simp_all
theorem MemReads.cell {E : Env} {ρ : Val} {B : Ents} {m : Mem} {W : World} (hW : WS E ρ B m W) {a : Addr} {cs : List Value} (h : MemReads m a cs) (j : Nat) (u : Value) (hu : cs[j]? = some u) :
    W.cell? (a.add j) = some u := by
  obtain ⟨h0, c, t, fr, h1, h2⟩ := h
  rw [addr_add h0]
  have := hW.mem _ _ h1
  simp [World.cell?, this, (h2 j u hu).1]

/-! ### Operands -/
theorem ev_con {E : Env} {ρ : Val} {m : Mem} {F : Fr} {a : Act} (h : FS E ρ m F a) {x : Operand} {v : AV} (hx : ev F x = some v) : a.eval x = v.con ρ ∧ v.ok m := by
  cases x with
  | tmp t => exact h.vals t v hx
  | const c =>
    simp only [ev, ofConst] at hx
    split at hx
    · rename_i cs
      cases ho : oneAll cs.toList with
      | true =>
        rw [ho] at hx
        simp only [Option.some.injEq] at hx
        subst hx
        exact ⟨by simp [Act.eval, AV.con, conL_vmap], okL_vmap (oneAll_spec ho)⟩
      | false => rw [ho] at hx; simp at hx
    · simp only [Option.some.injEq] at hx
      subst hx
      exact ⟨rfl, trivial⟩
    · simp at hx
    · rename_i hne1 hne2 hne3
      simp only [Option.some.injEq] at hx
      subst hx
      refine ⟨rfl, ?_⟩
      show Value.oneCell' c = true
      cases c <;> first | rfl | exact absurd rfl (hne1 _) | exact absurd rfl (hne3 _)
  | global g =>
    simp only [ev, Option.some.injEq] at hx
    subst hx
    exact ⟨rfl, rfl⟩
  | func f =>
    simp only [ev, Option.some.injEq] at hx
    subst hx
    exact ⟨rfl, fun c hc => by cases hc⟩

theorem evs_con {E : Env} {ρ : Val} {m : Mem} {F : Fr} {a : Act} (h : FS E ρ m F a) {xs : List Operand} {vs : List AV} (hx : evs F xs = some vs) : xs.map a.eval = vs.map (AV.con ρ) ∧ ∀ v ∈ vs, v.ok m := by
  induction xs generalizing vs with
  | nil => simp [evs] at hx; subst hx; simp
  | cons x r ih =>
    simp only [evs] at hx
    split at hx
    · rename_i v ws hv hw
      simp only [Option.some.injEq] at hx
      subst hx
      obtain ⟨h1, h2⟩ := ev_con h hv
      obtain ⟨h3, h4⟩ := ih hw
      exact ⟨by simp [h1, h3], by simpa [h2] using h4⟩
    · simp at hx

/-! ### Storing a result -/
theorem FS.put {E : Env} {ρ : Val} {m : Mem} {F : Fr} {a : Act} (h : FS E ρ m F a) {d : Nat} {v : AV} (hd : Nat.blt d E.N = true) (hv : v.ok m) : FS E ρ m ((d, v) :: F) (a.put (some d) (v.con ρ)) := by
  have hd' : d < E.N := by simpa using hd
  have hlt : d < a.tmps.size := Nat.lt_of_lt_of_le hd' h.size
  refine ⟨by simpa [Act.put] using h.size, fun k u hk => ?_, by simpa [Act.put] using h.defers⟩
  by_cases hkd : k = d
  · subst hkd
    rw [look_cons_eq] at hk
    simp only [Option.some.injEq] at hk
    subst hk
    exact ⟨by simp [Act.put, hlt], hv⟩
  · rw [look_cons_ne _ _ hkd] at hk
    obtain ⟨h1, h2⟩ := h.vals k u hk
    refine ⟨?_, h2⟩
    rw [← h1]
    simp [Act.put, Array.getD_eq_getD_getElem?, Array.getElem?_setIfInBounds_ne (Ne.symm hkd)]

theorem putK_sound {E : Env} {ρ : Val} {B : Ents} {m : Mem} {F : Fr} {a : Act} {W : World} {d : Option Nat} {v : AV} {K : Cont} (hW : WS E ρ B m W) (hF : FS E ρ m F a) (hv : v.ok m)
    (h : putK E d v F B m K) : Post E K (a.put d (v.con ρ)) W := by
  cases d with
  | none => exact ⟨ρ, F, B, m, h, hW, hF⟩
  | some d =>
    obtain ⟨hd, h⟩ := chk_elim h
    exact ⟨ρ, _, B, m, force_elim h, hW, hF.put hd hv⟩

theorem wp_value {P : Program} {o : Oper} {a : Act} {W W' : World} {next : Act → World → Prop} {Q : Exit → Act → World → Prop} {v : Value} (hr : (execOp a.eval o).run P W = .ok (.value v) W')
    (h : next (a.put o.dst v) W') : o.wp P a W next Q := by
  unfold Oper.wp; rw [hr]; exact h
theorem wp_skip' {P : Program} {o : Oper} {a : Act} {W W' : World} {next : Act → World → Prop} {Q : Exit → Act → World → Prop} (hr : (execOp a.eval o).run P W = .ok .skip W')
    (h : next (a.put o.dst undef) W') : o.wp P a W next Q := by
  unfold Oper.wp; rw [hr]; exact h
end Vc
end

section
open Go
namespace Vc

/-! ### The table in use -/
theorem TOk.get {P : Program} {t : TypeId} {ti : TInfo} (h : TOk P t ti) :
    ∃ d i z, P.underlying t = some d ∧ descKind d = ti.kind ∧ P.info? t = some i ∧ i.size = ti.size ∧ i.bytes = ti.bytes ∧ i.zero = some z ∧ z.cells.toList = ti.zero := by
  have h1 := h.kind
  have h2 := h.info
  cases hu : P.underlying t with
  | none => simp [hu] at h1
  | some d =>
    cases hi : P.info? t with
    | none => simp [hi] at h2
    | some i =>
      cases hz : i.zero with
      | none => simp [hi, hz] at h2
      | some z =>
        simp [hu] at h1
        simp [hi, hz] at h2
        exact ⟨d, i, z, rfl, h1, rfl, h2.1, h2.2.1, hz, h2.2.2⟩

section
variable {P : Program} {t : TypeId} {ti : TInfo} (h : TOk P t ti) (W : World)
include h
theorem TOk.run_sizeOf : (Go.sizeOf t).run P W = .ok ti.size W := by
  obtain ⟨d, i, z, hu, hk, hi, hs, _⟩ := h.get
  simp [Go.sizeOf, typeInfo, hi, hs]
theorem TOk.run_isAgg : (isAgg t).run P W = .ok ti.kind.isAgg W := by
  obtain ⟨d, i, z, hu, hk, hi, hs, _⟩ := h.get
  rw [← hk]
  cases d <;> simp [isAgg, run_underlying hu, descKind, Kind.isAgg]
theorem TOk.run_zero : ∃ z, (zeroValue t).run P W = .ok z W ∧ z.cells.toList = ti.zero := by
  obtain ⟨d, i, z, hu, hk, hi, hs, hb, hz, hz2⟩ := h.get
  exact ⟨z, by simp [zeroValue, typeInfo, hi, hz], hz2⟩
theorem TOk.struct_ {fs : List (Nat × TypeId)} (hk : ti.kind = .struct fs) : ∃ fs', P.underlying t = some (.struct fs') ∧ fs'.toList.map (fun f => (f.offset, f.type)) = fs := by
  obtain ⟨d, i, z, hu, hk', hi, hs, hb, hz, hz2⟩ := h.get
  rw [hk] at hk'
  cases d <;> simp [descKind] at hk'
  exact ⟨_, hu, hk'⟩
theorem TOk.slice_ {e : TypeId} (hk : ti.kind = .slice e) : P.underlying t = some (.slice e) := by
  obtain ⟨d, i, z, hu, hk', hi, hs, hb, hz, hz2⟩ := h.get
  rw [hk] at hk'
  cases d <;> simp [descKind] at hk'
  rw [hu, hk']
theorem TOk.string_ (hk : ti.kind = .string) : P.underlying t = some .string := by
  obtain ⟨d, i, z, hu, hk', hi, hs, hb, hz, hz2⟩ := h.get
  rw [hk] at hk'
  cases d <;> simp [descKind] at hk'
  rw [hu]
theorem TOk.int_ {k : IntKind} (hk : ti.kind = .int k) : P.underlying t = some (.int k) := by
  obtain ⟨d, i, z, hu, hk', hi, hs, hb, hz, hz2⟩ := h.get
  rw [hk] at hk'
  cases d <;> simp [descKind] at hk'
  rw [hu, hk']
end

/-! ### Loads -/
def mkV (agg : Bool) (cs : List Value) : Option Value :=
  match agg, cs with
  | true, cs => some (.agg cs.toArray)
  | false, [v] => some v
  | _, _ => none
theorem mkAV_con {ρ : Val} {agg : Bool} {ls : List Leaf} {v : AV} (h : mkAV agg ls = some v) : mkV agg (conL ρ ls) = some (v.con ρ) := by
  cases agg with
  | true => simp [mkAV] at h; subst h; simp [mkV, AV.con]
  | false =>
    match ls, h with
    | [l], h => simp [mkAV] at h; subst h; simp [mkV, conL, AV.con]
theorem mkAV_ok {m : Mem} {agg : Bool} {ls : List Leaf} {v : AV} (h : mkAV agg ls = some v) (hl : okL m ls) : v.ok m := by
  cases agg with
  | true => simp [mkAV] at h; subst h; exact hl
  | false =>
    match ls, h with
    | [l], h => simp [mkAV] at h; subst h; exact hl l (by simp)

theorem run_loadAt {P : Program} {t : TypeId} {ti : TInfo} (h : TOk P t ti) (W : World) (a : Addr) (cs : List Value) (hl : cs.length = ti.size) (hc : ∀ j u, cs[j]? = some u → W.cell? (a.add j) = some u) {v : Value}
    (hv : mkV ti.kind.isAgg cs = some v) : (Instr.loadAt t (.pointer (some a))).run P W = .ok v W := by
  simp only [Instr.loadAt, Instr.sureAddr, Sem.run_bind, Sem.run_pure, Result.andThen_ok, loadVar, h.run_isAgg]
  cases hg : ti.kind.isAgg with
  | true =>
    rw [hg] at hv
    simp only [mkV, Option.some.injEq] at hv
    subst hv
    simp only [if_true, Sem.run_bind, h.run_sizeOf, Result.andThen_ok, ← hl, run_loadCells_list W a cs hc, Sem.run_pure]
  | false =>
    rw [hg] at hv
    match cs, hv with
    | [u], hv =>
      simp only [mkV, Option.some.injEq] at hv
      subst hv
      have := hc 0 u rfl
      simp [Addr.add] at this
      simp [this]

theorem WS.box {E : Env} {ρ : Val} {B : Ents} {m : Mem} {W : World} (hW : WS E ρ B m W) {i : Nat} {cells : List Leaf} {t : TypeId} (h : look i B = some (.box cells t)) :
    W.heap[ρ.blk i]? = some (.cells (conL ρ cells).toArray t (0, 0)) ∧ okL m cells := hW.ents i _ h
theorem WS.own {E : Env} {ρ : Val} {B : Ents} {m : Mem} {W : World} (hW : WS E ρ B m W) {i n : Nat} {cells : List Value} {e : TypeId} {size : Nat} (h : look i B = some (.own n cells e size)) :
    OwnRow W e size (ρ.slv i) n cells ∧ ∀ u ∈ cells, u.oneCell' = true := hW.ents i _ h

/-- the cells of an own row, at the address that its slice value names -/
theorem OwnRow.cell {W : World} {e : TypeId} {size : Nat} {v : Value} {n : Nat} {cells : List Value} (h : OwnRow W e size v n cells) (hn : 0 < n) :
    ∃ (g cap : Nat) (cur : Array Value), v = .slice (some ⟨g, 0, none⟩) n (cap + 1) ∧ W.heap[g]? = some (.cells cur e (0, 0)) ∧ n ≤ cap + 1 ∧ cap + 1 ≤ maxLen ∧ cur.size = (cap + 1) * size ∧ cur.toList.take (n * size) = cells ∧
      ∀ (j : Nat) (u : Value), cells[j]? = some u → (cur : Array Value)[j]? = some u := by
  obtain ⟨h1, h2⟩ := h
  rcases h2 with ⟨A, _, h0⟩ | ⟨g, cap, cur, hv, hh, hc1, hc2, hcs, ht⟩
  · omega
  · refine ⟨g, cap, cur, hv, hh, hc1, hc2, hcs, ht, fun j u hu => ?_⟩
    rw [← ht] at hu
    rw [List.getElem?_take] at hu
    split at hu
    · simpa using hu
    · simp at hu

theorem load_sound {E : Env} (hΓ : TypesOk E.P E.Γ) {ρ : Val} {B : Ents} {m : Mem} {F : Fr} {a : Act} {W : World} (hW : WS E ρ B m W) (hF : FS E ρ m F a) {t : TypeId} {ti : TInfo} (ht : look t E.Γ = some ti) {x : Operand} {K : List Leaf → Prop}
    (h : loadLeaves E B m ti.size (ev F x) K) :
    ∃ ls, K ls ∧ okL m ls ∧ ∀ v, mkAV ti.kind.isAgg ls = some v → ls.length = ti.size → (Instr.loadAt t (a.eval x)).run E.P W = .ok (v.con ρ) W := by
  have hT := hΓ t ti ht
  unfold loadLeaves at h
  split at h
  · -- a local block
    rename_i i off hx
    obtain ⟨he, _⟩ := ev_con hF hx
    split at h
    · rename_i cells ty hB
      obtain ⟨hh, hok⟩ := hW.box hB
      rw [takeL_eq, dropL_eq] at h
      refine ⟨_, h, okL_take (okL_drop hok), fun v hv hlen => ?_⟩
      rw [he]
      refine run_loadAt hT W _ (conL ρ ((cells.drop off).take ti.size)) (by simpa [conL] using hlen) (fun j u hu => ?_) (mkAV_con hv)
      rw [addr_add rfl]
      simp only [World.cell?, hh]
      simp only [conL, List.getElem?_map, List.getElem?_take, List.getElem?_drop] at hu
      split at hu
      · simpa [conL] using hu
      · simp at hu
    · exact h.elim
  · rename_i a' cs off hx
    obtain ⟨he, hok⟩ := ev_con hF hx
    rw [takeL_eq, dropL_eq] at h
    have hok' : MemReads m a' cs := hok
    refine ⟨_, h, okL_take (okL_drop (okL_vmap hok'.one)), fun v hv hlen => ?_⟩
    rw [he]
    refine run_loadAt hT W _ (conL ρ (((vmap cs).drop off).take ti.size)) (by simpa [conL] using hlen) (fun j u hu => ?_) (mkAV_con hv)
    have hsp := hok'.1
    simp only [AV.con, Leaf.con] at *
    rw [addr_add hsp, addr_add rfl]
    have h1 : (conL ρ (vmap cs))[off + j]? = some u := by
      simp only [conL, List.getElem?_map, List.getElem?_take, List.getElem?_drop] at hu ⊢
      split at hu
      · exact hu
      · simp at hu
    rw [conL_vmap] at h1
    have := hok'.cell hW _ _ h1
    rw [addr_add hsp] at this
    simpa [Nat.add_assoc] using this
  · rename_i i off hx
    obtain ⟨he, _⟩ := ev_con hF hx
    split at h
    · rename_i n cells e sz hB
      obtain ⟨cs, hcs, hne, h⟩ := h
      obtain ⟨hown, hone⟩ := hW.own hB
      refine ⟨_, h, okL_vmap (fun u hu => hone u (by rw [← hcs] at hu; exact List.mem_of_mem_drop (List.mem_of_mem_take hu))), fun v hv hlen => ?_⟩
      rw [he]
      have hl2 : cs.length = ti.size := by simpa [vmap_eq] using hlen
      by_cases hn : 0 < n
      · obtain ⟨g, cap, cur, hv', hh, _, _, _, _, hcell⟩ := OwnRow.cell hown hn
        have hs1 : (ρ.sl i).1 = some ⟨g, 0, none⟩ := by simp [Val.slv] at hv'; exact hv'.1
        simp only [AV.con, Leaf.con, hs1, Option.map_some]
        refine run_loadAt hT W _ cs hl2 (fun j u hu => ?_) (by have := mkAV_con (ρ := ρ) hv; rwa [conL_vmap] at this)
        have e1 : Addr.add ⟨g, 0, none⟩ off = ⟨g, 0 + off, none⟩ := addr_add rfl off
        rw [e1, addr_add rfl]
        simp only [World.cell?, hh]
        have : cells[off + j]? = some u := by
          rw [← hcs, List.getElem?_take, List.getElem?_drop] at hu
          split at hu
          · exact hu
          · simp at hu
        simpa using hcell _ _ this
      · -- no cell at all: nothing can be loaded
        exfalso
        have h0 : n = 0 := by omega
        have hce : cells = [] := List.eq_nil_of_length_eq_zero (by rw [hown.1, h0]; simp)
        exact hne (by rw [← hcs, hce]; simp)
    · exact h.elim
  · rename_i A hx
    obtain ⟨he, _⟩ := ev_con hF hx
    obtain ⟨cs, ⟨a', hA, hok⟩, h⟩ := h
    subst hA
    rw [takeL_eq] at h
    refine ⟨_, h, okL_take (okL_vmap hok.one), fun v hv hlen => ?_⟩
    rw [he]
    refine run_loadAt hT W _ (conL ρ ((vmap cs).take ti.size)) (by simpa [conL] using hlen) (fun j u hu => ?_) (mkAV_con hv)
    have h1 : (conL ρ (vmap cs))[j]? = some u := by
      simp only [conL, List.getElem?_map, List.getElem?_take] at hu ⊢
      split at hu
      · exact hu
      · simp at hu
    rw [conL_vmap] at h1
    exact hok.cell hW _ _ h1
  · exact h.elim
end Vc
end

section
open Go
namespace Vc

/-! ### A name that stands nowhere -/
def Val.setBlk (ρ : Val) (k b : Nat) : Val := { ρ with blk := fun i => if i = k then b else ρ.blk i }
def Val.setSl (ρ : Val) (k : Nat) (s : Option Addr × Nat × Nat) : Val := { ρ with sl := fun i => if i = k then s else ρ.sl i }
/-- two valuations agree but at k -/
def AgreeBut (k : Nat) (ρ ρ' : Val) : Prop := ∀ i, i ≠ k → ρ'.blk i = ρ.blk i ∧ ρ'.sl i = ρ.sl i
theorem AgreeBut.blk (ρ : Val) (k b : Nat) : AgreeBut k ρ (ρ.setBlk k b) := fun i h => ⟨by simp [Val.setBlk, h], rfl⟩
theorem AgreeBut.sl (ρ : Val) (k : Nat) (s : Option Addr × Nat × Nat) : AgreeBut k ρ (ρ.setSl k s) := fun i h => ⟨rfl, by simp [Val.setSl, h]⟩

theorem beq_no {i k : Nat} (h : (match Nat.beq i k with | true => false | false => true) = true) : i ≠ k := by
  rintro rfl
  simp at h

section
variable {k : Nat} {ρ ρ' : Val} (hρ : AgreeBut k ρ ρ')
include hρ
theorem capNo_con {c : Cap} (h : capNo k c = true) : c.con ρ' = c.con ρ := by
  cases c with
  | v x => rfl
  | ptr i off => simp [Cap.con, (hρ i (beq_no h)).1]
theorem capsNo_con {l : List Cap} (h : capsNo k l = true) : l.map (Cap.con ρ') = l.map (Cap.con ρ) := by
  induction l with
  | nil => rfl
  | cons c r ih =>
    simp only [capsNo] at h
    cases hc : capNo k c with
    | true => rw [hc] at h; simp [capNo_con hρ hc, ih h]
    | false => rw [hc] at h; simp at h
theorem leafNo_con {l : Leaf} (h : leafNo k l = true) : l.con ρ' = l.con ρ := by
  cases l with
  | v x => rfl
  | ptr i off => simp [Leaf.con, (hρ i (beq_no h)).1]
  | own i => simp [Leaf.con, Val.slv, (hρ i (beq_no h)).2]
  | optr i off => simp [Leaf.con, (hρ i (beq_no h)).2]
  | rd a cs off => rfl
  | fn f caps => simp only [Leaf.con, capsNo_con hρ h]
  | kb b => rfl
theorem leavesNo_con {l : List Leaf} (h : leavesNo k l = true) : conL ρ' l = conL ρ l := by
  induction l with
  | nil => rfl
  | cons c r ih =>
    simp only [leavesNo] at h
    cases hc : leafNo k c with
    | true =>
      rw [hc] at h
      have := ih h
      simp only [conL, List.map_cons] at *
      rw [leafNo_con hρ hc, this]
    | false => rw [hc] at h; simp at h
theorem partsNo_con {l : List (Bool × List Leaf)} (h : partsNo k l = true) : l.map (partCon ρ') = l.map (partCon ρ) := by
  induction l with
  | nil => rfl
  | cons c r ih =>
    simp only [partsNo] at h
    cases hc : leavesNo k c.2 with
    | true =>
      rw [hc] at h
      have h1 := leavesNo_con hρ hc
      have : partCon ρ' c = partCon ρ c := by
        obtain ⟨b, ls⟩ := c
        match b, ls, h1 with
        | true, ls, h1 => simp [partCon, h1]
        | false, [l], h1 => simpa [partCon, conL] using h1
        | false, [], h1 => simp [partCon, conL]
        | false, l :: l' :: r, h1 => simp only [partCon, h1]
      simp [this, ih h]
    | false => rw [hc] at h; simp at h
theorem avNo_con {v : AV} (h : avNo k v = true) : v.con ρ' = v.con ρ := by
  cases v with
  | one l => exact leafNo_con hρ h
  | agg ls => simp only [AV.con, leavesNo_con hρ h]
  | tup vs => simp only [AV.con, partsNo_con hρ h]
  | bad => rfl
theorem frNo_con {F : Fr} (h : frNo k F = true) : ∀ t x, look t F = some x → x.con ρ' = x.con ρ := by
  induction F with
  | nil => intro t x hx; cases hx
  | cons c r ih =>
    simp only [frNo] at h
    cases hc : avNo k c.2 with
    | true =>
      rw [hc] at h
      intro t x hx
      obtain ⟨d, v⟩ := c
      simp only [look] at hx
      cases hb : Nat.beq t d with
      | true => rw [hb] at hx; simp at hx; subst hx; exact avNo_con hρ hc
      | false => rw [hb] at hx; exact ih h t x hx
    | false => rw [hc] at h; simp at h
theorem entsNo_spec {B : Ents} (h : entsNo k B = true) : ∀ i e, look i B = some e → i ≠ k ∧ (∀ cells t, e = .box cells t → conL ρ' cells = conL ρ cells) := by
  induction B with
  | nil => intro i e he; cases he
  | cons c r ih =>
    obtain ⟨j, e'⟩ := c
    simp only [entsNo] at h
    intro i e he
    cases hj : Nat.beq j k with
    | true => rw [hj] at h; simp at h
    | false =>
      rw [hj] at h
      simp only [look] at he
      have hr : entsNo k r = true := by
        cases e' with
        | box cells t =>
          simp only at h
          cases hl : leavesNo k cells with
          | true => rw [hl] at h; exact h
          | false => rw [hl] at h; simp at h
        | own n cells e sz => exact h
      cases hb : Nat.beq i j with
      | true =>
        rw [hb] at he
        simp at he
        subst he
        have hij := Nat.eq_of_beq_eq_true hb
        subst hij
        refine ⟨fun hik => by subst hik; simp at hj, fun cells t hcl => ?_⟩
        subst hcl
        simp only at h
        cases hl : leavesNo k cells with
        | true => exact leavesNo_con hρ hl
        | false => rw [hl] at h; simp at h
      | false => rw [hb] at he; exact ih hr i e he
end

theorem newName_spec {k : Nat} {F : Fr} {B : Ents} (h : newName k F B = true) : frNo k F = true ∧ entsNo k B = true := by
  unfold newName at h
  cases hf : frNo k F with
  | true => rw [hf] at h; exact ⟨rfl, h⟩
  | false => rw [hf] at h; simp at h

/-! ### The world part behind a change of the valuation at a new name -/
theorem OwnRow.block_lt {W : World} {e : TypeId} {size : Nat} {v : Value} {n : Nat} {cells : List Value} (h : OwnRow W e size v n cells) {b : Nat} (hb : rowBlock v = some b) : ∃ cur, W.heap[b]? = some (.cells cur e (0, 0)) := by
  obtain ⟨_, h2⟩ := h
  rcases h2 with ⟨A, rfl, _⟩ | ⟨g, cap, cur, rfl, hh, _⟩
  · cases A <;> simp [rowBlock] at hb
  · simp [rowBlock] at hb; subst hb; exact ⟨_, hh⟩
theorem OwnRow.same {W W' : World} {e : TypeId} {size : Nat} {v : Value} {n : Nat} {cells : List Value} (h : OwnRow W e size v n cells) (hb : ∀ b, rowBlock v = some b → W'.heap[b]? = W.heap[b]?) : OwnRow W' e size v n cells := by
  obtain ⟨h1, h2⟩ := h
  refine ⟨h1, ?_⟩
  rcases h2 with h2 | ⟨g, cap, cur, rfl, hh, r⟩
  · exact .inl h2
  · exact .inr ⟨g, cap, cur, rfl, (hb g rfl).trans hh, r⟩
theorem Ent.sat_lt {ρ : Val} {m : Mem} {W : World} {i b : Nat} {e : Ent} (h : e.sat ρ m W i) (hb : e.block ρ i = some b) : ∃ c t, W.heap[b]? = some (.cells c t (0, 0)) := by
  cases e with
  | box cells t => simp [Ent.block] at hb; subst hb; exact ⟨_, _, h.1⟩
  | own n cells e sz => obtain ⟨cur, hc⟩ := OwnRow.block_lt h.1 hb; exact ⟨_, _, hc⟩
/-- an entry goes on as long as its block does and the names in it say the same -/
theorem Ent.sat_same {ρ ρ' : Val} {m m' : Mem} {W W' : World} {i : Nat} {e : Ent} (h : e.sat ρ m W i) (hm : m.le m') (hi : ρ'.blk i = ρ.blk i ∧ ρ'.sl i = ρ.sl i)
    (hc : ∀ cells t, e = .box cells t → conL ρ' cells = conL ρ cells) (hb : ∀ b, e.block ρ i = some b → W'.heap[b]? = W.heap[b]?) : e.sat ρ' m' W' i := by
  cases e with
  | box cells t =>
    refine ⟨?_, okL_mono h.2 hm⟩
    rw [hi.1, hb _ rfl, hc cells t rfl]
    exact h.1
  | own n cells e sz =>
    refine ⟨?_, h.2⟩
    have : ρ'.slv i = ρ.slv i := by simp [Val.slv, hi.2]
    rw [this]
    exact OwnRow.same h.1 hb
theorem Ent.block_same {ρ ρ' : Val} {i : Nat} {e : Ent} (hi : ρ'.blk i = ρ.blk i ∧ ρ'.sl i = ρ.sl i) : e.block ρ' i = e.block ρ i := by
  cases e <;> simp [Ent.block, hi.1, Val.slv, hi.2]

theorem lt_of_heap {W : World} {b : Nat} {o : Obj} (h : W.heap[b]? = some o) : b < W.heap.size := by
  rcases Nat.lt_or_ge b W.heap.size with h' | h'
  · exact h'
  · rw [Array.getElem?_eq_none h'] at h; cases h

theorem WS.block_lt {E : Env} {ρ : Val} {B : Ents} {m : Mem} {W : World} (hW : WS E ρ B m W) {i b : Nat} (h : blockOf ρ B i = some b) : b < W.heap.size := by
  unfold blockOf at h
  cases he : look i B with
  | none => rw [he] at h; cases h
  | some e =>
    rw [he] at h
    obtain ⟨c, t, hc⟩ := Ent.sat_lt (hW.ents i e he) h
    exact lt_of_heap hc

/-- A new entry under a new name k, whose block is new (or that has none); all else is as it was. -/
theorem WS.add {E : Env} {ρ ρ' : Val} {B : Ents} {m : Mem} {W W' : World} (hW : WS E ρ B m W) {k : Nat} (hρ : AgreeBut k ρ ρ') (hn : entsNo k B = true) {e : Ent}
    (he : e.sat ρ' m W' k) (hb : ∀ b, e.block ρ' k = some b → W.heap.size ≤ b)
    (hos : W'.os = W.os) (htape : W'.tape = W.tape) (hout : W'.output = W.output) (hsz : W.heap.size ≤ W'.heap.size) (hold : ∀ j, j < W.heap.size → W'.heap[j]? = W.heap[j]?) (hpin : ∀ p ∈ E.pins, ρ'.blk p.1 = ρ.blk p.1) :
    WS E ρ' ((k, e) :: B) m W' := by
  have hsp := entsNo_spec hρ hn
  have hblk : ∀ i, i ≠ k → blockOf ρ' ((k, e) :: B) i = blockOf ρ B i := by
    intro i hi
    unfold blockOf
    rw [look_cons_ne _ _ hi]
    cases hl : look i B with
    | none => rfl
    | some e' => simpa using Ent.block_same (hρ i hi)
  have hblkk : blockOf ρ' ((k, e) :: B) k = e.block ρ' k := by unfold blockOf; rw [look_cons_eq]; rfl
  refine ⟨?_, ?_, ?_, ?_, hW.le, hW.new, hos.trans hW.os, htape.trans hW.tape, hout.trans hW.output, Nat.le_trans hW.size hsz, ?_, fun p hp => (hpin p hp).trans (hW.pin p hp)⟩
  · intro i e' hi
    by_cases hik : i = k
    · subst hik
      rw [look_cons_eq] at hi
      simp at hi
      subst hi
      exact he
    · rw [look_cons_ne _ _ hik] at hi
      refine Ent.sat_same (hW.ents i e' hi) (fun _ _ h => h) (hρ i hik) (hsp i e' hi).2 (fun b hbb => hold b ?_)
      exact hW.block_lt (i := i) (by unfold blockOf; rw [hi]; exact hbb)
  · intro i b hib
    by_cases hik : i = k
    · subst hik
      rw [hblkk] at hib
      have hge := hb b hib
      refine ⟨?_, .inl (Nat.le_trans hW.size hge)⟩
      cases hm : m b with
      | none => rfl
      | some o => have := lt_of_heap (hW.mem b o hm); omega
    · rw [hblk i hik] at hib
      exact hW.fresh i b hib
  · intro i j b hij hi hj
    by_cases hik : i = k
    · subst hik
      rw [hblkk] at hi
      rw [hblk j (Ne.symm hij)] at hj
      have := hb b hi
      have := hW.block_lt hj
      omega
    · rw [hblk i hik] at hi
      by_cases hjk : j = k
      · subst hjk
        rw [hblkk] at hj
        have := hb b hj
        have := hW.block_lt hi
        omega
      · rw [hblk j hjk] at hj
        exact hW.inj i j b hij hi hj
  · intro b o hbo
    have h1 := hW.mem b o hbo
    rw [hold b (lt_of_heap h1)]
    exact h1
  · intro j hj hl
    rw [hold j (Nat.lt_of_lt_of_le hj hW.size)]
    exact hW.old j hj hl

theorem FS.agree {E : Env} {ρ ρ' : Val} {m : Mem} {F : Fr} {a : Act} (hF : FS E ρ m F a) (h : ∀ t x, look t F = some x → x.con ρ' = x.con ρ) : FS E ρ' m F a :=
  ⟨hF.size, fun d v hd => by rw [h d v hd]; exact hF.vals d v hd, hF.defers⟩

theorem heap_alloc_old (W : World) (o : Obj) (j : Nat) (h : j < W.heap.size) : (W.alloc o).heap[j]? = W.heap[j]? := Go.RowKit.Below.heap_alloc W o j h
theorem heap_alloc_new' (W : World) (o : Obj) : (W.alloc o).heap[W.heap.size]? = some o := by show (W.heap.push o)[_]? = _; simp

theorem pinNo_spec {d x : Nat} {ρ : Val} {l : List (Nat × Nat)} (h : pinNo d l = true) : ∀ p ∈ l, (ρ.setBlk d x).blk p.1 = ρ.blk p.1 := by
  induction l with
  | nil => intro p hp; cases hp
  | cons q r ih =>
    simp only [pinNo] at h
    cases hb : Nat.beq q.1 d with
    | true => rw [hb] at h; cases h
    | false =>
      rw [hb] at h
      intro p hp
      rcases List.mem_cons.1 hp with rfl | hp
      · have : p.1 ≠ d := by rintro he; rw [he] at hb; simp at hb
        simp [Val.setBlk, this]
      · exact ih h p hp

/-- alloc, box -/
theorem alloc_sound {E : Env} {ρ : Val} {B : Ents} {m : Mem} {F : Fr} {a : Act} {W : World} (hW : WS E ρ B m W) (hF : FS E ρ m F a) {d : Nat} {t : TypeId} {ls : List Leaf} {K : Cont}
    (hd : Nat.blt d E.N = true) (hn : newName d F B = true) (hp : pinNo d E.pins = true) (hno : leavesNo d ls = true) (hok : okL m ls) (h : K ((d, .one (.ptr d 0)) :: F) ((d, .box ls t) :: B) m) :
    Post E K (a.put (some d) (.pointer (some ⟨W.heap.size, 0, none⟩))) (W.alloc (.cells (conL ρ ls).toArray t)) := by
  obtain ⟨hf, hB⟩ := newName_spec hn
  have hρ := AgreeBut.blk ρ d W.heap.size
  have hb : (ρ.setBlk d W.heap.size).blk d = W.heap.size := by simp [Val.setBlk]
  refine ⟨ρ.setBlk d W.heap.size, _, _, m, h, hW.add hρ hB ?_ ?_ rfl rfl rfl (by show _ ≤ (W.heap.push _).size; simp) (heap_alloc_old W _) (pinNo_spec hp), ?_⟩
  · refine ⟨?_, hok⟩
    rw [hb, leavesNo_con hρ hno]
    exact heap_alloc_new' W _
  · intro b hbb
    simp [Ent.block, hb] at hbb
    omega
  · have := (hF.agree (frNo_con hρ hf)).put (d := d) (v := .one (.ptr d 0)) hd trivial
    simpa [AV.con, Leaf.con, hb] using this
end Vc
end

section
open Go
namespace Vc

/-! ### A block written anew -/
def setBlock (W : World) (g : Nat) (o : Obj) : World := { W with heap := W.heap.setIfInBounds g o }
theorem setBlock_same (W : World) (g : Nat) (o : Obj) (h : g < W.heap.size) : (setBlock W g o).heap[g]? = some o := by simp [setBlock, h]
theorem setBlock_other (W : World) (g j : Nat) (o : Obj) (h : j ≠ g) : (setBlock W g o).heap[j]? = W.heap[j]? := by
  simp [setBlock, Array.getElem?_setIfInBounds_ne (Ne.symm h)]
theorem setBlock_self (W : World) (g : Nat) (o : Obj) (h : W.heap[g]? = some o) : setBlock W g o = W := by
  unfold setBlock
  have hlt := lt_of_heap h
  have : W.heap.setIfInBounds g o = W.heap := by
    apply Array.ext_getElem?
    intro i
    by_cases hi : i = g
    · subst hi; simp [hlt]; rw [Array.getElem?_eq_getElem hlt] at h; simpa using h.symm
    · simp [Array.getElem?_setIfInBounds_ne (Ne.symm hi)]
  rw [this]
theorem setBlock_setBlock (W : World) (g : Nat) (o o' : Obj) : setBlock (setBlock W g o) g o' = setBlock W g o' := by
  simp [setBlock]

/-- the cells from off on replaced -/
def spliceV (off : Nat) (vs l : List Value) : List Value := l.take off ++ vs ++ l.drop (off + vs.length)
theorem spliceV_length (off : Nat) (vs l : List Value) (h : off + vs.length ≤ l.length) : (spliceV off vs l).length = l.length := by simp [spliceV]; omega

theorem run_storeCells {P : Program} (vs : List Value) : ∀ (W : World) (g : Nat) (t : TypeId) (c : List Value) (off i : Nat), W.heap[g]? = some (.cells c.toArray t (0, 0)) → off + i + vs.length ≤ c.length → (∀ u ∈ vs, u.oneCell' = true) →
    (storeCells ⟨g, off, none⟩ vs i).run P W = .ok () (setBlock W g (.cells (spliceV (off + i) vs c).toArray t (0, 0))) := by
  induction vs with
  | nil =>
    intro W g t c off i hh hl _
    simp only [storeCells, Sem.run_pure]
    rw [setBlock_self]
    simpa [spliceV] using hh
  | cons v vs ih =>
    intro W g t c off i hh hl hv
    have hlt : off + i < c.length := by simp at hl; omega
    have ha : Addr.add ⟨g, off, none⟩ i = ⟨g, off + i, none⟩ := addr_add rfl i
    have hcell : W.cell? ⟨g, off + i, none⟩ = some c[off + i] := by simp [World.cell?, hh, hlt]
    have hfr : W.frozen? ⟨g, off + i, none⟩ = false := by simp [World.frozen?, hh]
    have hset : W.setCell ⟨g, off + i, none⟩ v = setBlock W g (.cells (c.set (off + i) v).toArray t (0, 0)) := by
      have hg := lt_of_heap hh
      have hh' : W.heap[g] = .cells c.toArray t (0, 0) := by rw [Array.getElem?_eq_getElem hg] at hh; simpa using hh
      unfold World.setCell setBlock
      congr 1
      apply Array.ext_getElem?
      intro j
      by_cases hj : j = g
      · subst hj
        rw [Array.getElem?_modify, if_pos rfl, hh]
        simp [hg]
      · simp [Array.getElem?_modify, Array.getElem?_setIfInBounds_ne (Ne.symm hj), hj]
        intro h'; exact absurd h'.symm hj
    simp only [storeCells, Sem.run_bind, ha]
    rw [run_store P W _ v _ (hv v (by simp)), hcell]
    simp only [hfr, Bool.false_eq_true, if_false, Result.andThen_ok, hset]
    have hg := lt_of_heap hh
    rw [ih (setBlock W g (.cells (c.set (off + i) v).toArray t (0, 0))) g t (c.set (off + i) v) off (i + 1) (setBlock_same _ _ _ hg) (by simp at hl ⊢; omega) (fun u hu => hv u (by simp [hu]))]
    rw [setBlock_setBlock]
    congr 4
    simp only [spliceV]
    apply List.ext_getElem?
    intro j
    simp only [List.length_cons] at hl
    by_cases h1 : j < off + i
    · rw [List.getElem?_append_left (by simp; omega), List.getElem?_append_left (by simp; omega), List.getElem?_append_left (by simp; omega), List.getElem?_append_left (by simp; omega)]
      rw [List.getElem?_take_of_lt (by omega), List.getElem?_take_of_lt (by omega), List.getElem?_set_ne (by omega)]
    · by_cases h2 : j = off + i
      · subst h2
        rw [List.getElem?_append_left (by simp; omega), List.getElem?_append_left (by simp; omega)]
        rw [List.getElem?_take_of_lt (by omega), List.getElem?_set_self (by omega)]
        rw [List.getElem?_append_left (by simp; omega), List.getElem?_append_right (by simp; omega)]
        have e : off + i - (c.take (off + i)).length = 0 := by simp; omega
        rw [e]; rfl
      · by_cases h3 : j < off + i + 1 + vs.length
        · rw [List.getElem?_append_left (by simp; omega), List.getElem?_append_right (by simp; omega)]
          rw [List.getElem?_append_left (by simp; omega), List.getElem?_append_right (by simp; omega)]
          simp only [List.length_take, List.length_set]
          have e1 : j - min (off + (i + 1)) c.length = j - (off + i + 1) := by omega
          have e2 : j - min (off + i) c.length = (j - (off + i + 1)) + 1 := by omega
          rw [e1, e2, List.getElem?_cons_succ]
        · rw [List.getElem?_append_right (by simp; omega), List.getElem?_append_right (by simp; omega)]
          simp only [List.length_append, List.length_take, List.length_set, List.length_cons, List.getElem?_drop]
          rw [List.getElem?_set_ne (by omega)]
          congr 1
          omega

theorem run_storeAt {P : Program} {t : TypeId} {ti : TInfo} (h : TOk P t ti) (W : World) (g off : Nat) (ty : TypeId) (c : List Value) (hh : W.heap[g]? = some (.cells c.toArray ty (0, 0))) (v : Value) (hv : v.cells.size = ti.size)
    (hl : off + v.cells.toList.length ≤ c.length) (h1 : ∀ u ∈ v.cells.toList, u.oneCell' = true) :
    (Instr.storeAt t (.pointer (some ⟨g, off, none⟩)) v).run P W = .ok () (setBlock W g (.cells (spliceV off v.cells.toList c).toArray ty (0, 0))) := by
  simp only [Instr.storeAt, Instr.sureAddr, Sem.run_bind, Sem.run_pure, Result.andThen_ok, storeVar, h.run_sizeOf, hv]
  simp only [ne_eq, not_true_eq_false, if_false]
  have := run_storeCells (P := P) v.cells.toList W g ty c off 0 hh (by simpa using hl) h1
  simpa using this

/-- An entry's block is written anew; the entry says what it holds now. -/
theorem WS.write {E : Env} {ρ : Val} {B : Ents} {m : Mem} {W : World} (hW : WS E ρ B m W) {i g : Nat} {e e' : Ent} {o : Obj} (he : look i B = some e) (hg : e.block ρ i = some g) (hg' : e'.block ρ i = some g)
    (hs : e'.sat ρ m (setBlock W g o) i) : WS E ρ ((i, e') :: B) m (setBlock W g o) := by
  have hbi : blockOf ρ B i = some g := by unfold blockOf; rw [he]; exact hg
  have hblk : ∀ j, blockOf ρ ((i, e') :: B) j = blockOf ρ B j := by
    intro j
    by_cases hj : j = i
    · subst hj; rw [hbi]; unfold blockOf; rw [look_cons_eq]; exact hg'
    · unfold blockOf; rw [look_cons_ne _ _ hj]
  have hsize : (setBlock W g o).heap.size = W.heap.size := by simp [setBlock]
  refine ⟨?_, ?_, ?_, ?_, hW.le, hW.new, hW.os, hW.tape, hW.output, by rw [hsize]; exact hW.size, ?_, hW.pin⟩
  · intro j e1 hj
    by_cases hji : j = i
    · subst hji
      rw [look_cons_eq] at hj
      simp at hj
      subst hj
      exact hs
    · rw [look_cons_ne _ _ hji] at hj
      refine Ent.sat_same (hW.ents j e1 hj) (fun _ _ h => h) ⟨rfl, rfl⟩ (fun _ _ _ => rfl) (fun b hb => setBlock_other _ _ _ _ ?_)
      rintro rfl
      exact hW.inj j i _ hji (by unfold blockOf; rw [hj]; exact hb) hbi
  · intro j b hj
    rw [hblk] at hj
    exact hW.fresh j b hj
  · intro j k b hjk hj
    rw [hblk] at hj ⊢
    exact hW.inj j k b hjk hj
  · intro b o' hb
    rw [setBlock_other _ _ _ _ (by rintro rfl; have := (hW.fresh i _ hbi).1; rw [this] at hb; cases hb)]
    exact hW.mem b o' hb
  · intro k hk hl
    rw [setBlock_other _ _ _ _ ?_]
    · exact hW.old k hk hl
    · rintro rfl
      rcases (hW.fresh i _ hbi).2 with h | h
      · omega
      · exact hl h

theorem FS.ents_irrel {E : Env} {ρ : Val} {m : Mem} {F : Fr} {a : Act} (h : FS E ρ m F a) : FS E ρ m F (a.put none undef) := h

theorem vals?_con {ρ : Val} {l : List Leaf} {us : List Value} (h : vals? l = some us) : conL ρ l = us := by
  induction l generalizing us with
  | nil => simp [vals?] at h; subst h; rfl
  | cons x r ih =>
    cases x with
    | v y =>
      simp only [vals?] at h
      split at h
      · rename_i xs hr; simp at h; subst h; simp [conL, Leaf.con]; exact ih hr
      · simp at h
    | kb b =>
      simp only [vals?] at h
      split at h
      · rename_i xs hr; simp at h; subst h; simp [conL, Leaf.con]; exact ih hr
      · simp at h
    | rd a cs o =>
      simp only [vals?] at h
      split at h
      · rename_i xs hr; simp at h; subst h; simp [conL, Leaf.con]; exact ih hr
      · simp at h
    | _ => simp [vals?] at h

theorem cells_one {u : Value} (h : u.oneCell' = true) : u.cells = #[u] := by
  cases u <;> first | rfl | (simp [Value.oneCell'] at h)
theorem cells_av {m : Mem} {ρ : Val} {v : AV} {vs : List Leaf} (h : leaves? v = some vs) (hok : v.ok m) : (v.con ρ).cells.toList = conL ρ vs ∧ okL m vs := by
  cases v with
  | one l =>
    simp only [leaves?, Option.some.injEq] at h
    subst h
    have h1 := Leaf.con_one (ρ := ρ) (m := m) hok
    refine ⟨?_, fun x hx => by simp at hx; subst hx; exact hok⟩
    simp only [AV.con]
    rw [cells_one h1]
    rfl
  | agg ls =>
    simp only [leaves?, Option.some.injEq] at h
    subst h
    exact ⟨by simp [AV.con, Value.cells], hok⟩
  | tup vs => simp [leaves?] at h
  | bad => simp [leaves?] at h
end Vc
end

section
open Go
namespace Vc

/-! ### append -/
/-- the cells that a slice value shows -/
def Shows (W : World) (A : Option Addr) (news : List Value) : Prop := news ≠ [] → ∃ a, A = some a ∧ ∀ j u, news[j]? = some u → W.cell? (a.add j) = some u

theorem run_firstCells {P : Program} {W : World} {size n c : Nat} {A : Option Addr} {news : List Value} (hl : news.length = n * size) (h : Shows W A news) :
    (Builtin.firstCells size n (.slice A n c)).run P W = .ok news.toArray W := by
  cases A with
  | none =>
    have : news = [] := by
      cases news with
      | nil => rfl
      | cons x r => obtain ⟨a, ha, _⟩ := h (by simp); cases ha
    subst this
    simp [Builtin.firstCells]
  | some a =>
    simp only [Builtin.firstCells, ← hl]
    refine run_loadCells_list W a news (fun j v hj => ?_)
    obtain ⟨a', ha, hc⟩ := h (by rintro rfl; simp at hj)
    cases ha
    exact hc j v hj

def appendWorld (W : World) (e : TypeId) (need old : Nat) (zero : Array Value) (cs : List Value) : World :=
  W.drew.alloc (.cells (cs.toArray ++ Builtin.zeroCells zero (grownCap W need old e - need)) e)

theorem nextslicecap_le {need cap bytes : Nat} (h : cap < need) (hb : need * bytes ≤ 140737488355328) : ¬ Builtin.nextslicecap need cap * bytes > 2 ^ 48 := by
  have := Go.growslice_fits (by omega : cap < need) hb
  omega

theorem run_append_grow' {P : Program} {t t2 e e2 ty : TypeId} {ti ti2 te : TInfo} (hT : TOk P t ti) (hTk : ti.kind = .slice e) (hT2 : TOk P t2 ti2) (hT2k : ti2.kind = .slice e2) (hE : TOk P e te)
    (W : World) (base A : Option Addr) (sLen sCap n c : Nat) (old news : List Value) (hol : old.length = sLen * te.size) (hos : Shows W base old) (hnl : news.length = n * te.size) (hns : Shows W A news)
    (hgrow : sCap < sLen + n) (h63 : sLen + n ≤ maxLen) (hbytes : (sLen + n) * te.bytes ≤ 140737488355328) :
    ∃ z : Array Value, z.toList = te.zero ∧ (Builtin.append_ #[t, t2] ty #[.slice base sLen sCap, .slice A n c]).run P W =
      .ok (.slice (some ⟨W.heap.size, 0, none⟩) (sLen + n) (grownCap W (sLen + n) sCap e)) (appendWorld W e (sLen + n) sCap z (old ++ news)) := by
  have hu := hT.slice_ hTk
  have hu2 := hT2.slice_ hT2k
  obtain ⟨d, i, z, hue, hk, hi, hs, hb, hz, hz2⟩ := hE.get
  have h63' : ¬ (9223372036854775807 < ((sLen : Int) + (n : Int))) := by simp only [maxLen] at h63; omega
  have hcap := nextslicecap_le hgrow hbytes
  rw [← hb] at hcap
  have hcap' : ¬ (281474976710656 < Builtin.nextslicecap (sLen + n) sCap * i.bytes) := by omega
  have hf1 := run_firstCells (P := P) (W := W.drew) (size := i.size) (n := sLen) (c := sCap) (A := base) (news := old) (by rw [hs]; exact hol) hos
  have hf2 := run_firstCells (P := P) (W := W.drew) (size := i.size) (n := n) (c := c) (A := A) (news := news) (by rw [hs]; exact hnl) hns
  have hroom : ¬ (sLen + n ≤ sCap) := by omega
  refine ⟨z.cells, hz2, ?_⟩
  simp [Builtin.append_, run_underlying hu, run_underlying hu2, Go.sizeOf, typeInfo, zeroValue, hi, hz, Builtin.lenOf, hroom, h63', hcap', Question.forced, hf1, hf2, newRow, grownCap, appendWorld]
  congr 2
  apply Array.ext'
  simp [List.append_assoc]

theorem run_append_room' {P : Program} {t t2 e e2 ty : TypeId} {ti ti2 te : TInfo} (hT : TOk P t ti) (hTk : ti.kind = .slice e) (hT2 : TOk P t2 ti2) (hT2k : ti2.kind = .slice e2) (hE : TOk P e te)
    (W : World) (g : Nat) (A : Option Addr) (sLen sCap n c : Nat) (cur news : List Value) (hg : W.heap[g]? = some (.cells cur.toArray e (0, 0))) (hnl : news.length = n * te.size) (hns : Shows W A news)
    (h1 : ∀ u ∈ news, u.oneCell' = true) (hroom : sLen + n ≤ sCap) (hfit : sLen * te.size + news.length ≤ cur.length) :
    (Builtin.append_ #[t, t2] ty #[.slice (some ⟨g, 0, none⟩) sLen sCap, .slice A n c]).run P W =
      .ok (.slice (some ⟨g, 0, none⟩) (sLen + n) sCap) (setBlock W g (.cells (spliceV (sLen * te.size) news cur).toArray e (0, 0))) := by
  have hu := hT.slice_ hTk
  have hu2 := hT2.slice_ hT2k
  obtain ⟨d, i, z, hue, hk, hi, hs, hb, hz, hz2⟩ := hE.get
  have hf2 := run_firstCells (P := P) (W := W) (size := i.size) (n := n) (c := c) (A := A) (news := news) (by rw [hs]; exact hnl) hns
  have hst := run_storeCells (P := P) news W g e cur (sLen * i.size) 0 hg (by rw [hs]; simpa using hfit) h1
  have hadd : Addr.add ⟨g, 0, none⟩ (sLen * i.size) = ⟨g, sLen * i.size, none⟩ := by rw [addr_add rfl]; simp
  rw [hs] at hf2 hst hadd
  simp [Builtin.append_, run_underlying hu, run_underlying hu2, Go.sizeOf, typeInfo, hi, Builtin.lenOf, hroom, hf2, hadd, hst, hs]

theorem run_append_none' {P : Program} {t t2 e e2 ty : TypeId} {ti ti2 te : TInfo} (hT : TOk P t ti) (hTk : ti.kind = .slice e) (hT2 : TOk P t2 ti2) (hT2k : ti2.kind = .slice e2) (hE : TOk P e te)
    (W : World) (base A : Option Addr) (sLen sCap c : Nat) (h : sLen ≤ sCap) :
    (Builtin.append_ #[t, t2] ty #[.slice base sLen sCap, .slice A 0 c]).run P W = .ok (.slice base sLen sCap) W := by
  have hu := hT.slice_ hTk
  have hu2 := hT2.slice_ hT2k
  obtain ⟨d, i, z, hue, hk, hi, hs, hb, hz, hz2⟩ := hE.get
  have hf2 := run_firstCells (P := P) (W := W) (size := i.size) (n := 0) (c := c) (A := A) (news := []) (by simp) (fun h => absurd rfl h)
  simp [Builtin.append_, run_underlying hu, run_underlying hu2, Go.sizeOf, typeInfo, hi, Builtin.lenOf, h, hf2]
  cases base <;> simp [storeCells]

/-- What append leaves of the world: old blocks but the row's own are as they were. -/
structure Grew (W W' : World) (row : Option Nat) : Prop where
  os : W'.os = W.os
  tape : W'.tape = W.tape
  output : W'.output = W.output
  size : W.heap.size ≤ W'.heap.size
  old : ∀ j, j < W.heap.size → some j ≠ row → W'.heap[j]? = W.heap[j]?

theorem append_own {P : Program} {t t2 e e2 ty : TypeId} {ti ti2 te : TInfo} (hT : TOk P t ti) (hTk : ti.kind = .slice e) (hT2 : TOk P t2 ti2) (hT2k : ti2.kind = .slice e2) (hE : TOk P e te)
    (W : World) (v : Value) (m : Nat) (old : List Value) (hown : OwnRow W e te.size v m old) (A : Option Addr) (n c : Nat) (news : List Value) (hnl : news.length = n * te.size) (hns : Shows W A news)
    (h1 : ∀ u ∈ news, u.oneCell' = true) (h63 : m + n ≤ maxLen) (hbytes : (m + n) * te.bytes ≤ 140737488355328) (hzl : te.zero.length = te.size) :
    ∃ A' c' W', (Builtin.append_ #[t, t2] ty #[v, .slice A n c]).run P W = .ok (.slice A' (m + n) c') W' ∧ OwnRow W' e te.size (.slice A' (m + n) c') (m + n) (old ++ news) ∧ Grew W W' (rowBlock v) ∧
      (rowBlock (.slice A' (m + n) c') = rowBlock v ∨ rowBlock (.slice A' (m + n) c') = some W.heap.size) := by
  have hlen : (old ++ news).length = (m + n) * te.size := by rw [List.length_append, hown.1, hnl, Nat.add_mul]
  have grown : ∀ (base : Option Addr) (sCap : Nat), v = .slice base m sCap → Shows W base old → sCap < m + n →
      ∃ A' c' W', (Builtin.append_ #[t, t2] ty #[v, .slice A n c]).run P W = .ok (.slice A' (m + n) c') W' ∧ OwnRow W' e te.size (.slice A' (m + n) c') (m + n) (old ++ news) ∧ Grew W W' (rowBlock v) ∧
      (rowBlock (.slice A' (m + n) c') = rowBlock v ∨ rowBlock (.slice A' (m + n) c') = some W.heap.size) := by
    intro base sCap hv hs hlt
    subst hv
    obtain ⟨z, hz, hr⟩ := run_append_grow' (P := P) (ty := ty) (c := c) hT hTk hT2 hT2k hE W base A m sCap n old news hown.1 hs hnl hns hlt h63 hbytes
    have hge := grownCap_ge W (m + n) sCap e
    have hle := grownCap_le_maxLen W (m + n) sCap e h63
    obtain ⟨cp, hcp⟩ : ∃ cp, grownCap W (m + n) sCap e = cp + 1 := ⟨grownCap W (m + n) sCap e - 1, by omega⟩
    rw [hcp] at hr hge hle
    refine ⟨_, _, _, hr, ⟨hlen, .inr ⟨W.heap.size, cp, _, rfl, heap_alloc_new' W.drew _, hge, hle, ?_, ?_⟩⟩, ⟨rfl, rfl, rfl, by show _ ≤ (W.heap.push _).size; simp, fun j hj _ => heap_alloc_old W.drew _ j hj⟩, .inr rfl⟩
    · have hzs : z.size = te.size := by rw [← Array.length_toList, hz, hzl]
      simp only [Array.size_append, List.size_toArray, size_zeroCells, hzs, hlen, hcp, ← Nat.add_mul]
      congr 1
      omega
    · rw [← hlen, Array.toList_append]
      exact List.take_left
  rcases hown.2 with ⟨base, hv, hm⟩ | ⟨g, cap, cur, hv, hg, hnc, hcm, hcs, htake⟩
  · subst hm
    have ho : old = [] := List.eq_nil_of_length_eq_zero (by simpa using hown.1)
    by_cases hn : n = 0
    · subst hn
      have hnn : news = [] := List.eq_nil_of_length_eq_zero (by simpa using hnl)
      subst ho hnn
      refine ⟨base, 0, W, ?_, ?_, ⟨rfl, rfl, rfl, Nat.le_refl _, fun _ _ _ => rfl⟩, .inl (by rw [hv])⟩
      · rw [hv]
        exact run_append_none' hT hTk hT2 hT2k hE W base A 0 0 c (Nat.le_refl _)
      · exact ⟨by simp, .inl ⟨base, rfl, rfl⟩⟩
    · exact grown base 0 hv (by rw [ho]; exact fun h => absurd rfl h) (by omega)
  · by_cases hroom : m + n ≤ cap + 1
    · have hg' : W.heap[g]? = some (.cells cur.toList.toArray e (0, 0)) := by simpa using hg
      have hfit : m * te.size + news.length ≤ cur.toList.length := by
        rw [hnl, Array.length_toList, hcs, ← Nat.add_mul]; exact Nat.mul_le_mul_right _ hroom
      have hr := run_append_room' (P := P) (ty := ty) (c := c) hT hTk hT2 hT2k hE W g A m (cap + 1) n cur.toList news hg' hnl hns h1 hroom hfit
      rw [← hv] at hr
      have hglt := lt_of_heap hg
      have hrb : rowBlock v = some g := by rw [hv]; rfl
      refine ⟨_, _, _, hr, ⟨hlen, .inr ⟨g, cap, _, rfl, setBlock_same _ _ _ hglt, hroom, hcm, ?_, ?_⟩⟩, ⟨rfl, rfl, rfl, by simp [setBlock], fun j _ hj => setBlock_other _ _ _ _ (by rintro rfl; exact hj hrb.symm)⟩, .inl hrb.symm⟩
      · rw [List.size_toArray, spliceV_length _ _ _ hfit, Array.length_toList]
        exact hcs
      · rw [← hlen]
        simp only [spliceV, htake]
        exact List.take_left
    · refine grown (some ⟨g, 0, none⟩) (cap + 1) hv (fun hne => ⟨_, rfl, fun j u hu => ?_⟩) (by omega)
      rw [addr_add rfl]
      have h2 : (cur.toList.take (m * te.size))[j]? = some u := by rw [htake]; exact hu
      rw [List.getElem?_take] at h2
      split at h2
      · simp only [World.cell?, hg]
        simpa using h2
      · simp at h2
end Vc
end

section
open Go
namespace Vc

/-! ### Forgetting a name -/
section
variable {k : Nat} {ρ ρ' : Val} {x : Sl} (hb : ∀ i, ρ'.blk i = ρ.blk i) (hs : ∀ i, i ≠ k → ρ'.sl i = ρ.sl i) (hx : (ρ.sl k).1 = x.A ∧ ρ.slv k = x.v)
include hb hs hx
theorem substLeaf_con (l : Leaf) : (substLeaf k x l).con ρ' = l.con ρ := by
  cases l with
  | v y => rfl
  | ptr i off => simp [substLeaf, Leaf.con, hb]
  | own i =>
    simp only [substLeaf]
    cases h : Nat.beq k i with
    | true => have := Nat.eq_of_beq_eq_true h; subst this; simp only [Leaf.con]; exact hx.2.symm
    | false =>
      have : i ≠ k := by rintro rfl; simp at h
      simp [Leaf.con, Val.slv, hs i this]
  | optr i off =>
    simp only [substLeaf]
    cases h : Nat.beq k i with
    | true => have := Nat.eq_of_beq_eq_true h; subst this; simp only [Leaf.con, hx.1]
    | false =>
      have : i ≠ k := by rintro rfl; simp at h
      simp [Leaf.con, hs i this]
  | rd a cs off => rfl
  | fn f caps =>
    simp only [substLeaf, Leaf.con]
    congr 2
    apply List.map_congr_left
    intro c _
    cases c <;> simp [Cap.con, hb]
  | kb b => rfl
theorem substL_con (ls : List Leaf) : conL ρ' (substL k x ls) = conL ρ ls := by
  induction ls with
  | nil => rfl
  | cons l r ih => simp only [conL, substL, List.map_cons] at *; rw [substLeaf_con hb hs hx, ih]
theorem substAV_con (v : AV) : (substAV k x v).con ρ' = v.con ρ := by
  cases v with
  | one l => exact substLeaf_con hb hs hx l
  | agg ls => simp only [substAV, AV.con, substL_con hb hs hx]
  | tup vs =>
    simp only [substAV, AV.con]
    congr 2
    induction vs with
    | nil => rfl
    | cons p r ih =>
      simp only [substP, List.map_cons, ih]
      congr 1
      obtain ⟨b, ls⟩ := p
      match b, ls with
      | true, ls => simp [partCon, substL_con hb hs hx]
      | false, [l] => simp only [substL, partCon]; exact substLeaf_con hb hs hx l
      | false, [] => simp [partCon, substL, conL]
      | false, l :: l' :: r =>
        have := substL_con hb hs hx (l :: l' :: r)
        simp only [substL] at this
        simp only [partCon, substL, this]
  | bad => rfl
omit hb hs hx in
theorem substF_look {F : Fr} {t : Nat} {u : AV} (h : look t (substF k x F) = some u) : ∃ v, look t F = some v ∧ u = substAV k x v := by
  induction F with
  | nil => cases h
  | cons c r ih =>
    obtain ⟨d, v⟩ := c
    simp only [substF, look] at h ⊢
    cases hb' : Nat.beq t d with
    | true => rw [hb'] at h; simp at h; exact ⟨v, rfl, h.symm⟩
    | false => rw [hb'] at h; exact ih h
omit hb hs hx in
theorem substB_look {B : Ents} {i : Nat} {e : Ent} (h : look i (substB k x B) = some e) : i ≠ k ∧ ∃ e', look i B = some e' ∧ e = substE k x e' := by
  induction B with
  | nil => cases h
  | cons c r ih =>
    obtain ⟨j, e'⟩ := c
    simp only [substB] at h
    cases hj : Nat.beq k j with
    | true =>
      rw [hj] at h
      obtain ⟨h1, e2, h2, h3⟩ := ih h
      refine ⟨h1, e2, ?_, h3⟩
      have := Nat.eq_of_beq_eq_true hj
      subst this
      rw [look_cons_ne _ _ h1]
      exact h2
    | false =>
      rw [hj] at h
      simp only [look] at h ⊢
      cases hi : Nat.beq i j with
      | true =>
        rw [hi] at h
        simp at h
        have := Nat.eq_of_beq_eq_true hi
        subst this
        exact ⟨by rintro rfl; simp at hj, e', rfl, h.symm⟩
      | false => rw [hi] at h; exact ih h
omit hb hs hx in
theorem substLeaf_ok {m : Mem} {l : Leaf} (h : l.ok m) : (substLeaf k x l).ok m := by
  cases l with
  | own i => simp only [substLeaf]; split <;> trivial
  | optr i off => simp only [substLeaf]; split <;> trivial
  | _ => exact h
omit hb hs hx in
theorem substL_ok {m : Mem} {ls : List Leaf} (h : okL m ls) : okL m (substL k x ls) := by
  induction ls with
  | nil => exact h
  | cons l r ih =>
    intro y hy
    simp only [substL, List.mem_cons] at hy
    rcases hy with rfl | hy
    · exact substLeaf_ok (h l (by simp))
    · exact ih (fun z hz => h z (by simp [hz])) y hy
omit hb hs hx in
theorem substAV_ok {m : Mem} {v : AV} (h : v.ok m) : (substAV k x v).ok m := by
  cases v with
  | one l => exact substLeaf_ok (l := l) h
  | agg ls => exact substL_ok (ls := ls) h
  | tup vs =>
    induction vs with
    | nil => exact h
    | cons p r ih =>
      intro q hq
      simp only [substP, List.mem_cons] at hq
      rcases hq with rfl | hq
      · exact substL_ok (h p (by simp))
      · exact ih (fun z hz => h z (by simp [hz])) q hq
  | bad => trivial
theorem FS.subst {E : Env} {m : Mem} {F : Fr} {a : Act} (hF : FS E ρ m F a) : FS E ρ' m (substF k x F) a := by
  refine ⟨hF.size, fun d u hd => ?_, hF.defers⟩
  obtain ⟨v, hv, rfl⟩ := substF_look hd
  rw [substAV_con hb hs hx]
  exact ⟨(hF.vals d v hv).1, substAV_ok (hF.vals d v hv).2⟩
/-- The world part without the entry k. -/
theorem WS.forget {E : Env} {B : Ents} {m m' : Mem} {W : World} (hW : WS E ρ B m W) (hm : m.le m') (hnew : ∀ b o, m' b = some o → m b = some o ∨ (blockOf ρ B k = some b ∧ W.heap[b]? = some o)) :
    WS E ρ' (substB k x B) m' W := by
  have hblk : ∀ i b, blockOf ρ' (substB k x B) i = some b → i ≠ k ∧ blockOf ρ B i = some b := by
    intro i b h
    unfold blockOf at h ⊢
    cases hl : look i (substB k x B) with
    | none => rw [hl] at h; cases h
    | some e =>
      rw [hl] at h
      obtain ⟨h1, e', h2, rfl⟩ := substB_look hl
      refine ⟨h1, ?_⟩
      rw [h2]
      cases e' with
      | box cells t => simpa [substE, Ent.block, hb] using h
      | own n cells e sz => simpa [substE, Ent.block, Val.slv, hs i h1] using h
  refine ⟨?_, ?_, ?_, ?_, fun b o h => hm _ _ (hW.le b o h), ?_, hW.os, hW.tape, hW.output, hW.size, hW.old, fun p hp => (hb p.1).trans (hW.pin p hp)⟩
  · intro i e hi
    obtain ⟨h1, e', h2, rfl⟩ := substB_look hi
    have h3 := hW.ents i e' h2
    cases e' with
    | box cells t =>
      refine ⟨?_, okL_mono (substL_ok h3.2) hm⟩
      rw [hb, substL_con hb hs hx]
      exact h3.1
    | own n cells e sz =>
      refine ⟨?_, h3.2⟩
      have : ρ'.slv i = ρ.slv i := by simp [Val.slv, hs i h1]
      rw [this]
      exact h3.1
  · intro i b h
    obtain ⟨h1, h2⟩ := hblk i b h
    refine ⟨?_, (hW.fresh i b h2).2⟩
    cases hmb : m' b with
    | none => rfl
    | some o =>
      rcases hnew b o hmb with h3 | ⟨h3, _⟩
      · rw [(hW.fresh i b h2).1] at h3; cases h3
      · exact absurd h3 (hW.inj i k b h1 h2)
  · intro i j b hij h h'
    obtain ⟨_, h2⟩ := hblk i b h
    obtain ⟨_, h3⟩ := hblk j b h'
    exact hW.inj i j b hij h2 h3
  · intro b o h
    rcases hnew b o h with h3 | ⟨_, h3⟩
    · exact hW.mem b o h3
    · exact h3
  · intro b o h
    rcases hnew b o h with h3 | ⟨h3, _⟩
    · exact hW.new b o h3
    · exact .inr (hW.fresh k b h3).2
end

/-! ### append at the operation -/
theorem srcCells_sound {E : Env} {ρ : Val} {B : Ents} {m : Mem} {W : World} (hW : WS E ρ B m W) {size : Nat} {x : AV} {K : Nat → List Value → Prop}
    (h : srcCells E size B m x K) : ∃ A n c news, x.con ρ = .slice A n c ∧ news.length = n * size ∧ Shows W A news ∧ (∀ u ∈ news, u.oneCell' = true) ∧ K n news := by
  unfold srcCells at h
  split at h
  · rename_i j
    split at h
    · rename_i n cells e sz hB
      obtain ⟨hs, hK⟩ := chk_elim h
      have hs := Nat.eq_of_beq_eq_true hs
      subst hs
      obtain ⟨hown, hone⟩ := hW.own hB
      have hl := hown.1
      rcases hown.2 with ⟨A, hv, h0⟩ | ⟨g, cap, cur, hv, hg, hnc, hcm, hcs, htake⟩
      · subst h0
        have : cells = [] := List.eq_nil_of_length_eq_zero (by simpa using hl)
        subst this
        exact ⟨A, 0, 0, [], by simpa [AV.con, Leaf.con] using hv, by simp, fun h => absurd rfl h, by simp, hK⟩
      · refine ⟨some ⟨g, 0, none⟩, n, cap + 1, cells, by simpa [AV.con, Leaf.con] using hv, hl, fun _ => ⟨_, rfl, fun j u hu => ?_⟩, hone, hK⟩
        rw [addr_add rfl]
        rw [← htake, List.getElem?_take] at hu
        split at hu
        · simp only [World.cell?, hg]; simpa using hu
        · simp at hu
    · exact h.elim
  · rename_i A n c
    obtain ⟨cells, hl, hm, hK⟩ := h
    by_cases hn : 0 < n
    · obtain ⟨a, rfl, hr⟩ := hm hn
      exact ⟨_, n, c, cells, rfl, hl, fun _ => ⟨a, rfl, fun j u hu => hr.cell hW j u hu⟩, hr.one, hK⟩
    · have h0 : n = 0 := by omega
      subst h0
      have : cells = [] := List.eq_nil_of_length_eq_zero (by simpa using hl)
      subst this
      exact ⟨A, 0, c, [], rfl, by simp, fun h => absurd rfl h, by simp, hK⟩
  · exact h.elim

theorem substB_none {k : Nat} {x : Sl} {B : Ents} : look k (substB k x B) = none := by
  induction B with
  | nil => rfl
  | cons c r ih =>
    obtain ⟨j, e⟩ := c
    simp only [substB]
    cases hj : Nat.beq k j with
    | true => exact ih
    | false => simp [look, hj, ih]

/-- A new or grown own row under the name k, which stood nowhere any more. -/
theorem WS.regrow {E : Env} {ρ : Val} {B : Ents} {m : Mem} {W W' : World} {k : Nat} {row : Option Nat} (hW : WS E ρ B m W) (hk : look k B = none) (hg : Grew W W' row)
    (hrow : ∀ b, row = some b → m b = none ∧ (E.w0.heap.size ≤ b ∨ E.lent b) ∧ ∀ i, blockOf ρ B i ≠ some b)
    {n : Nat} {cells : List Value} {e : TypeId} {size : Nat} (hown : OwnRow W' e size (ρ.slv k) n cells) (h1 : ∀ u ∈ cells, u.oneCell' = true) (hb : rowBlock (ρ.slv k) = row ∨ rowBlock (ρ.slv k) = some W.heap.size) :
    WS E ρ ((k, .own n cells e size) :: B) m W' := by
  have hblk : ∀ i, i ≠ k → blockOf ρ ((k, .own n cells e size) :: B) i = blockOf ρ B i := by
    intro i hi; unfold blockOf; rw [look_cons_ne _ _ hi]
  have hblkk : blockOf ρ ((k, .own n cells e size) :: B) k = rowBlock (ρ.slv k) := by unfold blockOf; rw [look_cons_eq]; rfl
  have hkB : ∀ i b, blockOf ρ B i = some b → i ≠ k := by
    rintro i b hi rfl; unfold blockOf at hi; rw [hk] at hi; cases hi
  have hsame : ∀ i b, blockOf ρ B i = some b → W'.heap[b]? = W.heap[b]? := fun i b hi => hg.old b (hW.block_lt hi) (fun h => (hrow b h.symm).2.2 i hi)
  have hnew : ∀ b, rowBlock (ρ.slv k) = some b → m b = none ∧ (E.w0.heap.size ≤ b ∨ E.lent b) ∧ ∀ i, blockOf ρ B i ≠ some b := by
    intro b hbb
    rcases hb with h | h
    · exact hrow b (h.symm.trans hbb)
    · rw [h] at hbb
      cases hbb
      refine ⟨?_, .inl hW.size, fun i hi => Nat.lt_irrefl _ (hW.block_lt hi)⟩
      cases hm : m W.heap.size with
      | none => rfl
      | some o => exact absurd (lt_of_heap (hW.mem _ o hm)) (Nat.lt_irrefl _)
  refine ⟨?_, ?_, ?_, ?_, hW.le, hW.new, hg.os.trans hW.os, hg.tape.trans hW.tape, hg.output.trans hW.output, Nat.le_trans hW.size hg.size, ?_, hW.pin⟩
  · intro i e' hi
    by_cases hik : i = k
    · subst hik
      rw [look_cons_eq] at hi
      simp at hi
      subst hi
      exact ⟨hown, h1⟩
    · rw [look_cons_ne _ _ hik] at hi
      exact Ent.sat_same (hW.ents i e' hi) (fun _ _ h => h) ⟨rfl, rfl⟩ (fun _ _ _ => rfl) (fun b hbb => hsame i b (by unfold blockOf; rw [hi]; exact hbb))
  · intro i b hi
    by_cases hik : i = k
    · subst hik; rw [hblkk] at hi; exact ⟨(hnew b hi).1, (hnew b hi).2.1⟩
    · rw [hblk i hik] at hi; exact hW.fresh i b hi
  · intro i j b hij hi hj
    by_cases hik : i = k
    · subst hik
      rw [hblkk] at hi
      rw [hblk j (Ne.symm hij)] at hj
      exact (hnew b hi).2.2 j hj
    · rw [hblk i hik] at hi
      by_cases hjk : j = k
      · subst hjk
        rw [hblkk] at hj
        exact (hnew b hj).2.2 i hi
      · rw [hblk j hjk] at hj
        exact hW.inj i j b hij hi hj
  · intro b o hbo
    have h2 := hW.mem b o hbo
    rw [hg.old b (lt_of_heap h2) (fun h => by have := (hrow b h.symm).1; rw [this] at hbo; cases hbo)]
    exact h2
  · intro j hj hl
    rw [hg.old j (Nat.lt_of_lt_of_le hj hW.size) (fun h => (hrow j h.symm).2.1.elim (fun h2 => by omega) hl)]
    exact hW.old j hj hl

theorem appendK_sound {E : Env} (hΓ : TypesOk E.P E.Γ) {ρ : Val} {B : Ents} {m : Mem} {F : Fr} {a : Act} {W : World} (hW : WS E ρ B m W) (hF : FS E ρ m F a) {d : Option Nat} {t t2 ty : TypeId} {s x : AV} {K : Cont}
    (ht2 : ∃ ti2 e2, look t2 E.Γ = some ti2 ∧ ti2.kind = .slice e2) (h : appendK E d t s x F B m K) :
    ∃ v W', (Builtin.append_ #[t, t2] ty #[s.con ρ, x.con ρ]).run E.P W = .ok v W' ∧ Post E K (a.put d v) W' := by
  obtain ⟨ti2, e2, ht2, hk2⟩ := ht2
  unfold appendK at h
  split at h
  · rename_i e _ _ _ d' hlt
    have hT := hΓ t _ hlt
    split at h
    · rename_i te hle
      have hE := hΓ e _ hle
      split at h
      · rename_i i
        split at h
        · rename_i n cells e' sz hB
          obtain ⟨A, n', c, news, hxc, hnl, hns, hone, h63, hb, h⟩ := srcCells_sound hW h
          obtain ⟨he, h'⟩ := chk_elim h
          obtain ⟨hsz, h''⟩ := chk_elim h'
          obtain ⟨hd, hKK⟩ := chk_elim h''
          clear h' h''
          have he := Nat.eq_of_beq_eq_true he
          have hsz := Nat.eq_of_beq_eq_true hsz
          subst he hsz
          obtain ⟨hown, hone0⟩ := hW.own hB
          obtain ⟨A', c', W', hr, hown', hgrew, hrb⟩ := append_own (ty := ty) (c := c) hT rfl (hΓ t2 _ ht2) hk2 hE W (ρ.slv i) n cells hown A n' news hnl hns hone h63 hb hE.zsize
          refine ⟨_, W', by rw [hxc]; exact hr, ?_⟩
          have hsl : (ρ.sl i).2.1 = n := by
            rcases hown.2 with ⟨A0, hv, h0⟩ | ⟨g, cap, cur, hv, _⟩ <;> · simp only [Val.slv, Value.slice.injEq] at hv; omega
          have hx' : (ρ.sl i).1 = (⟨(ρ.sl i).1, (ρ.sl i).2.1, (ρ.sl i).2.2⟩ : Sl).A ∧ ρ.slv i = (⟨(ρ.sl i).1, (ρ.sl i).2.1, (ρ.sl i).2.2⟩ : Sl).v := ⟨rfl, rfl⟩
          have hρb : ∀ j, (ρ.setSl i (A', n + n', c')).blk j = ρ.blk j := fun _ => rfl
          have hρs : ∀ j, j ≠ i → (ρ.setSl i (A', n + n', c')).sl j = ρ.sl j := fun j hj => by simp [Val.setSl, hj]
          have hslv : (ρ.setSl i (A', n + n', c')).slv i = .slice A' (n + n') c' := by simp [Val.slv, Val.setSl]
          have hW1 := hW.forget (m' := m) hρb hρs hx' (fun _ _ h => h) (fun b o h => .inl h)
          have hrow0 : blockOf ρ B i = rowBlock (ρ.slv i) := by unfold blockOf; rw [hB]; rfl
          have hW2 := hW1.regrow (k := i) substB_none hgrew (fun b hbb => by
            refine ⟨(hW.fresh i b (hrow0.trans hbb)).1, (hW.fresh i b (hrow0.trans hbb)).2, fun j hj => ?_⟩
            have hji : j ≠ i := by rintro rfl; unfold blockOf at hj; rw [substB_none] at hj; cases hj
            unfold blockOf at hj
            cases hl : look j (substB i (⟨(ρ.sl i).1, (ρ.sl i).2.1, (ρ.sl i).2.2⟩ : Sl) B) with
            | none => rw [hl] at hj; cases hj
            | some e1 =>
              rw [hl] at hj
              obtain ⟨_, e2, h2, rfl⟩ := substB_look hl
              refine hW.inj j i b hji ?_ (hrow0.trans hbb)
              unfold blockOf
              rw [h2]
              cases e2 with
              | box cells t => simpa [substE, Ent.block, hρb] using hj
              | own n cells e sz => simpa [substE, Ent.block, Val.slv, hρs j hji] using hj) (by rw [hslv]; exact hown') (fun u hu => (List.mem_append.1 hu).elim (hone0 u) (hone u)) (by rw [hslv]; exact hrb)
          have hF1 := (hF.subst (m := m) hρb hρs hx').put (d := d') (v := .one (.own i)) hd trivial
          rw [show AV.con (ρ.setSl i (A', n + n', c')) (.one (.own i)) = .slice A' (n + n') c' from hslv] at hF1
          exact ⟨_, _, _, m, hKK _, hW2, hF1⟩
        · exact h.elim
      · rename_i A0 n0 c0
        obtain ⟨hn0, hc0, h⟩ := h
        subst hn0 hc0
        obtain ⟨A, n', c, news, hxc, hnl, hns, hone, h63, hb, h⟩ := srcCells_sound hW h
        obtain ⟨hd, h⟩ := chk_elim h
        obtain ⟨hnm, h⟩ := chk_elim h
        obtain ⟨hf, hB⟩ := newName_spec hnm
        have hown : OwnRow W e te.size (.slice A0 0 0) 0 [] := ⟨by simp, .inl ⟨A0, rfl, rfl⟩⟩
        obtain ⟨A', c', W', hr, hown', hgrew, hrb⟩ := append_own (ty := ty) (c := c) hT rfl (hΓ t2 _ ht2) hk2 hE W (.slice A0 0 0) 0 [] hown A n' news hnl hns hone (by omega) (by rw [Nat.zero_add]; exact hb) hE.zsize
        simp only [Nat.zero_add, List.nil_append] at hr hown' hrb
        have hrow : rowBlock (.slice A0 0 0) = none := by cases A0 <;> rfl
        rw [hrow] at hgrew hrb
        refine ⟨_, W', by rw [hxc]; exact hr, ?_⟩
        have hρ := AgreeBut.sl ρ d' (A', n', c')
        have hslv : (ρ.setSl d' (A', n', c')).slv d' = .slice A' n' c' := by simp [Val.slv, Val.setSl]
        have hW2 := hW.add hρ hB (e := .own n' news e te.size) (W' := W') ⟨by rw [hslv]; exact hown', hone⟩ (fun b hbb => by
          simp only [Ent.block, hslv] at hbb
          rcases hrb with h2 | h2
          · rw [h2] at hbb; cases hbb
          · rw [h2] at hbb; cases hbb; exact Nat.le_refl _) hgrew.os hgrew.tape hgrew.output hgrew.size (fun j hj => hgrew.old j hj (by simp)) (fun _ _ => rfl)
        have hF1 := (hF.agree (frNo_con hρ hf)).put (d := d') (v := .one (.own d')) hd trivial
        rw [show AV.con (ρ.setSl d' (A', n', c')) (.one (.own d')) = .slice A' n' c' from hslv] at hF1
        exact ⟨_, _, _, m, h, hW2, hF1⟩
      · exact h.elim
    · exact h.elim
  · exact h.elim
end Vc
end

section
open Go
namespace Vc

theorem Mem.le_join (m m1 : Mem) : m.le (m.join m1) := by
  intro b o h; simp [Mem.join, h]
theorem Mem.join_some {m m1 : Mem} {b : Nat} {o : Obj} (h : m.join m1 b = some o) : m b = some o ∨ (m b = none ∧ m1 b = some o) := by
  unfold Mem.join at h
  split at h
  · rename_i o' ho; cases h; exact .inl ho
  · rename_i ho; exact .inr ⟨ho, h⟩
theorem Mem.join_right {m m1 : Mem} (h : Mem.Disj m m1) : m1.le (m.join m1) := by
  intro b o hb
  unfold Mem.join
  split
  · rename_i o' ho; rw [h b o' ho] at hb; cases hb
  · exact hb
theorem Mem.join_assoc (m m1 m2 : Mem) : (m.join m1).join m2 = m.join (m1.join m2) := by
  funext b
  simp only [Mem.join]
  cases m b <;> rfl

theorem FS.mono {E : Env} {ρ : Val} {m m' : Mem} {F : Fr} {a : Act} (h : FS E ρ m F a) (hm : m.le m') : FS E ρ m' F a :=
  ⟨h.size, fun d v hd => ⟨(h.vals d v hd).1, AV.ok_mono (h.vals d v hd).2 hm⟩, h.defers⟩

theorem rowBlock_some {v : Value} {b : Nat} (h : rowBlock v = some b) : ∃ a n c, v = .slice (some a) n (c + 1) ∧ a.block = b := by
  unfold rowBlock at h
  split at h
  · rename_i a n c; simp at h; exact ⟨a, n, c, rfl, h⟩
  · cases h

theorem runSteps_sound {E : Env} {st : List Step} : ∀ {K : Cont} {ρ : Val} {B : Ents} {m : Mem} {F : Fr} {a : Act} {W : World}, WS E ρ B m W → FS E ρ m F a → runSteps st K F B m → Post E K a W := by
  induction st with
  | nil => intro K ρ B m F a W hW hF h; exact ⟨ρ, F, B, m, h, hW, hF⟩
  | cons s r ih =>
    intro K ρ B m F a W hW hF h
    cases s with
    | freeze i =>
      simp only [runSteps] at h
      split at h
      · rename_i n cells e sz hB
        obtain ⟨hown, hone⟩ := hW.own hB
        have hblk : blockOf ρ B i = rowBlock (ρ.slv i) := by unfold blockOf; rw [hB]; rfl
        have hsl : (ρ.sl i).2.1 = n := by
          rcases hown.2 with ⟨A0, hv, h0⟩ | ⟨g, cap, cur, hv, _⟩ <;> · simp only [Val.slv, Value.slice.injEq] at hv; omega
        let m1 : Mem := fun b => if rowBlock (ρ.slv i) = some b then W.heap[b]? else none
        have hdis : Mem.Disj m m1 := by
          intro b o hb
          show (if _ then _ else _) = _
          rw [if_neg]
          intro hr
          have := (hW.fresh i b (hblk.trans hr)).1
          rw [this] at hb; cases hb
        have hle : m.le (Mem.join m m1) := Mem.le_join m m1
        have hx' : (ρ.sl i).1 = (⟨(ρ.sl i).1, n, (ρ.sl i).2.2⟩ : Sl).A ∧ ρ.slv i = (⟨(ρ.sl i).1, n, (ρ.sl i).2.2⟩ : Sl).v := ⟨rfl, by rw [← hsl]; rfl⟩
        have hW1 := hW.forget (k := i) (ρ' := ρ) (m' := Mem.join m m1) (fun _ => rfl) (fun _ _ => rfl) hx' hle (fun b o hb => by
          rcases Mem.join_some hb with h | ⟨_, h⟩
          · exact .inl h
          · right
            have hb' : (if rowBlock (ρ.slv i) = some b then W.heap[b]? else none) = some o := h
            split at hb'
            · rename_i hr; exact ⟨hblk.trans hr, hb'⟩
            · cases hb')
        have hF1 := (hF.mono hle).subst (k := i) (ρ' := ρ) (x := ⟨(ρ.sl i).1, n, (ρ.sl i).2.2⟩) (fun _ => rfl) (fun _ _ => rfl) hx'
        refine ih hW1 hF1 (h _ _ m1 hdis hown.1 ?_ ?_ ?_)
        · rcases hown.2 with ⟨A0, hv, h0⟩ | ⟨g, cap, cur, hv, hg, hnc, hcm, _⟩
          · omega
          · simp only [Val.slv, Value.slice.injEq] at hv; omega
        · rcases hown.2 with ⟨A0, hv, h0⟩ | ⟨g, cap, cur, hv, hg, hnc, hcm, _⟩
          · simp only [Val.slv, Value.slice.injEq] at hv
            rw [hv.2.2]
            exact Nat.zero_le _
          · simp only [Val.slv, Value.slice.injEq] at hv
            rw [hv.2.2]
            exact hcm
        · intro hn
          obtain ⟨g, cap, cur, hv, hg, hnc, hcm, hcs, htk, hcell⟩ := OwnRow.cell hown hn
          have hr : rowBlock (ρ.slv i) = some g := by rw [hv]; rfl
          have hs1 : (ρ.sl i).1 = some ⟨g, 0, none⟩ := by simp only [Val.slv, Value.slice.injEq] at hv; exact hv.1
          refine ⟨_, hs1, rfl, cur, e, (0, 0), ?_, fun j u hu => ⟨?_, hone u (List.mem_of_getElem? hu)⟩⟩
          · show (if rowBlock (ρ.slv i) = some g then W.heap[g]? else none) = _
            rw [if_pos hr]; exact hg
          · simpa using hcell j u hu
      · exact h.elim
    | nilOwn slot k elem size =>
      simp only [runSteps] at h
      split at h
      · rename_i hnil hnm
        obtain ⟨hf, hB⟩ := newName_spec hnm
        have hρ := AgreeBut.sl ρ k (none, 0, 0)
        have hslv : (ρ.setSl k (none, 0, 0)).slv k = .slice none 0 0 := by simp [Val.slv, Val.setSl]
        have hW1 := hW.add hρ hB (e := .own 0 [] elem size) (W' := W) ⟨by rw [hslv]; exact ⟨by simp, .inl ⟨none, rfl, rfl⟩⟩, by simp⟩ (fun b hb => by simp [Ent.block, hslv, rowBlock] at hb) rfl rfl rfl (Nat.le_refl _) (fun _ _ => rfl) (fun _ _ => rfl)
        have hF1 := hF.agree (frNo_con hρ hf)
        have hv : look slot F = some (.one (.v (.slice none 0 0))) := by
          unfold isNilSlice at hnil
          split at hnil
          · assumption
          · cases hnil
        refine ih hW1 ⟨hF1.size, fun t u ht => ?_, hF1.defers⟩ h
        by_cases hts : t = slot
        · subst hts
          rw [look_cons_eq] at ht
          simp only [Option.some.injEq] at ht
          subst ht
          refine ⟨?_, trivial⟩
          rw [(hF1.vals t _ hv).1]
          exact hslv.symm
        · rw [look_cons_ne _ _ hts] at ht
          exact hF1.vals t u ht
      · exact h.elim
    | cut => exact h.elim
    | keep ks => exact h.elim

theorem runCuts_sound {E : Env} {st : List Step} : ∀ {K : Cont} {ρ : Val} {B : Ents} {m : Mem} {F : Fr} {a : Act} {W : World}, WS E ρ B m W → FS E ρ m F a → runCuts E st K F B m → Post E K a W := by
  induction st with
  | nil => intro K ρ B m F a W hW hF h; exact ⟨ρ, F, B, m, h, hW, hF⟩
  | cons s r ih =>
    intro K ρ B m F a W hW hF h
    cases s with
    | cut =>
      obtain ⟨ρ', F', B', m', h', hW', hF'⟩ := CutNode.out h ρ a W hW hF
      exact ih hW' hF' h'
    | keep ks => exact ih hW hF h
    | freeze i =>
      obtain ⟨ρ', F', B', m', h', hW', hF'⟩ := runSteps_sound (st := [.freeze i]) hW hF h
      exact ih hW' hF' h'
    | nilOwn a b c d =>
      obtain ⟨ρ', F', B', m', h', hW', hF'⟩ := runSteps_sound (st := [.nilOwn a b c d]) hW hF h
      exact ih hW' hF' h'

/-! ### build -/
theorem foldl_set (vs : List Value) : ∀ (off k : Nat) (cs : Array Value) (i : Nat), ((vs.zipIdx k).foldl (fun cs (p : Value × Nat) => cs.setIfInBounds (off + p.2) p.1) cs)[i]? =
    if off + k ≤ i ∧ i < off + k + vs.length ∧ i < cs.size then vs[i - (off + k)]? else cs[i]? := by
  induction vs with
  | nil => intro off k cs i; simp; omega
  | cons v vs ih =>
    intro off k cs i
    simp only [List.zipIdx_cons, List.foldl_cons]
    rw [ih off (k + 1) _ i]
    simp only [Array.size_setIfInBounds, List.length_cons]
    by_cases h1 : off + (k + 1) ≤ i ∧ i < off + (k + 1) + vs.length ∧ i < cs.size
    · rw [if_pos h1, if_pos (by omega)]
      have : i - (off + k) = (i - (off + (k + 1))) + 1 := by omega
      rw [this, List.getElem?_cons_succ]
    · rw [if_neg h1]
      by_cases h2 : i = off + k
      · subst h2
        by_cases h3 : off + k < cs.size
        · rw [if_pos ⟨Nat.le_refl _, by omega, h3⟩, Array.getElem?_setIfInBounds_self_of_lt h3]; simp
        · rw [if_neg (by omega)]
          rw [Array.getElem?_eq_none (by simp; omega), Array.getElem?_eq_none (by omega)]
      · rw [Array.getElem?_setIfInBounds_ne (Ne.symm h2), if_neg (by omega)]

theorem fillL_sound {E : Env} {ρ : Val} {m : Mem} {F : Fr} {a : Act} (hF : FS E ρ m F a) (fs fs' : Nat → Option (Nat × Nat)) (hfs' : ∀ i p, fs i = some p → fs' i = some p) : ∀ (parts : List (Nat × Operand)) (ls0 ls : List Leaf), okL m ls0 → fillL fs F parts ls0 = some ls →
    Instr.fill fs' (conL ρ ls0).toArray (parts.map fun p => (p.1, a.eval p.2)) = some (conL ρ ls).toArray ∧ okL m ls ∧ ls.length = ls0.length := by
  intro parts
  induction parts with
  | nil =>
    intro ls0 ls hok h
    simp [fillL] at h
    subst h
    exact ⟨by simp [Instr.fill], hok, rfl⟩
  | cons p r ih =>
    obtain ⟨i, x⟩ := p
    intro ls0 ls hok h
    simp only [fillL] at h
    split at h
    · rename_i off sz vs hfs hlv
      cases hc : Nat.beq (lenL vs) sz && Nat.ble (off + sz) (lenL ls0) with
      | false => rw [hc] at h; simp at h
      | true =>
        rw [hc] at h
        simp only [cond_true] at h
        rw [Bool.and_eq_true] at hc
        have hsz := Nat.eq_of_beq_eq_true hc.1
        have hle := Nat.le_of_ble_eq_true hc.2
        rw [lenL_eq] at hsz hle
        cases hv : ev F x with
        | none => rw [hv] at hlv; simp [leavesO] at hlv
        | some v =>
          rw [hv] at hlv
          simp only [leavesO] at hlv
          obtain ⟨he, hvok⟩ := ev_con hF hv
          obtain ⟨hcells, hokv⟩ := cells_av (ρ := ρ) hlv hvok
          have hcsz : (v.con ρ).cells.size = vs.length := by rw [← Array.length_toList, hcells]; simp [conL]
          have hok' : okL m (writeL off vs ls0) := by
            intro l hl
            obtain ⟨j, hj⟩ := List.mem_iff_getElem?.1 hl
            rw [writeL_get] at hj
            split at hj
            · exact hokv l (List.mem_of_getElem? hj)
            · exact hok l (List.mem_of_getElem? hj)
          obtain ⟨h1, h2, h3⟩ := ih _ _ hok' h
          refine ⟨?_, h2, by rw [h3, writeL_length]⟩
          simp only [List.map_cons, Instr.fill, hfs' _ _ hfs, he, hcsz]
          have hcond : (decide (vs.length ≠ sz) || decide (off + vs.length > (conL ρ ls0).toArray.size)) = false := by
            simp [conL, hsz]; omega
          rw [hcond]
          simp only [Bool.false_eq_true, if_false]
          rw [← h1]
          congr 1
          apply Array.ext_getElem?
          intro j
          have e1 : (v.con ρ).cells.zipIdx.foldl (fun cs (p : Value × Nat) => cs.setIfInBounds (off + p.2) p.1) (conL ρ ls0).toArray = ((conL ρ vs).zipIdx 0).foldl (fun cs (p : Value × Nat) => cs.setIfInBounds (off + p.2) p.1) (conL ρ ls0).toArray := by
            rw [← Array.foldl_toList, Array.toList_zipIdx, hcells]
          show ((v.con ρ).cells.zipIdx.foldl (fun cs (p : Value × Nat) => cs.setIfInBounds (off + p.2) p.1) (conL ρ ls0).toArray)[j]? = _
          rw [e1, foldl_set]
          simp only [Nat.add_zero, List.size_toArray, List.getElem?_toArray]
          simp only [conL, List.length_map, List.getElem?_map, writeL_get]
          split <;> rfl
    · simp at h
end Vc
end

section
open Go
namespace Vc

section
variable {E : Env} {ρ : Val} {B : Ents} {m : Mem} {F : Fr} {a : Act} {W : World} {K : Cont} {Q' : Exit → Act → World → Prop}

theorem putO_sound (hW : WS E ρ B m W) (hF : FS E ρ m F a) {d : Option Nat} {x : Operand} (h : putO E d (ev F x) F B m K) : Post E K (a.put d (a.eval x)) W := by
  unfold putO at h
  split at h
  · rename_i v hv
    obtain ⟨he, hok⟩ := ev_con hF hv
    rw [he]
    exact putK_sound hW hF hok h
  · exact h.elim

theorem splitB_sound (hF : FS E ρ m F a) {x : Operand} {yes no : Prop} (h : splitB (ev F x) yes no) : ∃ b, a.eval x = .bool b ∧ (b = true → yes) ∧ (b = false → no) := by
  unfold splitB at h
  split at h
  · rename_i b hv
    obtain ⟨he, _⟩ := ev_con hF hv
    refine ⟨b, he, ?_, ?_⟩ <;> rintro rfl <;> exact h
  · rename_i b hv
    obtain ⟨he, _⟩ := ev_con hF hv
    exact ⟨b, he, h⟩
  · exact h.elim

theorem fieldOff_spec {P : Program} {Γ : Types} (hΓ : TypesOk P Γ) {t f o' : Nat} (h : fieldOff Γ t f = some o') (W : World) (ad : Addr) : (Instr.fieldAt t (.pointer (some ad)) f).run P W = .ok (.pointer (some (ad.add o'))) W := by
  unfold fieldOff at h
  split at h
  · rename_i ti ht
    split at h
    · rename_i fs hk
      split at h
      · rename_i o2 t' hf
        split at h
        · rename_i te hte
          split at h
          · rename_i hlt
            simp only [Option.some.injEq] at h
            subst h
            have hsz : te.size ≠ 0 := by
              have : 0 < te.size := by simpa using hlt
              omega
            have hT := hΓ t ti ht
            obtain ⟨fs', hu, hmap⟩ := hT.struct_ hk
            rw [← hmap, List.getElem?_map] at hf
            cases hff : fs'[f]? with
            | none =>
              have : fs'.toList[f]? = none := by simpa using hff
              rw [this] at hf; cases hf
            | some fd =>
              have : fs'.toList[f]? = some fd := by simpa using hff
              rw [this] at hf
              simp only [Option.map_some, Option.some.injEq, Prod.mk.injEq] at hf
              have hs := (hΓ t' te hte).run_sizeOf W
              rw [← hf.2] at hs
              simp only [Instr.fieldAt, Sem.run_bind, run_underlying hu, Result.andThen_ok, hff, Instr.sureAddr, Sem.run_pure, fieldPlace, hs, hsz, if_false]
              rw [hf.1]
          · cases h
        · cases h
      · cases h
    · cases h
  · cases h

theorem sliceElem_spec {P : Program} {Γ : Types} (hΓ : TypesOk P Γ) {t e : Nat} {te : TInfo} (h : sliceElem Γ t = some (e, te)) : P.underlying t = some (.slice e) ∧ TOk P e te ∧ ∃ ti, look t Γ = some ti ∧ ti.kind = .slice e := by
  unfold sliceElem at h
  split at h
  · rename_i ti ht
    split at h
    · rename_i e' hk
      split at h
      · rename_i te' hte
        simp only [Option.some.injEq, Prod.mk.injEq] at h
        obtain ⟨rfl, rfl⟩ := h
        exact ⟨(hΓ t ti ht).slice_ hk, hΓ _ _ hte, ti, ht, hk⟩
      · cases h
    · cases h
  · cases h
theorem isString_spec {P : Program} {Γ : Types} (hΓ : TypesOk P Γ) {t : Nat} (h : isString Γ t = true) : P.underlying t = some .string := by
  unfold isString at h
  split at h
  · rename_i ti ht
    split at h
    · rename_i hk; exact (hΓ t ti ht).string_ hk
    · cases h
  · cases h
theorem intKind_spec {P : Program} {Γ : Types} (hΓ : TypesOk P Γ) {t : Nat} {k : IntKind} (h : intKind Γ t = some k) : P.underlying t = some (.int k) := by
  unfold intKind at h
  split at h
  · rename_i ti ht
    split at h
    · rename_i k' hk; simp only [Option.some.injEq] at h; subst h; exact (hΓ t ti ht).int_ hk
    · cases h
  · cases h
theorem structFields_spec {P : Program} {Γ : Types} (hΓ : TypesOk P Γ) {t : Nat} {fs : List (Nat × TypeId)} {zero : List Value} (h : structFields Γ t = some (fs, zero)) :
    ∃ ti, look t Γ = some ti ∧ ti.kind = .struct fs ∧ ti.zero = zero := by
  unfold structFields at h
  split at h
  · rename_i ti ht
    split at h
    · rename_i fs' hk
      simp only [Option.some.injEq, Prod.mk.injEq] at h
      obtain ⟨rfl, rfl⟩ := h
      exact ⟨ti, ht, hk, rfl⟩
    · cases h
  · cases h

theorem kindEq_spec {k k' : IntKind} (h : kindEq k k' = true) : k = k' := by cases k <;> cases k' <;> first | rfl | cases h

theorem toList_eq_iff (x y : ByteArray) : (x.toList == y.toList) = decide (x = y) := by
  rw [Bool.eq_iff_iff]
  simp only [beq_iff_eq, decide_eq_true_eq]
  constructor
  · intro h
    rw [ByteArray.toList_eq, ByteArray.toList_eq] at h
    exact WideShapes.bytes_inj h
  · rintro rfl; rfl

theorem get_flatten_replicate {α : Type} (l : List α) (hl : 0 < l.length) : ∀ (n j : Nat), ((List.replicate n l).flatten)[j]? = if j < n * l.length then l[j % l.length]? else none := by
  intro n
  induction n with
  | zero => intro j; simp
  | succ n ih =>
    intro j
    rw [List.replicate_succ, List.flatten_cons, Nat.succ_mul]
    by_cases h : j < l.length
    · rw [List.getElem?_append_left h, if_pos (by omega), Nat.mod_eq_of_lt h]
    · rw [List.getElem?_append_right (by omega), ih]
      have e : (j - l.length) % l.length = j % l.length := by
        conv => rhs; rw [← Nat.sub_add_cancel (show l.length ≤ j by omega)]
        simp
      rw [e]
      by_cases h2 : j < n * l.length + l.length
      · rw [if_pos h2, if_pos (by omega)]
      · rw [if_neg h2, if_neg (by omega)]

theorem run_buildSlice {P : Program} {t e : Nat} {te : TInfo} (hu : P.underlying t = some (.slice e)) (hE : TOk P e te) (hpos : 0 < te.size) (len : Nat) (hle : len * te.size ≤ 1000) {m : Mem} (hF : FS E ρ m F a) (parts : List (Nat × Operand)) {ls : List Leaf}
    (h : fillL (fun i => some (i * te.size, te.size)) F parts (repeatL len (vmap te.zero)) = some ls) (W : World) :
    (Instr.buildSlice t len (parts.toArray.map fun p => (p.1, a.eval p.2))).run P W = .ok (.slice (some ⟨W.heap.size, 0, none⟩) len len) (W.alloc (.cells (conL ρ ls).toArray e)) ∧ okL m ls ∧ ls.length = len * te.size := by
  have hrep : ∀ n, repeatL n (vmap te.zero) = vmap ((List.replicate n te.zero).flatten) := by
    intro n
    induction n with
    | zero => rfl
    | succ n ih => rw [repeatL, ih, List.replicate_succ, List.flatten_cons, vmap_eq, vmap_eq, vmap_eq, List.map_append]
  have hzok : okL m (repeatL len (vmap te.zero)) := by
    rw [hrep]
    refine okL_vmap (fun u hu => ?_)
    obtain ⟨l, hl, hul⟩ := List.mem_flatten.1 hu
    rw [List.mem_replicate] at hl
    rw [hl.2] at hul
    exact oneAll_spec hE.zero1 u hul
  obtain ⟨h1, h2, h3⟩ := fillL_sound hF _ _ (fun _ _ h => h) parts _ _ hzok h
  have hlen : (repeatL len (vmap te.zero)).length = len * te.size := by
    rw [hrep, vmap_eq, List.length_map, List.length_flatten, List.map_replicate, List.sum_replicate_nat, hE.zsize]
  refine ⟨?_, h2, h3.trans hlen⟩
  obtain ⟨z, hz, hzc⟩ := hE.run_zero W
  have hcells : conL ρ (repeatL len (vmap te.zero)) = (List.replicate len te.zero).flatten := by rw [hrep, conL_vmap]
  have hzsize : z.cells.size = te.size := by rw [← Array.length_toList, hzc, hE.zsize]
  have hinit : (Array.range (len * te.size)).map (fun i => (if len * te.size = 0 then #[] else z.cells)[i % (if len * te.size = 0 then #[] else z.cells).size]!) = (conL ρ (repeatL len (vmap te.zero))).toArray := by
    rw [hcells]
    by_cases h0 : len * te.size = 0
    · have : len = 0 := by
        rcases Nat.mul_eq_zero.1 h0 with h | h <;> omega
      subst this
      simp
    · simp only [h0, if_false, hzsize]
      apply Array.ext_getElem?
      intro j
      have hzl : te.zero.length = te.size := hE.zsize
      have e2 : ((List.replicate len te.zero).flatten.toArray)[j]? = if j < len * te.size then te.zero[j % te.size]? else none := by
        rw [List.getElem?_toArray, get_flatten_replicate _ (by omega), hzl]
      rw [e2, Array.getElem?_map]
      by_cases hj : j < len * te.size
      · rw [if_pos hj]
        have hm : j % te.size < te.size := Nat.mod_lt _ hpos
        have hm' : j % te.size < z.cells.size := by omega
        have hm2 : j % te.size < te.zero.length := by omega
        rw [Array.getElem?_range, if_pos hj] 
        simp only [Option.map_some, getElem!_pos, hm', List.getElem?_eq_getElem hm2, Option.some.injEq]
        have : z.cells.toList[j % te.size]'(by rw [Array.length_toList]; exact hm') = te.zero[j % te.size] := by simp only [hzc]
        simpa using this
      · rw [if_neg hj]
        have : (Array.range (len * te.size))[j]? = none := Array.getElem?_eq_none (by simp; omega)
        rw [this]; rfl
  have hng : ¬ (len * te.size > 2 ^ 24) := by omega
  have hparts : (parts.toArray.map fun p => (p.1, a.eval p.2)).toList = parts.map fun p => (p.1, a.eval p.2) := by simp
  simp only [Instr.buildSlice, Sem.run_bind, run_underlying hu, Result.andThen_ok, hE.run_sizeOf, hng, if_false]
  by_cases h0 : len * te.size = 0
  · have hl0 : len = 0 := by
      rcases Nat.mul_eq_zero.1 h0 with h | h <;> omega
    subst hl0
    have h1' : Instr.fill (fun i => some (i * te.size, te.size)) #[] (parts.map fun p => (p.1, a.eval p.2)) = some (conL ρ ls).toArray := h1
    simp only [h0, if_true, Sem.run_bind, Sem.run_pure, Result.andThen_ok, hparts]
    have hr0 : Array.map (fun x => (#[] : Array Value)[x % (#[] : Array Value).size]!) (Array.range 0) = #[] := by simp
    rw [hr0, h1']
    rfl
  · simp only [h0, if_false] at hinit
    simp only [h0, if_false, Sem.run_bind, hz, Result.andThen_ok, Sem.run_pure]
    rw [hparts, hinit, h1]
    rfl
end
end Vc
end

section
open Go
namespace Vc

section
variable {E : Env} (hΓ : TypesOk E.P E.Γ) {ρ : Val} {B : Ents} {m : Mem} {F : Fr} {a : Act} {W : World} {K : Cont} {Q : SPost} (hW : WS E ρ B m W) (hF : FS E ρ m F a)
include hΓ hW hF

omit hΓ in
theorem putO'_sound {d : Option Nat} {v : Option AV} {u : Value} (hv : ∀ x, v = some x → x.con ρ = u ∧ x.ok m) (h : putO' E d v F B m K) : Post E K (a.put d u) W := by
  unfold putO' at h
  split at h
  · rename_i x
    obtain ⟨rfl, hok⟩ := hv x rfl
    exact putK_sound hW hF hok h
  · exact h.elim

theorem store_sound {t : Nat} {ti : TInfo} (ht : look t E.Γ = some ti) {x y : Operand} {vs : List Leaf} (hy : leavesO (ev F y) = some vs) (hsz : Nat.beq (lenL vs) ti.size = true) (h : storeLeaves E F B m (ev F x) vs K) :
    ∃ W', (Instr.storeAt t (a.eval x) (a.eval y)).run E.P W = .ok () W' ∧ Post E K a W' := by
  have hT := hΓ t ti ht
  have hsz := Nat.eq_of_beq_eq_true hsz
  rw [lenL_eq] at hsz
  cases hv : ev F y with
  | none => rw [hv] at hy; cases hy
  | some v =>
    rw [hv] at hy
    obtain ⟨hey, hok⟩ := ev_con hF hv
    obtain ⟨hc, hokl⟩ := cells_av (ρ := ρ) hy hok
    have hcs : (v.con ρ).cells.size = ti.size := by rw [← Array.length_toList, hc]; simpa [conL] using hsz
    rw [hey]
    unfold storeLeaves at h
    split at h
    · rename_i i off hx
      obtain ⟨he, _⟩ := ev_con hF hx
      split at h
      · rename_i cells ty hB
        obtain ⟨hle, h2⟩ := chk_elim h
        have h3 := forceL_elim h2
        have hle := Nat.le_of_ble_eq_true hle
        rw [lenL_eq, lenL_eq] at hle
        obtain ⟨hh, hokc⟩ := hW.box hB
        have hr := run_storeAt hT W (ρ.blk i) off ty (conL ρ cells) hh (v.con ρ) hcs (by rw [hc]; simpa [conL] using hle) (by rw [hc]; exact okL_con hokl)
        rw [hc] at hr
        refine ⟨_, by rw [he]; exact hr, ρ, _, _, m, h3, hW.write (e' := .box (writeL off vs cells) ty) hB rfl rfl ⟨?_, ?_⟩, hF⟩
        · rw [setBlock_same _ _ _ (lt_of_heap hh)]
          congr 3
          apply List.ext_getElem?
          intro j
          simp only [conL, List.getElem?_map, writeL_get, spliceV, List.length_map]
          by_cases h1 : j < off
          · rw [if_neg (by omega), List.getElem?_append_left (by simp; omega), List.getElem?_append_left (by simp; omega), List.getElem?_take_of_lt h1, List.getElem?_map]
          · by_cases h4 : j < off + vs.length
            · rw [if_pos ⟨by omega, h4, by omega⟩, List.getElem?_append_left (by simp; omega), List.getElem?_append_right (by simp; omega)]
              simp only [List.length_take, List.length_map, List.getElem?_map]
              congr 2
              omega
            · rw [if_neg (by omega), List.getElem?_append_right (by simp; omega)]
              simp only [List.length_append, List.length_take, List.length_map, List.getElem?_drop, List.getElem?_map]
              congr 2
              omega
        · intro l hl
          obtain ⟨j, hj⟩ := List.mem_iff_getElem?.1 hl
          rw [writeL_get] at hj
          split at hj
          · exact hokl l (List.mem_of_getElem? hj)
          · exact hokc l (List.mem_of_getElem? hj)
      · exact h.elim
    · rename_i i off hx
      obtain ⟨he, _⟩ := ev_con hF hx
      split at h
      · rename_i n cells e sz hB
        split at h
        · rename_i us hus
          obtain ⟨hpos, h1⟩ := chk_elim h
          obtain ⟨hle, h2⟩ := h1
          obtain ⟨hown, hone⟩ := hW.own hB
          have hcon := vals?_con (ρ := ρ) hus
          rw [hcon] at hc
          have hul : us.length = ti.size := by rw [← hcs, ← Array.length_toList, hc]
          rcases hown.2 with ⟨A0, hv0, h0⟩ | ⟨g, cap, cur, hv0, hg, hnc, hcm, hccs, htk⟩
          · -- no cells
            exfalso
            have hcl : cells = [] := List.eq_nil_of_length_eq_zero (by rw [hown.1, h0]; simp)
            rw [hcl] at hle
            have hpos' : 0 < lenL vs := by simpa using hpos
            rw [lenL_eq] at hpos'
            simp only [List.length_nil] at hle
            omega
          · have hs1 : (ρ.sl i).1 = some ⟨g, 0, none⟩ := by simp only [Val.slv, Value.slice.injEq] at hv0; exact hv0.1
            have hg' : W.heap[g]? = some (.cells cur.toList.toArray e (0, 0)) := by simpa using hg
            have hcl : cells.length = n * sz := hown.1
            have hcs2 : cur.toList.length = cur.size := Array.length_toList
            have hcurlen : n * sz ≤ cur.toList.length := by rw [Array.length_toList, hccs]; exact Nat.mul_le_mul_right _ hnc
            have hr := run_storeAt hT W g off e cur.toList hg' (v.con ρ) hcs (by rw [hc]; omega) (by rw [hc]; intro u hu; have := okL_con (ρ := ρ) hokl; rw [hcon] at this; exact this u hu)
            rw [hc] at hr
            have hadd : Addr.add ⟨g, 0, none⟩ off = ⟨g, off, none⟩ := by rw [addr_add rfl]; simp
            refine ⟨_, by rw [he]; simp only [AV.con, Leaf.con, hs1, Option.map_some, hadd]; exact hr, ρ, _, _, m, h2, ?_, hF⟩
            have hrb : rowBlock (ρ.slv i) = some g := by rw [hv0]; rfl
            refine hW.write (e' := .own n (cells.take off ++ us ++ cells.drop (off + us.length)) e sz) hB hrb hrb ⟨⟨?_, .inr ⟨g, cap, _, hv0, setBlock_same _ _ _ (lt_of_heap hg), hnc, hcm, ?_, ?_⟩⟩, ?_⟩
            · simp only [List.length_append, List.length_take, List.length_drop]; omega
            · rw [List.size_toArray, spliceV_length _ _ _ (by omega), Array.length_toList]; exact hccs
            · simp only [spliceV]
              apply List.ext_getElem?
              intro j
              by_cases hj : j < n * sz
              · rw [List.getElem?_take_of_lt hj]
                have hcellj : cur.toList[j]? = cells[j]? := by rw [← htk, List.getElem?_take_of_lt hj]
                by_cases h1 : j < off
                · rw [List.getElem?_append_left (by simp; omega), List.getElem?_append_left (by simp; omega), List.getElem?_append_left (by simp; omega), List.getElem?_append_left (by simp; omega), List.getElem?_take_of_lt h1, List.getElem?_take_of_lt h1, hcellj]
                · by_cases h4 : j < off + us.length
                  · rw [List.getElem?_append_left (by simp; omega), List.getElem?_append_right (by simp; omega), List.getElem?_append_left (by simp; omega), List.getElem?_append_right (by simp; omega)]
                    simp only [List.length_take, Array.length_toList]
                    congr 1
                    omega
                  · rw [List.getElem?_append_right (by simp; omega), List.getElem?_append_right (by simp; omega)]
                    simp only [List.length_append, List.length_take, List.getElem?_drop]
                    have e1 : off + us.length + (j - (min off cur.toList.length + us.length)) = j := by omega
                    have e2 : off + us.length + (j - (min off cells.length + us.length)) = j := by omega
                    rw [e1, e2, hcellj]
              · rw [List.getElem?_take_eq_none (by omega), List.getElem?_eq_none (by simp; omega)]
            · intro u hu
              simp only [List.mem_append] at hu
              rcases hu with (hu | hu) | hu
              · exact hone u (List.mem_of_mem_take hu)
              · have := okL_con (ρ := ρ) hokl; rw [hcon] at this; exact this u hu
              · exact hone u (List.mem_of_mem_drop hu)
        · exact h.elim
      · exact h.elim
    · exact h.elim
end
end Vc
end

section
open Go
namespace Vc
set_option maxHeartbeats 1000000

theorem run_eqlBool {P : Program} {t : TypeId} (hu : P.underlying t = some .bool) (a b : Bool) (W : World) :
    (binOp .eql t (.bool a) (.bool b)).run P W = .ok (.bool (a == b)) W ∧ (binOp .neq t (.bool a) (.bool b)).run P W = .ok (.bool (!(a == b))) W := by
  have hd : ∀ d, (Op.equalIn (d + 1) t (.bool a) (.bool b)).run P W = .ok (a == b) W := fun d => by simp [Op.equalIn, run_underlying hu]
  have h : (Op.equal t (.bool a) (.bool b)).run P W = .ok (a == b) W := hd 9999
  exact ⟨by simp only [binOp, Sem.run_bind, h, Result.andThen_ok, Sem.run_pure], by simp only [binOp, Sem.run_bind, h, Result.andThen_ok, Sem.run_pure]⟩
theorem boolOf_con {E : Env} {ρ : Val} {m : Mem} {F : Fr} {a : Act} (hF : FS E ρ m F a) {x : Operand} {b : Bool} (h : boolOf (ev F x) = some b) : a.eval x = .bool b := by
  unfold boolOf at h
  split at h
  · rename_i b' hx; cases h; exact (ev_con hF hx).1
  · rename_i b' hx; cases h; exact (ev_con hF hx).1
  · cases h
theorem isBool_spec {P : Program} {Γ : Types} (hΓ : TypesOk P Γ) {t : TypeId} (h : isBool Γ t = true) : P.underlying t = some .bool := by
  unfold isBool at h
  split at h
  · rename_i ti ht
    split at h
    · rename_i hk
      have h1 := (hΓ t ti ht).kind
      rw [hk] at h1
      cases hu : P.underlying t with
      | none => rw [hu] at h1; cases h1
      | some d => rw [hu] at h1; cases d <;> first | rfl | (simp [descKind] at h1)
    · cases h
  · cases h

section
variable {E : Env} (hΓ : TypesOk E.P E.Γ) {ρ : Val} {B : Ents} {m : Mem} {F : Fr} {a : Act} {W : World} {K : Cont} {Q : SPost} (hW : WS E ρ B m W) (hF : FS E ρ m F a)
include hΓ hW hF

abbrev QQ (E : Env) (Q : SPost) : Exit → Act → World → Prop := fun e => Post E (Q e)

omit hΓ in
theorem call_sound {o : Oper} {f : FuncId} {args : List AV} (hr : (execOp a.eval o).run E.P W = (callFunc f (args.map (AV.con ρ)).toArray).run E.P W) (h : CallNode E f args o.dst F B m K Q) : o.wp E.P a W (Post E K) (QQ E Q) := by
  unfold Oper.wp
  rw [hr]
  have hpanic : ∀ ch W', CallEnd E ρ o.dst F m K Q (.panicked ch) W' → QQ E Q (.panic ch) a W' := by
    rintro ch W' ⟨ρ', B', m', hm, hag, hW', hQ⟩
    exact ⟨ρ', F, B', m', hQ, hW', (hF.mono hm).agree hag⟩
  have hret : ∀ v W', CallEnd E ρ o.dst F m K Q (.returned v) W' → Post E K (a.put o.dst v) W' := by
    rintro v W' ⟨ρ', B', m', u, rfl, hok, hm, hag, hW', hK⟩
    exact putK_sound hW' ((hF.mono hm).agree hag) hok hK
  rcases h.out ρ W hW with ⟨hrun, hc⟩ | ⟨v, W', hrun, hc⟩
  · rw [hrun]
    simp only [Oper.upon]
    refine hc.mono fun e W' he => ?_
    cases e with
    | returned v => exact hret v W' he
    | panicked ch => exact hpanic ch W' he
    | outgrown => exact he.elim
  · rw [hrun]
    exact hret v W' hc

omit hΓ hW in
theorem bnd_sound {x : Option Operand} {dflt n : Nat} (h : vcOp.bnd F x dflt n) : (x = none ∧ n = dflt) ∨ ∃ y k, x = some y ∧ a.eval y = .int k (n : Int) := by
  unfold vcOp.bnd at h
  cases x with
  | none => exact .inl ⟨rfl, h⟩
  | some y =>
    right
    simp only at h
    split at h
    · rename_i k z hy
      obtain ⟨he, _⟩ := ev_con hF hy
      subst h
      exact ⟨y, k, rfl, he⟩
    · exact h.elim

omit hW in
theorem nilK_val {op : BinOp} {t : Nat} {x y : Operand} {d : Option Nat} (h : nilK E d op t (ev F x) (ev F y) F B m K) :
    ∃ b, putK E d (boolLeaf b) F B m K ∧ ∀ W', ((do eqGuard op t x y (a.eval x) (a.eval y); binOp op t (a.eval x) (a.eval y)) : Sem Value).run E.P W' = .ok (.bool b) W' := by
  unfold nilK at h
  split at h
  · rename_i et A n c hse hx hy
    obtain ⟨e, te⟩ := et
    obtain ⟨hu, _⟩ := sliceElem_spec hΓ hse
    obtain ⟨hex, _⟩ := ev_con hF hx
    obtain ⟨hey, _⟩ := ev_con hF hy
    rw [hex, hey]
    simp only [AV.con, Leaf.con]
    have heq : ∀ W', (Op.equal t (.slice A n c) (.slice none 0 0)).run E.P W' = .ok A.isNone W' := by
      intro W'
      unfold Op.equal Op.maxDepth Op.equalIn
      simp only [Sem.run_bind, run_underlying hu, Result.andThen_ok]
      cases A <;> rfl
    split at h
    · exact ⟨_, h, fun W' => by simp [eqGuard, binOp, heq]⟩
    · exact ⟨_, h, fun W' => by simp [eqGuard, binOp, heq]⟩
    · exact h.elim
  · exact h.elim

theorem bin_sound {op : BinOp} {t : Nat} {x y : Operand} {d : Option Nat} (h : binK E d op t (ev F x) (ev F y) F B m K) :
    ∃ v, ((do eqGuard op t x y (a.eval x) (a.eval y); binOp op t (a.eval x) (a.eval y)) : Sem Value).run E.P W = .ok v W ∧ Post E K (a.put d v) W := by
  unfold binK at h
  split at h
  · rename_i k z k' z' hx hy
    obtain ⟨hex, _⟩ := ev_con hF hx
    obtain ⟨hey, _⟩ := ev_con hF hy
    rw [hex, hey]
    simp only [AV.con, Leaf.con]
    have hg : (eqGuard op t x y (.int k z) (.int k' z')).run E.P W = .ok () W := by
      unfold eqGuard
      cases op <;> rfl
    simp only [Sem.run_bind, hg, Result.andThen_ok]
    split at h
    · rename_i hk
      have hk := kindEq_spec hk
      subst hk
      split at h
      · obtain ⟨r, hr, h⟩ := h
        exact ⟨.int k r, by simp [binOp, Op.intArith, hr], putK_sound (v := .one (.v (.int k r))) hW hF rfl h⟩
      · obtain ⟨r, hr, h⟩ := h
        exact ⟨.int k r, by simp [binOp, Op.intArith, hr], putK_sound (v := .one (.v (.int k r))) hW hF rfl h⟩
      · obtain ⟨r, hr, h⟩ := h
        exact ⟨.int k r, by simp [binOp, Op.intArith, hr], putK_sound (v := .one (.v (.int k r))) hW hF rfl h⟩
      · obtain ⟨h0, r, hr, h⟩ := h
        exact ⟨.int k r, by simp [binOp, Op.intDiv, h0, hr], putK_sound (v := .one (.v (.int k r))) hW hF rfl h⟩
      · obtain ⟨h0, h⟩ := h
        exact ⟨.int k (z.tmod z'), by simp [binOp, Op.intDiv, h0], putK_sound (v := .one (.v (.int k (z.tmod z')))) hW hF rfl h⟩
      · obtain ⟨h0, r, hr, h⟩ := h
        exact ⟨.int k r, by simp [binOp, Op.shift, Int.not_lt.2 h0, hr], putK_sound (v := .one (.v (.int k r))) hW hF rfl h⟩
      · obtain ⟨h0, r, hr, h⟩ := h
        exact ⟨.int k r, by simp [binOp, Op.shift, Int.not_lt.2 h0, hr], putK_sound (v := .one (.v (.int k r))) hW hF rfl h⟩
      · split at h
        · rename_i r hr
          refine ⟨.bool r, ?_, putK_sound (v := boolLeaf r) hW hF rfl h⟩
          cases op <;> simp only [cmpInt, Option.some.injEq, reduceCtorEq] at hr <;> subst hr
          · simp [binOp, Op.intCmp]; rfl
          · simp [binOp, Op.intCmp]; rfl
          · simp [binOp, Op.intCmp]
          · simp [binOp, Op.intCmp]
          · simp [binOp, Op.intCmp]
          · simp [binOp, Op.intCmp]
        · exact h.elim
    · exact h.elim
  · rename_i s s' hx hy
    obtain ⟨hex, _⟩ := ev_con hF hx
    obtain ⟨hey, _⟩ := ev_con hF hy
    rw [hex, hey]
    simp only [AV.con, Leaf.con]
    have hg : (eqGuard op t x y (.string s) (.string s')).run E.P W = .ok () W := by
      unfold eqGuard
      cases op <;> rfl
    simp only [Sem.run_bind, hg, Result.andThen_ok]
    split at h
    · obtain ⟨hs, h⟩ := h
      refine ⟨.string (s ++ s'), ?_, putK_sound (v := .one (.v (.string (s ++ s')))) hW hF rfl h⟩
      have : ¬ ((s.size + s'.size : Nat) : Int) > IntKind.i64.max := by
        have : IntKind.i64.max = 9223372036854775807 := by decide
        rw [this]; omega
      simp only [binOp, Op.stringOp, this, if_false]
      rfl
    · split at h
      · rename_i r hr
        refine ⟨.bool r, ?_, putK_sound (v := boolLeaf r) hW hF rfl h⟩
        cases op <;> simp only [cmpStr, Option.some.injEq, reduceCtorEq] at hr <;> subst hr
        · simp [binOp, Op.stringOp, toList_eq_iff]
        · simp [binOp, Op.stringOp, toList_eq_iff]
        · simp [binOp, Op.stringOp, sLt]
        · simp [binOp, Op.stringOp, sLt, toList_eq_iff]
        · simp [binOp, Op.stringOp, sLt, toList_eq_iff]
        · simp [binOp, Op.stringOp, sLt]
      · exact h.elim
  · rename_i xs ys hx hy
    obtain ⟨hex, _⟩ := ev_con hF hx
    obtain ⟨hey, _⟩ := ev_con hF hy
    rw [hex, hey]
    simp only [AV.con]
    split at h
    · obtain ⟨us, vs, b, hu, hv, hr, hK⟩ := h.out
      rw [vals?_con hu, vals?_con hv]
      exact ⟨.bool b, hr W, putK_sound (v := boolLeaf b) hW hF rfl hK⟩
    · obtain ⟨us, vs, b, hu, hv, hr, hK⟩ := h.out
      rw [vals?_con hu, vals?_con hv]
      exact ⟨.bool b, hr W, putK_sound (v := boolLeaf b) hW hF rfl hK⟩
    · exact h.elim
  · unfold boolK at h
    split at h
    · rename_i b1 b2 hb1 hb2 hbt
      have hex := boolOf_con hF hb1
      have hey := boolOf_con hF hb2
      have hu := isBool_spec hΓ hbt
      rw [hex, hey]
      have hg : (eqGuard op t x y (.bool b1) (.bool b2)).run E.P W = .ok () W := by
        unfold eqGuard
        cases op <;> rfl
      simp only [Sem.run_bind, hg, Result.andThen_ok]
      split at h
      · exact ⟨.bool (b1 == b2), (run_eqlBool hu b1 b2 W).1, putK_sound (v := boolLeaf (b1 == b2)) hW hF rfl h⟩
      · exact ⟨.bool (!(b1 == b2)), (run_eqlBool hu b1 b2 W).2, putK_sound (v := boolLeaf (!(b1 == b2))) hW hF rfl h⟩
      · exact h.elim
    · obtain ⟨b, h1, h2⟩ := nilK_val hΓ hF h
      exact ⟨.bool b, h2 W, putK_sound (v := boolLeaf b) hW hF rfl h1⟩
end
end Vc
end

section
open Go
namespace Vc
set_option maxHeartbeats 2000000

section
variable {E : Env} (hΓ : TypesOk E.P E.Γ) {ρ : Val} {B : Ents} {m : Mem} {F : Fr} {a : Act} {W : World} {K : Cont} {Q : SPost} (hW : WS E ρ B m W) (hF : FS E ρ m F a)
include hΓ hW hF


omit hΓ in
theorem steps_wp {o : Oper} {st : List Step} {K' : Cont} (h : runSteps st K' F B m)
    (hk : ∀ ρ F B m, WS E ρ B m W → FS E ρ m F a → K' F B m → o.wp E.P a W (Post E K) (QQ E Q)) : o.wp E.P a W (Post E K) (QQ E Q) := by
  obtain ⟨ρ', F', B', m', hK, hW', hF'⟩ := runSteps_sound hW hF h
  exact hk ρ' F' B' m' hW' hF' hK

omit hΓ hW hF in
theorem look_keep {ks : List Nat} {F : Fr} {t : Nat} {v : AV} (h : look t (keepSlots ks F) = some v) : look t F = some v := by
  induction ks with
  | nil => cases h
  | cons k r ih =>
    simp only [keepSlots] at h
    split at h
    · rename_i u hu
      by_cases hk : t = k
      · subst hk; rw [look_cons_eq] at h; rw [hu]; exact h
      · rw [look_cons_ne _ _ hk] at h; exact ih h
    · exact ih h
omit hΓ hW hF in
theorem FS.keepSlots {E : Env} {ρ : Val} {m : Mem} {F : Fr} {a : Act} (hF : FS E ρ m F a) (ks : List Nat) : FS E ρ m (keepSlots ks F) a :=
  ⟨hF.size, fun d v hd => hF.vals d v (look_keep hd), hF.defers⟩
omit hΓ in
theorem cuts_wp {o : Oper} {st : List Step} {K' : Cont} (h : runCuts E st K' F B m)
    (hk : ∀ ρ F B m, WS E ρ B m W → FS E ρ m F a → K' F B m → o.wp E.P a W (Post E K) (QQ E Q)) : o.wp E.P a W (Post E K) (QQ E Q) := by
  obtain ⟨ρ', F', B', m', hK, hW', hF'⟩ := runCuts_sound hW hF h
  exact hk ρ' F' B' m' hW' hF' hK

theorem callK_sound {o : Oper} {c : Call} (ho : o.op = .call c) (h : callK E c o.type o.dst F B m K Q) : o.wp E.P a W (Post E K) (QQ E Q) := by
  unfold callK at h
  split at h
  · rename_i b hcal
    split at h
    · -- len
      rename_i x hx
      split at h
      · rename_i t hty
        obtain ⟨hev, hok⟩ := evs_con hF hx
        have hargs : c.args.map a.eval = #[x.con ρ] := by
          apply Array.ext'
          rw [Array.toList_map, hev]; simp
        have hat : c.argTypes[0]? = some t := by rw [← Array.getElem?_toList, hty]; rfl
        split at h
        · rename_i et A n c' hse
          obtain ⟨e, te⟩ := et
          obtain ⟨hu, _⟩ := sliceElem_spec hΓ hse
          refine wp_value (W' := W) (v := .int .i64 n) ?_ (putK_sound (v := .one (.v (.int .i64 n))) hW hF rfl h)
          simp [execOp, ho, resolve, hcal, invoke, builtin, hargs, Builtin.len_, hat, run_underlying hu, AV.con, Leaf.con, goInt]
        · rename_i et i hse
          obtain ⟨e, te⟩ := et
          obtain ⟨hu, _⟩ := sliceElem_spec hΓ hse
          split at h
          · rename_i n cells e' sz hB
            have hown := (hW.own hB).1
            have hsl : (ρ.sl i).2.1 = n := by
              rcases hown.2 with ⟨A0, hv, h0⟩ | ⟨g, cap, cur, hv, _⟩ <;> · simp only [Val.slv, Value.slice.injEq] at hv; omega
            refine wp_value (W' := W) (v := .int .i64 n) ?_ (putK_sound (v := .one (.v (.int .i64 n))) hW hF rfl h)
            simp [execOp, ho, resolve, hcal, invoke, builtin, hargs, Builtin.len_, hat, run_underlying hu, AV.con, Leaf.con, goInt, Val.slv, hsl]
          · exact h.elim
        · rename_i s hse hstr
          have hu := isString_spec hΓ hstr
          refine wp_value (W' := W) (v := .int .i64 s.size) ?_ (putK_sound (v := .one (.v (.int .i64 s.size))) hW hF rfl h)
          simp [execOp, ho, resolve, hcal, invoke, builtin, hargs, Builtin.len_, hat, run_underlying hu, AV.con, Leaf.con, goInt]
        · exact h.elim
      · exact h.elim
    · -- cap
      rename_i A0 n0 c0 hx
      split at h
      · rename_i t hty
        obtain ⟨hev, hok⟩ := evs_con hF hx
        have hargs : c.args.map a.eval = #[.slice A0 n0 c0] := by
          apply Array.ext'
          rw [Array.toList_map, hev]; simp [AV.con, Leaf.con]
        have hat : c.argTypes[0]? = some t := by rw [← Array.getElem?_toList, hty]; rfl
        split at h
        · rename_i et hse
          obtain ⟨e, te⟩ := et
          obtain ⟨hu, _⟩ := sliceElem_spec hΓ hse
          refine wp_value (W' := W) (v := .int .i64 c0) ?_ (putK_sound (v := .one (.v (.int .i64 c0))) hW hF rfl h)
          simp [execOp, ho, resolve, hcal, invoke, builtin, hargs, Builtin.cap_, hat, run_underlying hu, goInt]
        · exact h.elim
      · exact h.elim
    · -- max
      rename_i k x k' y hx
      obtain ⟨hk, h'⟩ := chk_elim h
      have hk := kindEq_spec hk
      subst hk
      obtain ⟨hev, hok⟩ := evs_con hF hx
      have hargs : c.args.map a.eval = #[.int k x, .int k y] := by
        apply Array.ext'
        rw [Array.toList_map, hev]; simp [AV.con, Leaf.con]
      refine wp_value (W' := W) (v := .int k (if y > x then y else x)) ?_ (putK_sound (v := .one (.v (.int k (if y > x then y else x)))) hW hF rfl h')
      simp [execOp, ho, resolve, hcal, invoke, builtin, hargs, Builtin.max_, Builtin.max2, AV.con, Leaf.con]
    · -- min
      rename_i k x k' y hx
      obtain ⟨hk, h'⟩ := chk_elim h
      have hk := kindEq_spec hk
      subst hk
      obtain ⟨hev, hok⟩ := evs_con hF hx
      have hargs : c.args.map a.eval = #[.int k x, .int k y] := by
        apply Array.ext'
        rw [Array.toList_map, hev]; simp [AV.con, Leaf.con]
      refine wp_value (W' := W) (v := .int k (if y < x then y else x)) ?_ (putK_sound (v := .one (.v (.int k (if y < x then y else x)))) hW hF rfl h')
      simp [execOp, ho, resolve, hcal, invoke, builtin, hargs, Builtin.min_, Builtin.min2, AV.con, Leaf.con]
    · -- append
      obtain ⟨st, h⟩ := h
      refine cuts_wp hW hF h (fun ρ F B m hW hF h => ?_)
      split at h
      · rename_i s x hx
        split at h
        · rename_i t1 t2 hty
          split at h
          · rename_i et2 hse
            obtain ⟨e2, te2⟩ := et2
            obtain ⟨_, _, hti⟩ := sliceElem_spec hΓ hse
            obtain ⟨ti2, h1, h2⟩ := hti
            obtain ⟨v, W', hr, hP⟩ := appendK_sound (ty := o.type) (t2 := t2) hΓ hW hF ⟨ti2, e2, h1, h2⟩ h
            obtain ⟨hev, _⟩ := evs_con hF hx
            have hargs : c.args.map a.eval = #[s.con ρ, x.con ρ] := by
              apply Array.ext'
              rw [Array.toList_map, hev]; simp
            have hat : c.argTypes = #[t1, t2] := by apply Array.ext'; rw [hty]
            refine wp_value (W' := W') (v := v) ?_ hP
            simp only [execOp, ho, resolve, hcal, Sem.run_bind, Sem.run_pure, Result.andThen_ok, invoke, builtin, hargs, hat, hr]
          · exact h.elim
        · exact h.elim
      · exact h.elim
    · exact h.elim
  · rename_i f hcal
    obtain ⟨st, h⟩ := h
    cases hks : keepsOf st with
    | none =>
      rw [hks] at h
      refine cuts_wp hW hF h (fun ρ F B m hW hF h => ?_)
      dsimp only at h
      split at h
      · rename_i g caps avs hf hx
        obtain ⟨hev, _⟩ := evs_con hF hx
        obtain ⟨hef, _⟩ := ev_con hF hf
        refine call_sound hW hF (ρ := ρ) ?_ (forceAVs_elim h)
        have hargs : c.args.map a.eval = (avs.map (AV.con ρ)).toArray := by
          apply Array.ext'
          rw [Array.toList_map, hev]
        have hcaps : ∀ l : List Cap, (l.map capAV).map (AV.con ρ) = l.map (Cap.con ρ) := by
          intro l
          rw [List.map_map]
          apply List.map_congr_left
          intro cp _
          cases cp with
          | v x =>
            simp only [Function.comp, capAV, ofValue, Cap.con]
            split
            · simp [AV.con, conL_vmap]
            · rfl
          | ptr i off => rfl
        simp only [execOp, ho, resolve, hcal, hef, AV.con, Leaf.con, Deferred.ofValue, Sem.run_bind, Sem.run_pure, Result.andThen_ok, invoke, hargs, List.map_append, hcaps]
        simp
      · rename_i fv avs hf hx
        obtain ⟨hev, _⟩ := evs_con hF hx
        obtain ⟨hef, _⟩ := ev_con hF hf
        obtain ⟨g, caps, rfl, h'⟩ := forceAVs_elim h
        refine call_sound hW hF (ρ := ρ) ?_ h'
        have hargs : c.args.map a.eval = (avs.map (AV.con ρ)).toArray := by
          apply Array.ext'
          rw [Array.toList_map, hev]
        have hcaps : ∀ l : List Value, (l.map ofValue).map (AV.con ρ) = l := by
          intro l
          rw [List.map_map]
          conv => rhs; rw [← List.map_id l]
          apply List.map_congr_left
          intro x _
          simp only [Function.comp, ofValue, id]
          split
          · simp [AV.con, conL_vmap]
          · rfl
        simp only [execOp, ho, resolve, hcal, hef, AV.con, Leaf.con, Deferred.ofValue, Sem.run_bind, Sem.run_pure, Result.andThen_ok, invoke, hargs, List.map_append, hcaps]
        congr 2
        apply Array.ext'
        simp
      · exact h.elim
    | some ks =>
      rw [hks] at h
      refine cuts_wp hW hF h (fun ρ F B m hW hF h => ?_)
      dsimp only at h
      split at h
      · rename_i g caps avs hf hx
        obtain ⟨hev, _⟩ := evs_con hF hx
        obtain ⟨hef, _⟩ := ev_con hF hf
        refine call_sound hW (hF.keepSlots ks) (ρ := ρ) ?_ (forceAVs_elim h)
        have hargs : c.args.map a.eval = (avs.map (AV.con ρ)).toArray := by
          apply Array.ext'
          rw [Array.toList_map, hev]
        have hcaps : ∀ l : List Cap, (l.map capAV).map (AV.con ρ) = l.map (Cap.con ρ) := by
          intro l
          rw [List.map_map]
          apply List.map_congr_left
          intro cp _
          cases cp with
          | v x =>
            simp only [Function.comp, capAV, ofValue, Cap.con]
            split
            · simp [AV.con, conL_vmap]
            · rfl
          | ptr i off => rfl
        simp only [execOp, ho, resolve, hcal, hef, AV.con, Leaf.con, Deferred.ofValue, Sem.run_bind, Sem.run_pure, Result.andThen_ok, invoke, hargs, List.map_append, hcaps]
        simp
      · exact h.elim
  · exact h.elim

omit hΓ hW hF in
theorem run_places {P : Program} (W : World) (fs : List Field) (h : ∀ f ∈ fs, (P.info? f.type).isSome = true) :
    (fs.mapM fun f => (do pure (f.offset, ← Go.sizeOf f.type) : Sem (Nat × Nat))).run P W = .ok (fs.map fun f => (f.offset, ((P.info? f.type).map (·.size)).getD 0)) W := by
  induction fs with
  | nil => rfl
  | cons f r ih =>
    have h1 := h f (by simp)
    cases hi : P.info? f.type with
    | none => rw [hi] at h1; cases h1
    | some i =>
      simp only [List.mapM_cons, Sem.run_bind, Go.sizeOf, typeInfo, run_program, Result.andThen_ok, hi, Sem.run_pure, List.map_cons] at ih ⊢
      rw [ih (fun g hg => h g (by simp [hg]))]
      rfl

omit hΓ hW in
theorem run_sliceBounds {isSlice : Bool} {len cap l h : Nat} {lo hi : Option Operand} (hlh : l ≤ h) (hhc : h ≤ cap) (hlo : vcOp.bnd F lo 0 l) (hhi : vcOp.bnd F hi len h) :
    (Instr.sliceBounds isSlice len cap (lo.map a.eval) (hi.map a.eval) none).run E.P W = .ok (l, h, cap) W := by
  have hh : (0 : Int) ≤ (h : Int) ∧ (h : Int) ≤ (cap : Int) := by omega
  have hl : (0 : Int) ≤ (l : Int) ∧ (l : Int) ≤ (h : Int) := by omega
  rcases bnd_sound hF hlo with ⟨rfl, rfl⟩ | ⟨y, k, rfl, hy⟩ <;> rcases bnd_sound hF hhi with ⟨rfl, rfl⟩ | ⟨y', k', rfl, hy'⟩
  · simp [Instr.sliceBounds]
  · simp [Instr.sliceBounds, Instr.sliceBound, hy', asIntOf, hhc]
  · simp [Instr.sliceBounds, Instr.sliceBound, hy, asIntOf, hlh]
  · simp [Instr.sliceBounds, Instr.sliceBound, hy, hy', asIntOf, hhc, hlh]

theorem vcOp_sound {o : Oper} (h : vcOp E o K Q F B m) : o.wp E.P a W (Post E K) (QQ E Q) := by
  unfold vcOp at h
  split at h
  · rename_i x ho
    exact wp_value (by simp [execOp, ho]) (putO_sound hW hF h)
  · rename_i x ho
    exact wp_value (by simp [execOp, ho]) (putO_sound hW hF h)
  · -- pick
    rename_i c x y ho
    obtain ⟨b, hb, h1, h2⟩ := splitB_sound hF h
    cases b with
    | true => exact wp_value (W' := W) (v := a.eval x) (by simp [execOp, ho, hb, asBool]) (putO_sound hW hF (h1 rfl))
    | false => exact wp_value (W' := W) (v := a.eval y) (by simp [execOp, ho, hb, asBool]) (putO_sound hW hF (h2 rfl))
  · -- alloc
    rename_i t ho
    split at h
    · rename_i ti d ht hd
      obtain ⟨hdN, h1⟩ := chk_elim h
      obtain ⟨hnm, h2'⟩ := chk_elim h1
      obtain ⟨hpn, h2⟩ := chk_elim h2'
      have h3 := forceL_elim h2
      have hT := hΓ t ti ht
      obtain ⟨z, hz, hzc⟩ := hT.run_zero W
      have hno : ∀ l : List Value, leavesNo d (vmap l) = true := by
        intro l; induction l with
        | nil => rfl
        | cons x r ih => simpa [vmap, leavesNo, leafNo] using ih
      have hP := alloc_sound hW hF hdN hnm hpn (hno ti.zero) (okL_vmap (oneAll_spec hT.zero1)) h3
      rw [conL_vmap, ← hzc] at hP
      refine wp_value (W' := W.alloc (.cells z.cells t)) (v := .pointer (some ⟨W.heap.size, 0, none⟩)) ?_ (by rw [hd]; simpa using hP)
      simp only [execOp, ho, Instr.alloc, Sem.run_bind, hz, Result.andThen_ok, newVar, newRow, run_newObj, Sem.run_pure]
      rfl
    · exact h.elim
  · -- box
    rename_i t x ho
    split at h
    · rename_i vs d hl hd
      obtain ⟨hdN, h1⟩ := chk_elim h
      obtain ⟨hnm, h2'⟩ := chk_elim h1
      obtain ⟨hpn, h2⟩ := chk_elim h2'
      obtain ⟨hno, h3⟩ := chk_elim h2
      have h4 := forceL_elim h3
      cases hv : ev F x with
      | none => rw [hv] at hl; cases hl
      | some v =>
        rw [hv] at hl
        obtain ⟨he, hok⟩ := ev_con hF hv
        obtain ⟨hc, hokl⟩ := cells_av (ρ := ρ) hl hok
        have hP := alloc_sound hW hF hdN hnm hpn hno hokl h4
        rw [← hc] at hP
        refine wp_value (W' := W.alloc (.cells (v.con ρ).cells t)) (v := .pointer (some ⟨W.heap.size, 0, none⟩)) ?_ (by rw [hd]; simpa using hP)
        simp only [execOp, ho, Instr.box, Sem.run_bind, he, newVar, newRow, run_newObj, Result.andThen_ok, Sem.run_pure]
        rfl
    · exact h.elim
  · -- build
    rename_i t parts ho
    split at h
    · rename_i fs zero hs
      obtain ⟨ti, ht, hk, rfl⟩ := structFields_spec hΓ hs
      have hT := hΓ t ti ht
      split at h
      · rename_i ls hfill
        obtain ⟨z, hz, hzc⟩ := hT.run_zero W
        obtain ⟨fs', hu, hmap⟩ := hT.struct_ hk
        have hfields := hT.fields
        rw [hk] at hfields
        simp only [List.all_eq_true] at hfields
        have hsome : ∀ f ∈ fs'.toList, (E.P.info? f.type).isSome = true := by
          intro f hf
          exact hfields (f.offset, f.type) (by rw [← hmap]; exact List.mem_map.2 ⟨f, hf, rfl⟩)
        have hpl := run_places (P := E.P) W fs'.toList hsome
        obtain ⟨h1, h2, _⟩ := fillL_sound (ρ := ρ) hF (fieldPlaces E.Γ fs) (fun i => (fs'.toList.map fun f => (f.offset, ((E.P.info? f.type).map (·.size)).getD 0)).toArray[i]?) (fun i p hp => by
          unfold fieldPlaces at hp
          split at hp
          · rename_i off t' hf
            split at hp
            · rename_i te hte
              simp only [Option.some.injEq] at hp
              subst hp
              rw [← hmap, List.getElem?_map] at hf
              cases hff : fs'.toList[i]? with
              | none => rw [hff] at hf; cases hf
              | some fd =>
                rw [hff] at hf
                simp only [Option.map_some, Option.some.injEq, Prod.mk.injEq] at hf
                obtain ⟨d2, i2, z2, _, _, hi2, hs2, _⟩ := (hΓ t' te hte).get
                rw [List.getElem?_toArray, List.getElem?_map, hff]
                simp [hf.1, hf.2, hi2, hs2]
            · cases hp
          · cases hp) parts.toList _ _ (okL_vmap (oneAll_spec hT.zero1)) hfill
        rw [conL_vmap, ← hzc] at h1
        refine wp_value (W' := W) (v := .agg (conL ρ ls).toArray) ?_ (putK_sound (v := .agg ls) hW hF h2 h)
        have hpl' : (fs'.mapM fun f => (do pure (f.offset, ← Go.sizeOf f.type) : Sem (Nat × Nat))).run E.P W = .ok (fs'.toList.map fun f => (f.offset, ((E.P.info? f.type).map (·.size)).getD 0)).toArray W := by
          have : (fs'.mapM fun f => (do pure (f.offset, ← Go.sizeOf f.type) : Sem (Nat × Nat))) = List.toArray <$> (fs'.toList.mapM fun f => (do pure (f.offset, ← Go.sizeOf f.type) : Sem (Nat × Nat))) := by
            rw [Array.mapM_eq_mapM_toList]
          rw [this, Sem.run_map, hpl]; rfl
        have hpt : (parts.map fun p => (p.1, a.eval p.2)).toList = parts.toList.map fun p => (p.1, a.eval p.2) := by simp
        have h1' : Instr.fill (fun x => (fs'.toList.map fun f => (f.offset, ((E.P.info? f.type).map (·.size)).getD 0)).toArray[x]?) z.cells (parts.toList.map fun p => (p.1, a.eval p.2)) = some (conL ρ ls).toArray := by simpa using h1
        simp only [execOp, ho, Instr.build, Sem.run_bind, hz, Result.andThen_ok, run_underlying hu, hpl', hpt, h1', Sem.run_pure]
      · exact h.elim
    · exact h.elim
  · -- buildSlice
    rename_i t len parts ho
    split at h
    · rename_i e te d hse hd
      obtain ⟨hu, hE, _⟩ := sliceElem_spec hΓ hse
      obtain ⟨st, h⟩ := h
      refine steps_wp hW hF h (fun ρ F B m hW hF h => ?_)
      split at h
      · rename_i ls hfill
        split at h
        · rename_i us hus
          obtain ⟨hdN, h1⟩ := chk_elim h
          obtain ⟨hnm, h2⟩ := chk_elim h1
          obtain ⟨hle, h3⟩ := chk_elim h2
          obtain ⟨hpos, h4⟩ := chk_elim h3
          have hle := Nat.le_of_ble_eq_true hle
          have hpos : 0 < te.size := by simpa using hpos
          obtain ⟨hr, hok, hlen⟩ := run_buildSlice hu hE hpos len hle hF parts.toList hfill W
          have hcon := vals?_con (ρ := ρ) hus
          obtain ⟨hf, hB⟩ := newName_spec hnm
          have hρ := AgreeBut.sl ρ d (some ⟨W.heap.size, 0, none⟩, len, len)
          have hslv : (ρ.setSl d (some ⟨W.heap.size, 0, none⟩, len, len)).slv d = .slice (some ⟨W.heap.size, 0, none⟩) len len := by simp [Val.slv, Val.setSl]
          have hul : us.length = len * te.size := by rw [← hcon]; simpa [conL] using hlen
          have hone : ∀ u ∈ us, u.oneCell' = true := by rw [← hcon]; exact okL_con hok
          have hown : OwnRow (W.alloc (.cells us.toArray e)) e te.size (.slice (some ⟨W.heap.size, 0, none⟩) len len) len us := by
            refine ⟨hul, ?_⟩
            cases len with
            | zero => exact .inl ⟨_, rfl, rfl⟩
            | succ len =>
              have hm : len + 1 ≤ maxLen := by
                have : (len + 1) * 1 ≤ (len + 1) * te.size := Nat.mul_le_mul_left _ hpos
                simp only [maxLen]; omega
              exact .inr ⟨W.heap.size, len, us.toArray, rfl, heap_alloc_new' W _, Nat.le_refl _, hm, by simpa using hul, by rw [← hul]; simp⟩
          have hW2 := hW.add hρ hB (e := .own len us e te.size) (W' := W.alloc (.cells us.toArray e)) ⟨by rw [hslv]; exact hown, hone⟩ (fun b hbb => by
            simp only [Ent.block, hslv] at hbb
            obtain ⟨a0, n0, c0, hv, hb⟩ := rowBlock_some hbb
            simp only [Value.slice.injEq] at hv
            rw [← hb, ← Option.some.inj hv.1]
            exact Nat.le_refl _) rfl rfl rfl (by show _ ≤ (W.heap.push _).size; simp) (heap_alloc_old W _) (fun _ _ => rfl)
          have hF1 := (hF.agree (frNo_con hρ hf)).put (d := d) (v := .one (.own d)) hdN trivial
          rw [show AV.con (ρ.setSl d (some ⟨W.heap.size, 0, none⟩, len, len)) (.one (.own d)) = .slice (some ⟨W.heap.size, 0, none⟩) len len from hslv] at hF1
          refine wp_value (W' := W.alloc (.cells us.toArray e)) (v := .slice (some ⟨W.heap.size, 0, none⟩) len len) ?_ (by rw [hd]; exact ⟨_, _, _, m, h4, hW2, hF1⟩)
          rw [hcon] at hr
          have hpt : (parts.map fun p => (p.1, a.eval p.2)) = parts.toList.toArray.map fun p => (p.1, a.eval p.2) := by simp
          simp only [execOp, ho, Sem.run_bind]
          rw [show (Array.map (fun x : Nat × Operand => match x with | (i, x) => (i, a.eval x)) parts) = parts.toList.toArray.map fun p => (p.1, a.eval p.2) from by simp]
          rw [hr]
          rfl
        · exact h.elim
      · exact h.elim
    · exact h.elim
  · -- load
    rename_i t x ho
    split at h
    · rename_i ti ht
      obtain ⟨ls, h1, hok, hrun⟩ := load_sound hΓ hW hF ht h
      obtain ⟨hl, h2⟩ := chk_elim h1
      have hl := Nat.eq_of_beq_eq_true hl
      rw [lenL_eq] at hl
      cases hv : mkAV ti.kind.isAgg ls with
      | none => rw [hv] at h2; exact h2.elim
      | some v =>
        rw [hv] at h2
        refine wp_value (W' := W) (v := v.con ρ) ?_ (putK_sound hW hF (mkAV_ok hv hok) h2)
        simp only [execOp, ho, Sem.run_bind, hrun v hv hl, Result.andThen_ok, Sem.run_pure]
    · exact h.elim
  · -- store
    rename_i t x y ho
    split at h
    · rename_i vs hy
      split at h
      · rename_i ti ht
        split at h
        · rename_i hd
          obtain ⟨hsz, h1⟩ := chk_elim h
          obtain ⟨W', hr, hP⟩ := store_sound hΓ hW hF ht hy hsz h1
          refine wp_skip' (W' := W') ?_ (by rw [hd]; exact hP)
          simp only [execOp, ho, Sem.run_bind, hr, Result.andThen_ok, Sem.run_pure]
        · exact h.elim
      · exact h.elim
    · exact h.elim
  · -- nilCheck
    rename_i x ho
    split at h
    · rename_i i off hx
      obtain ⟨he, hok⟩ := ev_con hF hx
      exact wp_value (W' := W) (by simp [execOp, ho, he, AV.con, Leaf.con]) (putK_sound hW hF hok h)
    · rename_i ad cs off hx
      obtain ⟨he, hok⟩ := ev_con hF hx
      exact wp_value (W' := W) (by simp [execOp, ho, he, AV.con, Leaf.con]) (putK_sound hW hF hok h)
    · exact h.elim
  · -- fieldAddr
    rename_i t x f ho
    split at h
    · rename_i o' i off hfo hx
      obtain ⟨he, hok⟩ := ev_con hF hx
      refine wp_value (W' := W) ?_ (putK_sound (v := .one (.ptr i (off + o'))) hW hF trivial h)
      simp only [execOp, ho, he, AV.con, Leaf.con, Sem.run_bind, fieldOff_spec hΓ hfo, Result.andThen_ok, Sem.run_pure, addr_add (a := ⟨ρ.blk i, off, none⟩) rfl]
    · rename_i o' i off hfo hx
      obtain ⟨he, hok⟩ := ev_con hF hx
      split at h
      · rename_i n cells e sz hB
        obtain ⟨hn, h⟩ := h
        obtain ⟨g, cap, cur, hv, _⟩ := OwnRow.cell (hW.own hB).1 hn
        have hs1 : (ρ.sl i).1 = some ⟨g, 0, none⟩ := by simp only [Val.slv, Value.slice.injEq] at hv; exact hv.1
        refine wp_value (W' := W) ?_ (putK_sound (v := .one (.optr i (off + o'))) hW hF trivial h)
        simp only [execOp, ho, he, AV.con, Leaf.con, hs1, Option.map_some, Sem.run_bind, fieldOff_spec hΓ hfo, Result.andThen_ok, Sem.run_pure]
        rw [addr_add (a := ⟨g, 0, none⟩) rfl, addr_add rfl, addr_add (a := ⟨g, 0, none⟩) rfl]
        simp [Nat.add_assoc]
      · exact h.elim
    · rename_i o' ad cs off hfo hx
      obtain ⟨he, hok⟩ := ev_con hF hx
      have hsp : ad.spot = none := (show MemReads m ad cs from hok).1
      refine wp_value (W' := W) ?_ (putK_sound (v := .one (.rd ad cs (off + o'))) hW hF hok h)
      simp only [execOp, ho, he, AV.con, Leaf.con, Sem.run_bind, fieldOff_spec hΓ hfo, Result.andThen_ok, Sem.run_pure]
      rw [addr_add hsp, addr_add rfl, addr_add hsp]
      simp [Nat.add_assoc]
    · exact h.elim
  · -- field
    rename_i t x f ho
    split at h
    · rename_i fs zero ls hs hx
      obtain ⟨he, hok⟩ := ev_con hF hx
      obtain ⟨ti, ht, hk, rfl⟩ := structFields_spec hΓ hs
      split at h
      · rename_i o' t' hf
        split at h
        · rename_i te hte
          obtain ⟨fs', hu, hmap⟩ := (hΓ t ti ht).struct_ hk
          have hTe := hΓ t' te hte
          rw [takeL_eq, dropL_eq] at h
          cases hv : mkAV te.kind.isAgg ((ls.drop o').take te.size) with
          | none => rw [hv] at h; exact h.elim
          | some v =>
            rw [hv] at h
            refine wp_value (W' := W) (v := v.con ρ) ?_ (putK_sound hW hF (mkAV_ok hv (okL_take (okL_drop hok))) h)
            have hmk := mkAV_con (ρ := ρ) hv
            rw [← hmap, List.getElem?_map] at hf
            cases hff : fs'.toList[f]? with
            | none => rw [hff] at hf; cases hf
            | some fd =>
              rw [hff] at hf
              simp only [Option.map_some, Option.some.injEq, Prod.mk.injEq] at hf
              have hff' : fs'[f]? = some fd := by simpa using hff
              have hpart : (part t' (conL ρ ls).toArray o').run E.P W = .ok (v.con ρ) W := by
                simp only [part, Sem.run_bind, hTe.run_isAgg, Result.andThen_ok]
                cases hg : te.kind.isAgg with
                | true =>
                  rw [hg] at hmk
                  simp only [mkV, Option.some.injEq] at hmk
                  simp only [if_true, Sem.run_bind, hTe.run_sizeOf, Result.andThen_ok, Sem.run_pure]
                  rw [← hmk]
                  congr 2
                  apply Array.ext'
                  simp [conL, List.map_take, List.map_drop, List.extract_eq_take_drop]
                | false =>
                  rw [hg] at hmk hv
                  match hls : (ls.drop o').take te.size, hmk, hv with
                  | [l], hmk, hv =>
                    simp only [mkV, conL, List.map_cons, List.map_nil, Option.some.injEq] at hmk
                    have h0 : ((ls.drop o').take te.size)[0]? = some l := by rw [hls]; rfl
                    rw [List.getElem?_take] at h0
                    split at h0
                    · rw [List.getElem?_drop] at h0
                      simp only [Nat.add_zero] at h0
                      have : (conL ρ ls).toArray[o']? = some (l.con ρ) := by simp [conL, h0]
                      simp [this, hmk]
                    · cases h0
              simp only [execOp, ho, Instr.field, Sem.run_bind, run_underlying hu, Result.andThen_ok, hff', he, AV.con, asAgg, Sem.run_pure]
              rw [hf.1, hf.2, hpart]
              rfl
        · exact h.elim
      · exact h.elim
    · exact h.elim
  · -- indexAddr
    rename_i t x i ho
    split at h
    · rename_i e te A n c k z hse hx hi
      obtain ⟨hex, _⟩ := ev_con hF hx
      obtain ⟨hei, _⟩ := ev_con hF hi
      obtain ⟨hu, hE, _⟩ := sliceElem_spec hΓ hse
      obtain ⟨j, ad, cs, hz, hj, hA, hm, h⟩ := h
      subst hz hA
      refine wp_value (W' := W) ?_ (putK_sound (v := .one (.rd (ad.add (j * te.size)) cs 0)) hW hF hm h)
      have h1 : (0 : Int) ≤ (j : Int) ∧ (j : Int) < (n : Int) := by omega
      have hadd : (ad.add (j * te.size)).add 0 = ad.add (j * te.size) := rfl
      simp [execOp, ho, hex, hei, AV.con, Leaf.con, Instr.indexAt, asIntOf, run_underlying hu, h1, hE.run_sizeOf, hadd, hj]
    · rename_i e te j k z hse hx hi
      obtain ⟨hex, _⟩ := ev_con hF hx
      obtain ⟨hei, _⟩ := ev_con hF hi
      obtain ⟨hu, hE, _⟩ := sliceElem_spec hΓ hse
      split at h
      · rename_i n cells e' sz hB
        obtain ⟨hsz, h1⟩ := chk_elim h
        obtain ⟨i', hz, hn, h2⟩ := h1
        subst hz
        have hown := (hW.own hB).1
        obtain ⟨g, cap, cur, hv, _⟩ := OwnRow.cell hown (by omega)
        have hs : ρ.sl j = (some ⟨g, 0, none⟩, n, cap + 1) := by
          simp only [Val.slv, Value.slice.injEq] at hv
          exact Prod.ext hv.1 (Prod.ext hv.2.1 hv.2.2)
        refine wp_value (W' := W) ?_ (putK_sound (v := .one (.optr j (i' * te.size))) hW hF trivial h2)
        have h1 : (0 : Int) ≤ (i' : Int) ∧ (i' : Int) < (n : Int) := by omega
        simp [execOp, ho, hex, hei, AV.con, Leaf.con, Val.slv, hs, Instr.indexAt, asIntOf, run_underlying hu, h1, hE.run_sizeOf, hn]
      · exact h.elim
    · exact h.elim
  · -- index
    rename_i t x i ho
    split at h
    · rename_i s k z hstr hx hi
      obtain ⟨hex, _⟩ := ev_con hF hx
      obtain ⟨hei, _⟩ := ev_con hF hi
      have hu := isString_spec hΓ hstr
      obtain ⟨j, hj, hz, h⟩ := h
      subst hz
      refine wp_value (W' := W) ?_ (putK_sound (v := .one (.v (.int .u8 ((s[j]'hj).toNat : Int)))) hW hF rfl h)
      simp [execOp, ho, hex, hei, AV.con, Leaf.con, Instr.index, asIntOf, run_underlying hu, hj]
    · exact h.elim
  · -- binOp
    rename_i op t x y yt ho
    obtain ⟨v, hr, hP⟩ := bin_sound hΓ hW hF h
    refine wp_value (W' := W) ?_ hP
    simp only [execOp, ho]
    rw [Sem.run_bind, hr]
    rfl
  · -- unOp
    rename_i op t x ho
    split at h
    · rename_i b hx
      obtain ⟨he, hok⟩ := ev_con hF hx
      exact wp_value (W' := W) (by simp [execOp, ho, he, AV.con, Leaf.con, Op.unary]) (putK_sound (v := .one (.kb (!b))) hW hF trivial h)
    · rename_i b hx
      obtain ⟨he, hok⟩ := ev_con hF hx
      exact wp_value (W' := W) (by simp [execOp, ho, he, AV.con, Leaf.con, Op.unary, boolLeaf]) (putK_sound (v := boolLeaf (!b)) hW hF rfl h)
    · rename_i k z hx
      obtain ⟨he, hok⟩ := ev_con hF hx
      obtain ⟨r, hr, h⟩ := h
      refine wp_value (W' := W) (v := .int k r) ?_ (putK_sound (v := .one (.v (.int k r))) hW hF rfl h)
      simp only [Int.zero_sub] at hr
      simp [execOp, ho, he, AV.con, Leaf.con, Op.unary, Op.intArith, hr]
    · exact h.elim
  · -- convert
    rename_i s t x ho
    split at h
    · rename_i k ks k0 z ht hs hx
      obtain ⟨he, hok⟩ := ev_con hF hx
      obtain ⟨r, hr, h⟩ := h
      refine wp_value (W' := W) (v := .int k r) ?_ (putK_sound (v := .one (.v (.int k r))) hW hF rfl h)
      simp [execOp, ho, he, AV.con, Leaf.con, convert, run_underlying (intKind_spec hΓ ht), run_underlying (intKind_spec hΓ hs), Conv.intToInt, hr]
    · rename_i z hx
      obtain ⟨he, hok⟩ := ev_con hF hx
      split at h
      · rename_i ht hs
        refine wp_value (W' := W) ?_ (putK_sound hW hF hok h)
        simp [execOp, ho, he, AV.con, Leaf.con, convert, run_underlying (isString_spec hΓ ht), run_underlying (isString_spec hΓ hs)]
      · exact h.out ρ a W hW hF
    · exact h.out ρ a W hW hF
  · -- extract
    rename_i x i ho
    split at h
    · rename_i vs hx
      obtain ⟨he, hok⟩ := ev_con hF hx
      have hvs : ∀ p, vs[i]? = some p → (execOp a.eval o).run E.P W = .ok (.value (partCon ρ p)) W ∧ okL m p.2 := by
        intro p hp
        refine ⟨?_, (show ∀ p ∈ vs, okL m p.2 from hok) p (List.mem_of_getElem? hp)⟩
        simp [execOp, ho, he, AV.con, Instr.extract, hp]
      split at h
      · rename_i ls hp
        obtain ⟨h1, h2⟩ := hvs _ hp
        exact wp_value h1 (putK_sound (v := .agg ls) hW hF h2 h)
      · rename_i l hp
        obtain ⟨h1, h2⟩ := hvs _ hp
        exact wp_value h1 (putK_sound (v := .one l) hW hF (h2 l (by simp)) h)
      · exact h.elim
    · exact h.elim
  · -- makeFunc
    rename_i f first caps ho
    split at h
    · rename_i vs hf hx
      obtain ⟨hev, hok⟩ := evs_con hF hx
      have hfirst : first = #[] := by apply Array.ext'; rw [hf]
      have hcaps : caps.map a.eval = (vs.map (AV.con ρ)).toArray := by
        apply Array.ext'
        rw [Array.toList_map, hev]
      split at h
      · refine wp_value (W' := W) ?_ (putK_sound (v := .one (.fn f [])) hW hF (fun c hc => by cases hc) h)
        simp [execOp, ho, Instr.makeFunc, hfirst, hcaps, AV.con, Leaf.con]
      · rename_i i off
        refine wp_value (W' := W) ?_ (putK_sound (v := .one (.fn f [.ptr i off])) hW hF (fun c hc => by simp at hc; subst hc; trivial) h)
        simp [execOp, ho, Instr.makeFunc, hfirst, hcaps, AV.con, Leaf.con, Cap.con]
      · rename_i i off i2 off2
        refine wp_value (W' := W) ?_ (putK_sound (v := .one (.fn f [.ptr i off, .ptr i2 off2])) hW hF (fun c hc => by simp at hc; rcases hc with rfl | rfl <;> trivial) h)
        simp [execOp, ho, Instr.makeFunc, hfirst, hcaps, AV.con, Leaf.con, Cap.con]
      · exact h.elim
    · exact h.elim
  · -- slice
    rename_i t x lo hi ho
    split at h
    · rename_i s hstr hx
      obtain ⟨he, hok⟩ := ev_con hF hx
      have hu := isString_spec hΓ hstr
      obtain ⟨l, h', hlh, hhs, hlo, hhi, h⟩ := h
      refine wp_value (W' := W) ?_ (putK_sound (v := .one (.v (.string (s.extract l h')))) hW hF rfl h)
      have hb := run_sliceBounds (W := W) (isSlice := false) hF hlh hhs hlo hhi
      simp [execOp, ho, he, AV.con, Leaf.con, Instr.sliceAt, Instr.slice, run_underlying hu, hb]
    · rename_i e te A n c hstr hse hx
      obtain ⟨he, hok⟩ := ev_con hF hx
      obtain ⟨hu, hE, _⟩ := sliceElem_spec hΓ hse
      obtain ⟨l, h', hlh, hhs, hlo, hhi, h⟩ := h
      refine wp_value (W' := W) ?_ (putK_sound (v := .one (.v (.slice (if c = l then A else A.map (·.add (l * te.size))) (h' - l) (c - l)))) hW hF rfl h)
      have hb := run_sliceBounds (W := W) (isSlice := true) hF hlh hhs hlo hhi
      simp [execOp, ho, he, AV.con, Leaf.con, Instr.sliceAt, Instr.slice, run_underlying hu, hb, hE.run_sizeOf]
    · exact h.elim
  · -- call
    rename_i c ho
    split at h
    · exact h.out ρ a W hW hF
    · exact callK_sound hΓ hW hF ho h
  · exact h.out ρ a W hW hF
end
end Vc
end

section
open Go
namespace Vc
set_option maxHeartbeats 1000000

theorem wp_Q {P : Program} {o : Oper} {a : Act} {w : World} {K : Act → World → Prop} {Q1 Q2 : Exit → Act → World → Prop} (hq : ∀ ch a w, Q1 (.panic ch) a w → Q2 (.panic ch) a w) (hl : LetsOut Q1 → LetsOut Q2)
    (h : o.wp P a w K Q1) : o.wp P a w K Q2 := by
  unfold Oper.wp at *
  generalize (execOp a.eval o).run P w = r at *
  cases r with
  | ok n w' =>
    cases n <;> simp only [Oper.upon] at h ⊢ <;> first
      | exact h
      | exact h.mono fun e w'' he => by cases e <;> first | exact he | exact hq _ _ _ he | exact hl he
  | halt x w' =>
    cases x <;> simp only [Oper.upon] at h ⊢ <;> first
      | exact h
      | exact hq _ _ _ h

theorem exists_least {p : Nat → Prop} (h : ∃ n, p n) : ∃ n, p n ∧ ∀ k, p k → n ≤ k := by
  obtain ⟨n, hn⟩ := h
  induction n using Nat.strongRecOn with
  | _ n ih =>
    by_cases hk : ∃ k, k < n ∧ p k
    · obtain ⟨k, hlt, hp⟩ := hk; exact ih k hlt hp
    · exact ⟨n, hn, fun k hp => Nat.le_of_not_lt fun hlt => hk ⟨k, hlt, hp⟩⟩
noncomputable def least (p : Nat → Prop) : Nat := open Classical in if h : ∃ n, p n then Classical.choose (exists_least h) else 0
theorem least_spec {p : Nat → Prop} (h : ∃ n, p n) : p (least p) := by
  unfold least; rw [dif_pos h]; exact (Classical.choose_spec (exists_least h)).1
theorem least_le {p : Nat → Prop} {k : Nat} (h : p k) : least p ≤ k := by
  have h' : ∃ n, p n := ⟨k, h⟩
  unfold least; rw [dif_pos h']; exact (Classical.choose_spec (exists_least h')).2 k h

section
variable {E : Env} (hΓ : TypesOk E.P E.Γ)

theorem FS.skip {ρ : Val} {m : Mem} {F : Fr} {a : Act} (h : FS E ρ m F a) (o : Oper) : FS E ρ m (skipF o F) (a.put o.dst undef) := by
  unfold skipF
  cases hd : o.dst with
  | none => exact h
  | some d =>
    refine ⟨by simpa [Act.put] using h.size, fun k u hk => ?_, by simpa [Act.put] using h.defers⟩
    by_cases hkd : k = d
    · subst hkd
      simp only [look_cons_eq, Option.some.injEq] at hk
      subst hk
      refine ⟨?_, trivial⟩
      simp only [Act.put, AV.con, Array.getD_eq_getD_getElem?, Array.getElem?_setIfInBounds]
      simp
      split <;> rfl
    · simp only [look_cons_ne _ _ hkd] at hk
      obtain ⟨h1, h2⟩ := h.vals k u hk
      refine ⟨?_, h2⟩
      rw [← h1]
      simp [Act.put, Array.getD_eq_getD_getElem?, Array.getElem?_setIfInBounds_ne (Ne.symm hkd)]

theorem FS.know {ρ : Val} {m : Mem} {F : Fr} {a : Act} (h : FS E ρ m F a) {d : Nat} {b : Bool} (hd : look d F = some (.one (.v (.bool b)))) : FS E ρ m ((d, .one (.kb b)) :: F) a := by
  refine ⟨h.size, fun k u hk => ?_, h.defers⟩
  by_cases hkd : k = d
  · subst hkd
    simp only [look_cons_eq, Option.some.injEq] at hk
    subst hk
    exact ⟨(h.vals k _ hd).1, trivial⟩
  · rw [look_cons_ne _ _ hkd] at hk
    exact h.vals k u hk

theorem yielded_of {ρ : Val} {m : Mem} {F : Fr} {a : Act} (h : FS E ρ m F a) {ops : Array Oper} {j d : Nat} {oj : Oper} (hj : ops.toList[j]? = some oj) (hd : oj.dst = some d) {v : AV} (hv : look d F = some v) :
    (∀ b, v.con ρ = .bool b → yielded ops a.tmps j = some b) ∧ (v = .bad → yielded ops a.tmps j = none) := by
  have hj' : ops[j]? = some oj := by simpa using hj
  have h1 := (h.vals d v hv).1
  rw [Array.getD_eq_getD_getElem?] at h1
  constructor
  · intro b hb
    rw [hb] at h1
    unfold yielded
    rw [hj']
    simp only [Option.bind_some, hd]
    cases ht : a.tmps[d]? with
    | none => rw [ht] at h1; simp [undef] at h1
    | some u => rw [ht] at h1; simp only [Option.getD_some] at h1; subst h1; rfl
  · rintro rfl
    unfold yielded
    rw [hj']
    simp only [Option.bind_some, hd]
    cases ht : a.tmps[d]? with
    | none => rfl
    | some u => rw [ht] at h1; simp only [Option.getD_some, AV.con] at h1; subst h1; rfl

theorem guardK_sound {ρ : Val} {m : Mem} {F : Fr} {a : Act} (hF : FS E ρ m F a) {ops : Array Oper} {o : Oper} {yes no : Fr → Prop} (h : guardK ops.toList o yes no F) :
    ∃ F', FS E ρ m F' a ∧ ((Region.wanted o (yielded ops a.tmps) = true ∧ yes F') ∨ (Region.wanted o (yielded ops a.tmps) = false ∧ no F')) := by
  unfold guardK at h
  split at h
  · rename_i hg
    exact ⟨F, hF, .inl ⟨by simp [Region.wanted, hg], h⟩⟩
  · rename_i j want hg
    have hw : ∀ y, Region.wanted o y = (y j == some want) := fun y => by simp [Region.wanted, hg]
    split at h
    · rename_i oj hj
      split at h
      · rename_i d hd
        split at h
        · rename_i b hv
          have hy := (yielded_of hF hj hd hv).1 b rfl
          refine ⟨F, hF, ?_⟩
          rw [hw, hy]
          cases b <;> cases want <;> first | exact .inl ⟨rfl, h⟩ | exact .inr ⟨rfl, h⟩
        · rename_i b hv
          have hy := (yielded_of hF hj hd hv).1 b rfl
          have hF' := hF.know hv
          refine ⟨_, hF', ?_⟩
          rw [hw, hy]
          cases b with
          | true =>
            have := h.1 rfl
            cases want <;> first | exact .inl ⟨rfl, this⟩ | exact .inr ⟨rfl, this⟩
          | false =>
            have := h.2 rfl
            cases want <;> first | exact .inl ⟨rfl, this⟩ | exact .inr ⟨rfl, this⟩
        · rename_i hv
          have hy := (yielded_of hF hj hd hv).2 rfl
          refine ⟨F, hF, .inr ⟨?_, h⟩⟩
          rw [hw, hy]
          cases want <;> rfl
        · exact h.elim
      · exact h.elim
    · exact h.elim

include hΓ
theorem vcOps_sound {ops : Array Oper} {Q : SPost} {K : Cont} (l : List Oper) : ∀ {ρ : Val} {B : Ents} {m : Mem} {F : Fr} {a : Act} {W : World}, WS E ρ B m W → FS E ρ m F a → vcOps E ops.toList Q l K F B m →
    wpList E.P ops (QN E K Q) l a W := by
  induction l with
  | nil => intro ρ B m F a W hW hF h; exact ⟨ρ, F, B, m, h, hW, hF⟩
  | cons o rest ih =>
    intro ρ B m F a W hW hF h
    simp only [vcOps] at h
    obtain ⟨F', hF', ⟨hw, h⟩ | ⟨hw, h⟩⟩ := guardK_sound hF h
    · unfold wpList
      rw [if_pos hw]
      left
      have h1 := vcOp_sound hΓ hW hF' h
      refine wp_Q (Q1 := QQ E Q) (fun _ _ _ h => h) (fun ⟨a, w, h⟩ => ⟨a, w, h⟩) (Oper.wp_mono (fun a' W' hp => ?_) h1)
      obtain ⟨ρ', F2, B2, m2, hK, hW2, hF2⟩ := hp
      exact ih hW2 hF2 hK
    · unfold wpList
      rw [if_neg (by simp [hw])]
      exact ih hW (hF'.skip o) h

/-- The whole: the generator's condition gives the model's. -/
theorem vc_sound (c : Code) : ∀ {Q : SPost} {ρ : Val} {B : Ents} {m : Mem} {F : Fr} {a : Act} {W : World}, E.P.follows .mixedOrders = true → WS E ρ B m W → FS E ρ m F a → vc E c Q F B m →
    c.wp E.P (fun e => Post E (Q e)) a W := by
  intro Q ρ B m F a W hmix
  induction c generalizing Q ρ B m F a W with
  | skip => intro hW hF h; exact wp_skip ⟨ρ, F, B, m, h, hW, hF⟩
  | ret => intro hW hF h; exact wp_ret ⟨ρ, F, B, m, h, hW, hF⟩
  | exit i => intro hW hF h; exact wp_exit ⟨ρ, F, B, m, h, hW, hF⟩
  | seq x y ihx ihy =>
    intro hW hF h
    refine wp_seq (wp_mono (ihx hW hF h) (fun e a w q => ?_))
    cases e <;> first
      | exact q
      | (obtain ⟨ρ', F', B', m', hK, hW', hF'⟩ := q; exact ihy hW' hF' hK)
  | cond x c1 c2 ih1 ih2 =>
    intro hW hF h
    obtain ⟨b, hb, h1, h2⟩ := splitB_sound hF h
    cases b with
    | true => exact wp_cond_true hb (ih1 hW hF (h1 rfl))
    | false => exact wp_cond_false hb (ih2 hW hF (h2 rfl))
  | block i c ih =>
    intro hW hF h
    refine wp_block (wp_mono (ih hW hF h) (fun e a w q => ?_))
    cases e with
    | exit j =>
      obtain ⟨ρ', F', B', m', hK, hW', hF'⟩ := q
      simp only [blockQ] at hK
      simp only [Exit.inBlock]
      cases hj : Nat.beq j i with
      | true =>
        have := Nat.eq_of_beq_eq_true hj
        rw [hj] at hK
        rw [if_pos this]
        exact ⟨ρ', F', B', m', hK, hW', hF'⟩
      | false =>
        rw [hj] at hK
        rw [if_neg (by rintro rfl; simp at hj)]
        exact ⟨ρ', F', B', m', hK, hW', hF'⟩
    | _ => exact q
  | region id ops d =>
    intro hW hF h
    cases d with
    | false =>
      refine wp_mono (wp_region_list (vcOps_sound hΓ ops.toList hW hF h)) (fun e a w q => ?_)
      cases e <;> exact q
    | true =>
      refine wp_region_any hmix ?_
      have hW' : WS E ρ B m { W with drawn := W.drawn + 1 } := ⟨hW.ents, hW.fresh, hW.inj, hW.mem, hW.le, hW.new, hW.os, hW.tape, hW.output, hW.size, hW.old, hW.pin⟩
      have := h.out ρ a _ hW' hF
      have e1 : QN E (Q .normal) Q = (fun e => Post E (Q e)) := by
        funext e; cases e <;> rfl
      rw [e1] at this
      exact this
  | loop c ih =>
    intro hW hF h
    obtain ⟨st, h⟩ := h
    obtain ⟨ρ, F, B, m, h, hW, hF⟩ := runCuts_sound hW hF h
    obtain ⟨α, ok, μ, TF, TB, Tm, ⟨x0, hok0, hent⟩, hround⟩ := h.out
    obtain ⟨ρ', hW', hF'⟩ := hent ρ a W hW hF
    let S : Act → World → Nat → Prop := fun a W n => ∃ x ρ, ok x ∧ WS E ρ (TB x) (Tm x) W ∧ FS E ρ (Tm x) (TF x) a ∧ μ x = n
    have hleast : ∀ a W, (∃ n, S a W n) → ∃ x ρ, ok x ∧ WS E ρ (TB x) (Tm x) W ∧ FS E ρ (Tm x) (TF x) a ∧ μ x = least (S a W) := by
      intro a W hex
      obtain ⟨x, ρ, h1, h2, h3, h4⟩ := least_spec hex
      exact ⟨x, ρ, h1, h2, h3, h4⟩
    refine wp_loop (fun a W => ∃ n, S a W n) (fun a W => least (S a W)) ⟨_, x0, ρ', hok0, hW', hF', rfl⟩ ?_
    intro a1 W1 hI
    obtain ⟨x, ρ1, hokx, hW1, hF1, hμ⟩ := hleast a1 W1 hI
    refine wp_mono (ih hW1 hF1 (hround x hokx)) (fun e a2 W2 q => ?_)
    cases e with
    | normal =>
      obtain ⟨ρ2, F2, B2, m2, ⟨st2, hst⟩, hW2, hF2⟩ := q
      obtain ⟨ρ3, F3, B3, m3, ⟨y, hoky, hlt, hent2⟩, hW3, hF3⟩ := runCuts_sound hW2 hF2 hst
      obtain ⟨ρ4, hW4, hF4⟩ := hent2 ρ3 a2 W2 hW3 hF3
      have hSy : S a2 W2 (μ y) := ⟨y, ρ4, hoky, hW4, hF4, rfl⟩
      refine ⟨⟨_, hSy⟩, ?_⟩
      have := least_le hSy
      show least (S a2 W2) < least (S a1 W1)
      omega
    | _ => exact q
  | _ => intro hW hF h; exact h.elim
end
end Vc
end

section
open Go
namespace Vc

/-! ### The end of a function -/
def resAV (Γ : Types) (F : Fr) (B : Ents) : ResultVar → Option AV
  | .tmp t => look t F
  | .cell x t => (match look x F, look t Γ with
    | some (.one (.ptr i off)), some ti => (match look i B with
      | some (.box cells _) => (match Nat.beq (lenL (takeL ti.size (dropL off cells))) ti.size with
        | true => mkAV ti.kind.isAgg (takeL ti.size (dropL off cells))
        | false => none)
      | _ => none)
    | _, _ => none)
def resAVs (Γ : Types) (F : Fr) (B : Ents) : List ResultVar → Option (List AV)
  | [] => some []
  | x :: r => (match resAV Γ F B x, resAVs Γ F B r with
    | some v, some vs => some (v :: vs)
    | _, _ => none)
def partOf : AV → Option (Bool × List Leaf)
  | .one l => some (false, [l])
  | .agg ls => some (true, ls)
  | _ => none
def partsOf : List AV → Option (List (Bool × List Leaf))
  | [] => some []
  | v :: r => (match partOf v, partsOf r with
    | some p, some ps => some (p :: ps)
    | _, _ => none)
structure RetNode (E : Env) (v : AV) (B : Ents) (m : Mem) (R : Ending → World → Prop) : Prop where
  out : ∀ ρ W, WS E ρ B m W → v.ok m → R (.returned (v.con ρ)) W
def retK (E : Env) (rs : List ResultVar) (R : Ending → World → Prop) : Cont := fun F B m =>
  ∃ st, runCuts E st (fun F B m => match resAVs E.Γ F B rs with
    | some vs => forceAVs vs fun vs => (match vs with
      | [v] => RetNode E v B m R
      | vs => (match partsOf vs with
        | some ps => RetNode E (.tup ps) B m R
        | none => False))
    | none => False) F B m
structure PanicNode (E : Env) (ch : List PanicEntry) (B : Ents) (m : Mem) (R : Ending → World → Prop) : Prop where
  out : ∀ ρ W, WS E ρ B m W → R (.panicked ch) W
def retQ (E : Env) (rs : List ResultVar) (R : Ending → World → Prop) : SPost
  | .normal => retK E rs R
  | .ret => retK E rs R
  | .panic ch => fun _ B m => PanicNode E ch B m R
  | _ => fun _ _ _ => False

theorem partOf_con {ρ : Val} {v : AV} {p : Bool × List Leaf} (h : partOf v = some p) : partCon ρ p = v.con ρ := by
  cases v with
  | one l => simp [partOf] at h; subst h; rfl
  | agg ls => simp [partOf] at h; subst h; simp [partCon, AV.con]
  | tup vs => simp [partOf] at h
  | bad => simp [partOf] at h
theorem partsOf_con {ρ : Val} {vs : List AV} {ps : List (Bool × List Leaf)} (h : partsOf vs = some ps) : ps.map (partCon ρ) = vs.map (AV.con ρ) := by
  induction vs generalizing ps with
  | nil => simp [partsOf] at h; subst h; rfl
  | cons v r ih =>
    simp only [partsOf] at h
    split at h
    · rename_i p qs hp hq
      simp at h; subst h
      simp [partOf_con hp, ih hq]
    · simp at h
theorem partsOf_ok {m : Mem} {vs : List AV} {ps : List (Bool × List Leaf)} (h : partsOf vs = some ps) (hok : ∀ v ∈ vs, v.ok m) : ∀ p ∈ ps, okL m p.2 := by
  induction vs generalizing ps with
  | nil => simp [partsOf] at h; subst h; simp
  | cons v r ih =>
    simp only [partsOf] at h
    split at h
    · rename_i p qs hp hq
      simp at h; subst h
      intro q hq'
      simp at hq'
      rcases hq' with rfl | hq'
      · have hv := hok v (by simp)
        cases v with
        | one l => simp [partOf] at hp; subst hp; intro x hx; simp at hx; subst hx; exact hv
        | agg ls => simp [partOf] at hp; subst hp; exact hv
        | tup vs => simp [partOf] at hp
        | bad => simp [partOf] at hp
      · exact ih hq (fun v hv => hok v (by simp [hv])) q hq'
    · simp at h

def resSem (tmps : Array Value) : ResultVar → Sem Value
  | .tmp t => pure (tmps.getD t undef)
  | .cell x t => do loadVar t (← asAddr (tmps.getD x undef))
theorem results_eq (fn : Func) (tmps : Array Value) : results fn tmps = (do
    let vs ← fn.results.mapM (resSem tmps)
    pure (if h : vs.size = 1 then vs[0] else .tuple vs)) := by
  unfold results
  congr 1

section
variable {E : Env} (hΓ : TypesOk E.P E.Γ) {ρ : Val} {B : Ents} {m : Mem} {F : Fr} {a : Act} {W : World} (hW : WS E ρ B m W) (hF : FS E ρ m F a)
include hΓ hW hF
theorem resAV_sound {r : ResultVar} {v : AV} (h : resAV E.Γ F B r = some v) :
    (resSem a.tmps r).run E.P W = .ok (v.con ρ) W ∧ v.ok m := by
  cases r with
  | tmp t =>
    obtain ⟨h1, h2⟩ := hF.vals t v h
    exact ⟨by simp [resSem, h1], h2⟩
  | cell x t =>
    simp only [resAV] at h
    split at h
    · rename_i i off ti hx ht
      split at h
      · rename_i cells ty hB
        split at h
        · rename_i hl
          have hl := Nat.eq_of_beq_eq_true hl
          rw [lenL_eq] at hl
          rw [takeL_eq, dropL_eq] at h hl
          obtain ⟨h1, _⟩ := hF.vals x _ hx
          obtain ⟨hh, hok⟩ := hW.box hB
          have hT := hΓ t ti ht
          refine ⟨?_, mkAV_ok h (okL_take (okL_drop hok))⟩
          have hr := run_loadAt hT W ⟨ρ.blk i, off, none⟩ (conL ρ ((cells.drop off).take ti.size)) (by simpa [conL] using hl) (fun j u hu => by
            rw [addr_add rfl]
            simp only [World.cell?, hh]
            simp only [conL, List.getElem?_map, List.getElem?_take, List.getElem?_drop] at hu
            split at hu
            · simpa [conL] using hu
            · simp at hu) (mkAV_con h)
          simp only [Instr.loadAt, Instr.sureAddr, Sem.run_bind, Sem.run_pure, Result.andThen_ok] at hr
          simp only [resSem, h1, AV.con, Leaf.con, asAddr, Sem.run_bind, Sem.run_pure, Result.andThen_ok]
          exact hr
        · cases h
      · cases h
    · cases h

theorem resAVs_sound {rs : List ResultVar} : ∀ {vs : List AV}, resAVs E.Γ F B rs = some vs →
    (rs.mapM (resSem a.tmps)).run E.P W = .ok (vs.map (AV.con ρ)) W ∧ ∀ v ∈ vs, v.ok m := by
  induction rs with
  | nil => intro vs h; simp [resAVs] at h; subst h; exact ⟨rfl, by simp⟩
  | cons r rs ih =>
    intro vs h
    simp only [resAVs] at h
    split at h
    · rename_i v ws hv hw
      simp at h; subst h
      obtain ⟨h1, h2⟩ := resAV_sound hΓ hW hF hv
      obtain ⟨h3, h4⟩ := ih hw
      refine ⟨?_, by intro u hu; simp at hu; exact hu.elim (fun h => h ▸ h2) (h4 u)⟩
      simp only [List.mapM_cons, Sem.run_bind, h1, Result.andThen_ok, h3, Sem.run_pure, List.map_cons]
    · cases h

theorem ret_sound {fn : Func} {R : Ending → World → Prop} (h : retK E fn.results.toList R F B m) : a.defers = [] ∧ ∃ v, (results fn a.tmps).run E.P W = .ok v W ∧ R (.returned v) W := by
  refine ⟨hF.defers, ?_⟩
  obtain ⟨st, h⟩ := h
  obtain ⟨ρ, F, B, m, h, hW, hF⟩ := runCuts_sound hW hF h
  split at h
  · rename_i vs hvs
    obtain ⟨h1, hok⟩ := resAVs_sound hΓ hW hF hvs
    have h2 := forceAVs_elim h
    have hres : (results fn a.tmps).run E.P W = .ok (if h : (vs.map (AV.con ρ)).toArray.size = 1 then (vs.map (AV.con ρ)).toArray[0] else .tuple (vs.map (AV.con ρ)).toArray) W := by
      rw [results_eq, Array.mapM_eq_mapM_toList]
      simp only [Sem.run_bind, Sem.run_map, h1, Result.andThen_ok, Sem.run_pure]
    split at h2
    · rename_i v
      exact ⟨_, by rw [hres]; rfl, h2.out ρ W hW (hok v (by simp))⟩
    · rename_i hne
      split at h2
      · rename_i ps hps
        refine ⟨.tuple (vs.map (AV.con ρ)).toArray, ?_, ?_⟩
        · rw [hres, dif_neg]
          intro h1'
          match vs, hne, h1' with
          | [], _, h1' => simp at h1'
          | [v], hne, _ => exact hne v rfl
          | _ :: _ :: _, _, h1' => simp at h1'
        · have := h2.out ρ W hW (partsOf_ok hps hok)
          simpa [AV.con, partsOf_con hps] using this
      · exact h2.elim
  · exact h.elim
end

def argFrame : Nat → List AV → Fr
  | _, [] => []
  | k, v :: r => (k, v) :: argFrame (k + 1) r

theorem argFrame_look {args : List AV} : ∀ {k t : Nat} {v : AV}, look t (argFrame k args) = some v → k ≤ t ∧ args[t - k]? = some v := by
  induction args with
  | nil => intro k t v h; cases h
  | cons x r ih =>
    intro k t v h
    by_cases htk : t = k
    · subst htk
      simp only [argFrame, look_cons_eq, Option.some.injEq] at h
      subst h
      simp
    · simp only [argFrame, look_cons_ne _ _ htk] at h
      obtain ⟨h1, h2⟩ := ih h
      refine ⟨by omega, ?_⟩
      have : t - k = (t - (k + 1)) + 1 := by omega
      rw [this, List.getElem?_cons_succ]
      exact h2

theorem run_callFunc_enter' {P : Program} {f : FuncId} {fn : Func} {c : Code} (hf : P.funcs[f]? = some fn) (hname : (fn.name == "runtime.NumGoroutine") = false) (hb : fn.body = some c) (args : Array Value) (w : World) :
    (callFunc f args).run P w = .ok (.enter f args) w := by
  have h1 : fn.name ≠ "runtime.NumGoroutine" := by simpa using hname
  simp [callFunc, hf, h1, hb]

/-- A function's contract out of its body's condition. -/
theorem fn_sound {E : Env} (hΓ : TypesOk E.P E.Γ) (hmix : E.P.follows .mixedOrders = true) {f : FuncId} {fn : Func} {c : Code} (hf : E.P.funcs[f]? = some fn) (hb : fn.body = some c) (hN : fn.ntmps = E.N) (hname : (fn.name == "runtime.NumGoroutine") = false)
    {args : List AV} {ρ : Val} {B : Ents} {R : Ending → World → Prop} (hlen : args.length ≤ E.N) (hok : ∀ v ∈ args, v.ok E.m0) (hW : WS E ρ B E.m0 E.w0)
    (h : vc E c (retQ E fn.results.toList R) (argFrame 0 args) B E.m0) : Invk E.P f (args.map (AV.con ρ)) E.w0 R := by
  left
  refine ⟨run_callFunc_enter' hf hname hb _ _, calls_of_wp hf hb ?_⟩
  have hF : FS E ρ E.m0 (argFrame 0 args) { tmps := (args.map (AV.con ρ)).toArray ++ Array.replicate (fn.ntmps - (args.map (AV.con ρ)).toArray.size) undef, defers := [] } := by
    refine ⟨by simp [hN]; omega, fun d v hd => ?_, rfl⟩
    obtain ⟨_, h2⟩ := argFrame_look hd
    simp only [Nat.sub_zero] at h2
    refine ⟨?_, hok v (List.mem_of_getElem? h2)⟩
    have hlt : d < args.length := (List.getElem?_eq_some_iff.1 h2).1
    rw [Array.getD_eq_getD_getElem?, Array.getElem?_append_left (by simpa using hlt)]
    simp [h2]
  refine Code.wp_mono (fun e a w q => ?_) (vc_sound hΓ c hmix hW hF h)
  cases e with
  | normal => obtain ⟨ρ', F', B', m', hK, hW', hF'⟩ := q; exact ret_sound hΓ hW' hF' hK
  | ret => obtain ⟨ρ', F', B', m', hK, hW', hF'⟩ := q; exact ret_sound hΓ hW' hF' hK
  | panic ch => obtain ⟨ρ', F', B', m', hK, hW', hF'⟩ := q; exact ⟨hF'.defers, hK.out ρ' w hW'⟩
  | exit i => obtain ⟨ρ', F', B', m', hK, hW', hF'⟩ := q; exact hK.elim
  | goto l => obtain ⟨ρ', F', B', m', hK, hW', hF'⟩ := q; exact hK.elim
  | outgrown => obtain ⟨ρ', F', B', m', hK, hW', hF'⟩ := q; exact hK.elim
end Vc
end

section
open Go
namespace Vc

def has (W : World) (m : Mem) : Prop := ∀ b o, m b = some o → W.heap[b]? = some o

def env (P : Program) (Γ : Types) (N : Nat) (W : World) (m : Mem) : Env := ⟨P, Γ, N, W, m, fun _ => False, []⟩
theorem ws_start {P : Program} {Γ : Types} {N : Nat} {W : World} {m : Mem} (h : has W m) (ρ : Val) : WS (env P Γ N W m) ρ [] m W :=
  ⟨fun _ _ h => (by cases h), fun _ _ h => (by cases h), fun _ _ _ _ h => (by cases h), h, fun _ _ h => h, fun _ _ h => .inl h, rfl, rfl, rfl, Nat.le_refl _, fun _ _ _ => rfl, fun _ h => (by cases h)⟩

theorem WS.below {P : Program} {Γ : Types} {N : Nat} {W W' : World} {m0 m : Mem} {ρ : Val} {B : Ents} (h : WS (env P Γ N W m0) ρ B m W') : Below W W' :=
  ⟨h.os, h.tape, h.output, h.size, fun k hk => h.old k hk id⟩

/-! ### Contracts -/
/-- It hands back v, whatever the world that holds m; nothing that was there turns. -/
def RS (W : World) (v : Value) : Ending → World → Prop := fun e W' => e = .returned v ∧ Below W W'
def FnS (P : Program) (f : FuncId) (m : Mem) (args : List Value) (v : Value) : Prop := ∀ W, has W m → Invk P f args W (RS W v)
/-- It hands back a value over memory that is new, if it was not there: Φ says which. -/
def RM (W : World) (m : Mem) (Φ : Value → Mem → Prop) : Ending → World → Prop := fun e W' => ∃ v m', e = .returned v ∧ m.le m' ∧ has W' m' ∧ (∀ b o, m' b = some o → m b = some o ∨ W.heap.size ≤ b) ∧ Below W W' ∧ Φ v m'
def FnM (P : Program) (f : FuncId) (m : Mem) (args : List Value) (Φ : Value → Mem → Prop) : Prop := ∀ W, has W m → Invk P f args W (RM W m Φ)

def ρ0 : Val := ⟨fun _ => 0, fun _ => (none, 0, 0)⟩

section
variable {P : Program} {Γ : Types} (hΓ : TypesOk P Γ) (hmix : P.follows .mixedOrders = true) {f : FuncId} {fn : Func} {c : Code} (hf : P.funcs[f]? = some fn) (hb : fn.body = some c) (hname : (fn.name == "runtime.NumGoroutine") = false) {N : Nat} (hN : fn.ntmps = N) {rs : List ResultVar} (hrs : fn.results.toList = rs) {m : Mem}
  {args : List AV} {vals : List Value} (hargs : args.map (AV.con ρ0) = vals) (hlen : args.length ≤ N) (hok : ∀ v ∈ args, v.ok m)
include hΓ hmix hf hb hname hN hrs hargs hlen hok
theorem fnS {v : Value} (h : ∀ W, vc (env P Γ N W m) c (retQ (env P Γ N W m) rs (RS W v)) (argFrame 0 args) [] m) : FnS P f m vals v := by
  subst hargs hN hrs
  intro W hW
  exact fn_sound (E := env P Γ fn.ntmps W m) hΓ hmix hf hb rfl hname hlen hok (ws_start hW ρ0) (h W)
theorem fnM {Φ : Value → Mem → Prop} (h : ∀ W, vc (env P Γ N W m) c (retQ (env P Γ N W m) rs (RM W m Φ)) (argFrame 0 args) [] m) : FnM P f m vals Φ := by
  subst hargs hN hrs
  intro W hW
  exact fn_sound (E := env P Γ fn.ntmps W m) hΓ hmix hf hb rfl hname hlen hok (ws_start hW ρ0) (h W)
end

theorem retS {P : Program} {Γ : Types} {N : Nat} {W : World} {m0 m : Mem} {u : AV} {B : Ents} {v : Value} (h : ∀ ρ, u.con ρ = v) : RetNode (env P Γ N W m0) u B m (RS W v) :=
  ⟨fun ρ W' hW _ => ⟨by rw [h ρ], hW.below⟩⟩
theorem retM {P : Program} {Γ : Types} {N : Nat} {W : World} {m0 m : Mem} {u : AV} {B : Ents} {Φ : Value → Mem → Prop} {v : Value} (h : ∀ ρ, u.con ρ = v) (hΦ : Φ v m) : RetNode (env P Γ N W m0) u B m (RM W m0 Φ) :=
  ⟨fun ρ W' hW _ => ⟨v, m, by rw [h ρ], hW.le, hW.mem, fun b o hb => (hW.new b o hb).elim .inl (fun h => h.elim .inr (fun h => h.elim)), hW.below, hΦ⟩⟩

/-! ### Calls -/
def partRes : Value → Bool × List Leaf
  | .agg cs => (true, vmap cs.toList)
  | v => (false, [.v v])
def partsRes : List Value → List (Bool × List Leaf)
  | [] => []
  | x :: r => partRes x :: partsRes r
def ofRes (x : Value) : AV :=
  match x with
  | .tuple vs => .tup (partsRes vs.toList)
  | .agg cs => .agg (vmap cs.toList)
  | v => .one (.v v)
theorem partRes_con (ρ : Val) (v : Value) : partCon ρ (partRes v) = v := by
  cases v with
  | agg cs => simp [partRes, partCon, conL_vmap]
  | _ => rfl
theorem partsRes_con (ρ : Val) (vs : List Value) : (partsRes vs).map (partCon ρ) = vs := by
  induction vs with
  | nil => rfl
  | cons v r ih => simp [partsRes, partRes_con, ih]
theorem ofRes_con (ρ : Val) (v : Value) : (ofRes v).con ρ = v := by
  cases v with
  | tuple vs => simp [ofRes, AV.con, partsRes_con]
  | agg cs => simp [ofRes, AV.con, conL_vmap]
  | _ => rfl

/-- what a value handed back must be, for its cells to be cells -/
def oneV : Value → Bool
  | .agg cs => oneAll cs.toList
  | .tuple vs => go vs.toList
  | _ => true
 where
  go : List Value → Bool
    | [] => true
    | x :: r => (match (match x with | .agg cs => oneAll cs.toList | .tuple _ => false | _ => true) with | true => go r | false => false)
theorem oneV_ok {m : Mem} {v : Value} (h : oneV v = true) : (ofRes v).ok m := by
  have key : ∀ x : Value, (match x with | .agg cs => oneAll cs.toList | .tuple _ => false | _ => true) = true → okL m (partRes x).2 := by
    intro x hx
    cases x with
    | agg cs => exact okL_vmap (oneAll_spec hx)
    | tuple vs => cases hx
    | _ => intro l hl; simp [partRes] at hl; subst hl; rfl
  cases v with
  | agg cs => exact okL_vmap (oneAll_spec h)
  | tuple vs =>
    have : ∀ l : List Value, oneV.go l = true → ∀ p ∈ partsRes l, okL m p.2 := by
      intro l
      induction l with
      | nil => intro _ p hp; cases hp
      | cons x r ih =>
        intro hl p hp
        simp only [oneV.go] at hl
        split at hl
        · rename_i hx
          simp only [partsRes, List.mem_cons] at hp
          rcases hp with rfl | hp
          · exact key x hx
          · exact ih hl p hp
        · cases hl
    exact this _ h
  | _ => rfl

theorem WS.call {E : Env} {ρ : Val} {B : Ents} {m m' : Mem} {W W' : World} (hW : WS E ρ B m W) (hm : m.le m') (hh : has W' m') (hn : ∀ b o, m' b = some o → m b = some o ∨ W.heap.size ≤ b) (hb : Below W W') : WS E ρ B m' W' := by
  refine ⟨fun i e hi => ?_, fun i b hi => ⟨?_, (hW.fresh i b hi).2⟩, hW.inj, hh, fun b o h => hm _ _ (hW.le b o h), fun b o h => ?_, hb.os.trans hW.os, hb.tape.trans hW.tape, hb.output.trans hW.output, Nat.le_trans hW.size hb.size, fun k hk hl => ?_, hW.pin⟩
  · exact Ent.sat_same (hW.ents i e hi) hm ⟨rfl, rfl⟩ (fun _ _ _ => rfl) (fun b hbb => hb.block b (hW.block_lt (i := i) (by unfold blockOf; rw [hi]; exact hbb)))
  · cases hmb : m' b with
    | none => rfl
    | some o =>
      rcases hn b o hmb with h | h
      · rw [(hW.fresh i b hi).1] at h; cases h
      · have := hW.block_lt hi; omega
  · rcases hn b o h with h | h
    · exact hW.new b o h
    · exact .inr (.inl (Nat.le_trans hW.size h))
  · rw [hb.block k (Nat.lt_of_lt_of_le hk hW.size)]
    exact hW.old k hk hl

theorem val?_con {ρ : Val} {v : AV} {x : Value} (h : val? v = some x) : v.con ρ = x := by
  unfold val? at h
  split at h
  · simp at h; subst h; rfl
  · simp at h; subst h; rfl
  · simp at h; subst h; rfl
  · simp at h; subst h; rfl
  · split at h
    · rename_i xs hx; simp at h; subst h; simp [AV.con, vals?_con hx]
    · cases h
  · cases h
theorem avals_con {ρ : Val} {vs : List AV} {xs : List Value} (h : avals vs = some xs) : vs.map (AV.con ρ) = xs := by
  induction vs generalizing xs with
  | nil => simp [avals] at h; subst h; rfl
  | cons v r ih =>
    simp only [avals] at h
    split at h
    · rename_i x ys hx hy; simp at h; subst h; simp [val?_con hx, ih hy]
    · cases h

theorem Invk.mono {P : Program} {f : FuncId} {args : List Value} {W : World} {R R' : Ending → World → Prop} (h : Invk P f args W R) (hr : ∀ e W', R e W' → R' e W') : Invk P f args W R' := by
  rcases h with ⟨h1, h2⟩ | ⟨v, W', h1, h2⟩
  · exact .inl ⟨h1, h2.mono hr⟩
  · exact .inr ⟨v, W', h1, hr _ _ h2⟩

theorem callS {E : Env} {f : FuncId} {args : List AV} {d : Option Nat} {F : Fr} {B : Ents} {m : Mem} {K : Cont} {Q : SPost} {vals : List Value} {v : Value} (h : FnS E.P f m vals v) (hv : avals args = some vals) (ho : oneV v = true)
    (hK : putK E d (ofRes v) F B m K) : CallNode E f args d F B m K Q :=
  ⟨fun ρ W hW => by
    rw [avals_con hv]
    refine (h W hW.mem).mono fun e W' he => ?_
    obtain ⟨rfl, hb⟩ := he
    have hlt : ∀ b o, m b = some o → b < W.heap.size := fun b o hbo => lt_of_heap (hW.mem b o hbo)
    exact ⟨ρ, B, m, ofRes v, (ofRes_con ρ v).symm, oneV_ok ho, fun _ _ h => h, fun _ _ _ => rfl, hW.call (fun _ _ h => h) (fun b o hbo => (hb.block b (hlt b o hbo)).trans (hW.mem b o hbo)) (fun _ _ h => .inl h) hb, hK⟩⟩
theorem callM {E : Env} {f : FuncId} {args : List AV} {d : Option Nat} {F : Fr} {B : Ents} {m : Mem} {K : Cont} {Q : SPost} {vals : List Value} {Φ : Value → Mem → Prop} (h : FnM E.P f m vals Φ) (hv : avals args = some vals)
    (hK : ∀ v m', m.le m' → Φ v m' → oneV v = true ∧ putK E d (ofRes v) F B m' K) : CallNode E f args d F B m K Q :=
  ⟨fun ρ W hW => by
    rw [avals_con hv]
    refine (h W hW.mem).mono fun e W' he => ?_
    obtain ⟨v, m', rfl, hm, hh, hn, hb, hΦ⟩ := he
    obtain ⟨ho, hK⟩ := hK v m' hm hΦ
    exact ⟨ρ, B, m', ofRes v, (ofRes_con ρ v).symm, oneV_ok ho, hm, fun _ _ _ => rfl, hW.call hm hh hn hb, hK⟩⟩
end Vc
end

section
open Go
namespace Vc
set_option maxHeartbeats 2000000

/-! ### Operations that only look -/
def quietOp : Op → Bool
  | .move _ | .assign _ | .pick .. | .load .. | .nilCheck _ | .fieldAddr .. | .field .. | .indexAddr .. | .index .. | .binOp .. | .unOp .. | .extract .. | .makeFunc (.func _) .. | .build .. => true
  | .slice _ _ _ _ none => true
  | .call c => (match c.callee with
    | .builtin .len | .builtin .max | .builtin .min => true
    | _ => false)
  | _ => false
/-- What a load looks at: nothing that can turn; the local block i; anything else. -/
inductive Looks where
  | nothing | mem | box (i : Nat) | other
def looksAt (F : Fr) (o : Op) : Looks :=
  match o with
  | .load _ x => (match ev F x with
    | some (.one (.ptr i _)) => .box i
    | some (.one (.rd _ _ _)) => .mem
    | some (.one (.v _)) => .mem
    | _ => .other)
  | _ => .nothing

/-- The world shows what the operation looks at. -/
def LooksOk (ρ : Val) (B : Ents) (m : Mem) (W W' : World) : Looks → Prop
  | .nothing => True
  | .mem => has W' m
  | .box i => ∀ c t, look i B = some (.box c t) → W'.heap[ρ.blk i]? = some (.cells (conL ρ c).toArray t (0, 0))
  | .other => W' = W

section
variable {E : Env} (hΓ : TypesOk E.P E.Γ) {ρ : Val} {B : Ents} {m : Mem} {F : Fr} {a : Act} {W : World} {K : Cont} {Q : SPost} (hW : WS E ρ B m W) (hF : FS E ρ m F a)
include hΓ hW hF

theorem load_quiet {t : Nat} {ti : TInfo} (ht : look t E.Γ = some ti) {x : Operand} {K : List Leaf → Prop} (h : loadLeaves E B m ti.size (ev F x) K) {lk : Looks} (hlk : looksAt F (.load t x) = lk) :
    ∃ ls, K ls ∧ okL m ls ∧ ∀ v, mkAV ti.kind.isAgg ls = some v → ls.length = ti.size → ∀ W', LooksOk ρ B m W W' lk → (Instr.loadAt t (a.eval x)).run E.P W' = .ok (v.con ρ) W' := by
  have hT := hΓ t ti ht
  have h0 := h
  unfold loadLeaves at h
  unfold looksAt at hlk
  split at h
  · rename_i i off hx
    obtain ⟨he, _⟩ := ev_con hF hx
    simp only [hx] at hlk
    subst hlk
    split at h
    · rename_i cells ty hB
      obtain ⟨_, hok⟩ := hW.box hB
      rw [takeL_eq, dropL_eq] at h
      refine ⟨_, h, okL_take (okL_drop hok), fun v hv hlen W' hlo => ?_⟩
      have hh := hlo _ _ hB
      rw [he]
      refine run_loadAt hT W' _ (conL ρ ((cells.drop off).take ti.size)) (by simpa [conL] using hlen) (fun j u hu => ?_) (mkAV_con hv)
      rw [addr_add rfl]
      simp only [World.cell?, hh]
      simp only [conL, List.getElem?_map, List.getElem?_take, List.getElem?_drop] at hu
      split at hu
      · simpa [conL] using hu
      · simp at hu
    · exact h.elim
  · rename_i a' cs off hx
    obtain ⟨he, hok⟩ := ev_con hF hx
    simp only [hx] at hlk
    subst hlk
    rw [takeL_eq, dropL_eq] at h
    have hok' : MemReads m a' cs := hok
    refine ⟨_, h, okL_take (okL_drop (okL_vmap hok'.one)), fun v hv hlen W' hlo => ?_⟩
    have hlo : has W' m := hlo
    rw [he]
    refine run_loadAt hT W' _ (conL ρ (((vmap cs).drop off).take ti.size)) (by simpa [conL] using hlen) (fun j u hu => ?_) (mkAV_con hv)
    have hsp := hok'.1
    simp only [AV.con, Leaf.con] at *
    rw [addr_add hsp, addr_add rfl]
    have h1 : (conL ρ (vmap cs))[off + j]? = some u := by
      simp only [conL, List.getElem?_map, List.getElem?_take, List.getElem?_drop] at hu ⊢
      split at hu
      · exact hu
      · simp at hu
    rw [conL_vmap] at h1
    obtain ⟨_, c, t', fr, hm, hcell⟩ := hok'
    have := hlo _ _ hm
    simp only [World.cell?, this]
    have := (hcell _ _ h1).1
    simpa [Nat.add_assoc] using this
  · rename_i i off hx
    simp only [hx] at hlk
    subst hlk
    obtain ⟨ls, h1, h2, h3⟩ := load_sound hΓ hW hF ht h0
    exact ⟨ls, h1, h2, fun v hv hl W' hlo => by have hlo : W' = W := hlo; subst hlo; exact h3 v hv hl⟩
  · rename_i A hx
    simp only [hx] at hlk
    subst hlk
    obtain ⟨he, _⟩ := ev_con hF hx
    obtain ⟨cs, ⟨a', hA, hm⟩, h⟩ := h
    subst hA
    rw [takeL_eq] at h
    refine ⟨_, h, okL_take (okL_vmap hm.one), fun v hv hlen W' hlo => ?_⟩
    have hlo : has W' m := hlo
    rw [he]
    refine run_loadAt hT W' _ (conL ρ ((vmap cs).take ti.size)) (by simpa [conL] using hlen) (fun j u hu => ?_) (mkAV_con hv)
    have hsp := hm.1
    rw [addr_add hsp]
    have h1 : (conL ρ (vmap cs))[j]? = some u := by
      simp only [conL, List.getElem?_map, List.getElem?_take] at hu ⊢
      split at hu
      · exact hu
      · simp at hu
    rw [conL_vmap] at h1
    obtain ⟨_, c, t', fr, hm, hcell⟩ := hm
    have := hlo _ _ hm
    simp only [World.cell?, this]
    exact (hcell _ _ h1).1
  · exact h.elim

theorem bin_quiet {op : BinOp} {t : Nat} {x y : Operand} {d : Option Nat} (h : binK E d op t (ev F x) (ev F y) F B m K) :
    ∃ v : AV, v.ok m ∧ putK E d v F B m K ∧ ∀ W', ((do eqGuard op t x y (a.eval x) (a.eval y); binOp op t (a.eval x) (a.eval y)) : Sem Value).run E.P W' = .ok (v.con ρ) W' := by
  unfold binK at h
  split at h
  · rename_i k z k' z' hx hy
    obtain ⟨hex, _⟩ := ev_con hF hx
    obtain ⟨hey, _⟩ := ev_con hF hy
    rw [hex, hey]
    simp only [AV.con, Leaf.con]
    have hg : ∀ W', (eqGuard op t x y (.int k z) (.int k' z')).run E.P W' = .ok () W' := by
      intro W'
      unfold eqGuard
      cases op <;> rfl
    simp only [Sem.run_bind, hg, Result.andThen_ok]
    split at h
    · rename_i hk
      have hk := kindEq_spec hk
      subst hk
      split at h
      · obtain ⟨r, hr, h⟩ := h
        exact ⟨.one (.v (.int k r)), rfl, h, fun W' => by simp [hg, AV.con, Leaf.con, binOp, Op.intArith, hr]⟩
      · obtain ⟨r, hr, h⟩ := h
        exact ⟨.one (.v (.int k r)), rfl, h, fun W' => by simp [hg, AV.con, Leaf.con, binOp, Op.intArith, hr]⟩
      · obtain ⟨r, hr, h⟩ := h
        exact ⟨.one (.v (.int k r)), rfl, h, fun W' => by simp [hg, AV.con, Leaf.con, binOp, Op.intArith, hr]⟩
      · obtain ⟨h0, r, hr, h⟩ := h
        exact ⟨.one (.v (.int k r)), rfl, h, fun W' => by simp [hg, AV.con, Leaf.con, binOp, Op.intDiv, h0, hr]⟩
      · obtain ⟨h0, h⟩ := h
        exact ⟨.one (.v (.int k (z.tmod z'))), rfl, h, fun W' => by simp [hg, AV.con, Leaf.con, binOp, Op.intDiv, h0]⟩
      · obtain ⟨h0, r, hr, h⟩ := h
        exact ⟨.one (.v (.int k r)), rfl, h, fun W' => by simp [hg, AV.con, Leaf.con, binOp, Op.shift, Int.not_lt.2 h0, hr]⟩
      · obtain ⟨h0, r, hr, h⟩ := h
        exact ⟨.one (.v (.int k r)), rfl, h, fun W' => by simp [hg, AV.con, Leaf.con, binOp, Op.shift, Int.not_lt.2 h0, hr]⟩
      · split at h
        · rename_i r hr
          refine ⟨boolLeaf r, rfl, h, fun W' => ?_⟩
          show _ = Result.ok (Value.bool r) W'
          cases op <;> simp only [cmpInt, Option.some.injEq, reduceCtorEq] at hr <;> subst hr
          · simp [binOp, Op.intCmp]; rfl
          · simp [binOp, Op.intCmp]; rfl
          · simp [binOp, Op.intCmp]
          · simp [binOp, Op.intCmp]
          · simp [binOp, Op.intCmp]
          · simp [binOp, Op.intCmp]
        · exact h.elim
    · exact h.elim
  · rename_i s s' hx hy
    obtain ⟨hex, _⟩ := ev_con hF hx
    obtain ⟨hey, _⟩ := ev_con hF hy
    rw [hex, hey]
    simp only [AV.con, Leaf.con]
    have hg : ∀ W', (eqGuard op t x y (.string s) (.string s')).run E.P W' = .ok () W' := by
      intro W'
      unfold eqGuard
      cases op <;> rfl
    simp only [Sem.run_bind, hg, Result.andThen_ok]
    split at h
    · obtain ⟨hs, h⟩ := h
      refine ⟨.one (.v (.string (s ++ s'))), rfl, h, fun W' => ?_⟩
      have : ¬ ((s.size + s'.size : Nat) : Int) > IntKind.i64.max := by
        have : IntKind.i64.max = 9223372036854775807 := by decide
        rw [this]; omega
      simp only [binOp, Op.stringOp, this, if_false]
      rfl
    · split at h
      · rename_i r hr
        refine ⟨boolLeaf r, rfl, h, fun W' => ?_⟩
        show _ = Result.ok (Value.bool r) W'
        cases op <;> simp only [cmpStr, Option.some.injEq, reduceCtorEq] at hr <;> subst hr
        · simp [binOp, Op.stringOp, toList_eq_iff]
        · simp [binOp, Op.stringOp, toList_eq_iff]
        · simp [binOp, Op.stringOp, sLt]
        · simp [binOp, Op.stringOp, sLt, toList_eq_iff]
        · simp [binOp, Op.stringOp, sLt, toList_eq_iff]
        · simp [binOp, Op.stringOp, sLt]
      · exact h.elim
  · rename_i xs ys hx hy
    obtain ⟨hex, _⟩ := ev_con hF hx
    obtain ⟨hey, _⟩ := ev_con hF hy
    rw [hex, hey]
    simp only [AV.con]
    split at h
    · obtain ⟨us, vs, b, hu, hv, hr, hK⟩ := h.out
      rw [vals?_con hu, vals?_con hv]
      exact ⟨boolLeaf b, rfl, hK, fun W' => hr W'⟩
    · obtain ⟨us, vs, b, hu, hv, hr, hK⟩ := h.out
      rw [vals?_con hu, vals?_con hv]
      exact ⟨boolLeaf b, rfl, hK, fun W' => hr W'⟩
    · exact h.elim
  · unfold boolK at h
    split at h
    · rename_i b1 b2 hb1 hb2 hbt
      have hex := boolOf_con hF hb1
      have hey := boolOf_con hF hb2
      have hu := isBool_spec hΓ hbt
      rw [hex, hey]
      have hg : ∀ W', (eqGuard op t x y (.bool b1) (.bool b2)).run E.P W' = .ok () W' := by
        intro W'
        unfold eqGuard
        cases op <;> rfl
      split at h
      · exact ⟨boolLeaf (b1 == b2), rfl, h, fun W' => by show _ = Result.ok (Value.bool (b1 == b2)) W'; rw [Sem.run_bind, hg, Result.andThen_ok]; exact (run_eqlBool hu b1 b2 W').1⟩
      · exact ⟨boolLeaf (!(b1 == b2)), rfl, h, fun W' => by show _ = Result.ok (Value.bool (!(b1 == b2))) W'; rw [Sem.run_bind, hg, Result.andThen_ok]; exact (run_eqlBool hu b1 b2 W').2⟩
      · exact h.elim
    · obtain ⟨b, h1, h2⟩ := nilK_val hΓ hF h
      exact ⟨boolLeaf b, rfl, h1, fun W2 => h2 W2⟩

theorem callK_quiet {o : Oper} {c : Call} (ho : o.op = .call c) (hq : quietOp (.call c) = true) (h : callK E c o.type o.dst F B m K Q) : ∃ v : AV, v.ok m ∧ putK E o.dst v F B m K ∧ ∀ W', (execOp a.eval o).run E.P W' = .ok (.value (v.con ρ)) W' := by
  unfold callK at h
  split at h
  · rename_i b hcal
    split at h
    · -- len
      rename_i x hx
      split at h
      · rename_i t hty
        obtain ⟨hev, hok⟩ := evs_con hF hx
        have hargs : c.args.map a.eval = #[x.con ρ] := by
          apply Array.ext'
          rw [Array.toList_map, hev]; simp
        have hat : c.argTypes[0]? = some t := by rw [← Array.getElem?_toList, hty]; rfl
        split at h
        · rename_i et A n c' hse
          obtain ⟨e, te⟩ := et
          obtain ⟨hu, _⟩ := sliceElem_spec hΓ hse
          refine ⟨.one (.v (.int .i64 n)), rfl, h, fun W' => ?_⟩
          simp [execOp, ho, resolve, hcal, invoke, builtin, hargs, Builtin.len_, hat, run_underlying hu, AV.con, Leaf.con, goInt]
        · rename_i et i hse
          obtain ⟨e, te⟩ := et
          obtain ⟨hu, _⟩ := sliceElem_spec hΓ hse
          split at h
          · rename_i n cells e' sz hB
            have hown := (hW.own hB).1
            have hsl : (ρ.sl i).2.1 = n := by
              rcases hown.2 with ⟨A0, hv, h0⟩ | ⟨g, cap, cur, hv, _⟩ <;> · simp only [Val.slv, Value.slice.injEq] at hv; omega
            refine ⟨.one (.v (.int .i64 n)), rfl, h, fun W' => ?_⟩
            simp [execOp, ho, resolve, hcal, invoke, builtin, hargs, Builtin.len_, hat, run_underlying hu, AV.con, Leaf.con, goInt, Val.slv, hsl]
          · exact h.elim
        · rename_i s hse hstr
          have hu := isString_spec hΓ hstr
          refine ⟨.one (.v (.int .i64 s.size)), rfl, h, fun W' => ?_⟩
          simp [execOp, ho, resolve, hcal, invoke, builtin, hargs, Builtin.len_, hat, run_underlying hu, AV.con, Leaf.con, goInt]
        · exact h.elim
      · exact h.elim
    · -- cap
      simp [quietOp, hcal] at hq
    · -- max
      rename_i k x k' y hx
      obtain ⟨hk, h'⟩ := chk_elim h
      have hk := kindEq_spec hk
      subst hk
      obtain ⟨hev, hok⟩ := evs_con hF hx
      have hargs : c.args.map a.eval = #[.int k x, .int k y] := by
        apply Array.ext'
        rw [Array.toList_map, hev]; simp [AV.con, Leaf.con]
      refine ⟨.one (.v (.int k (if y > x then y else x))), rfl, h', fun W' => ?_⟩
      simp [execOp, ho, resolve, hcal, invoke, builtin, hargs, Builtin.max_, Builtin.max2, AV.con, Leaf.con]
    · -- min
      rename_i k x k' y hx
      obtain ⟨hk, h'⟩ := chk_elim h
      have hk := kindEq_spec hk
      subst hk
      obtain ⟨hev, hok⟩ := evs_con hF hx
      have hargs : c.args.map a.eval = #[.int k x, .int k y] := by
        apply Array.ext'
        rw [Array.toList_map, hev]; simp [AV.con, Leaf.con]
      refine ⟨.one (.v (.int k (if y < x then y else x))), rfl, h', fun W' => ?_⟩
      simp [execOp, ho, resolve, hcal, invoke, builtin, hargs, Builtin.min_, Builtin.min2, AV.con, Leaf.con]
    · exfalso
      simp only [quietOp, hcal] at hq
      cases hq
    · exact h.elim
  · rename_i f hcal
    exfalso
    simp only [quietOp, hcal] at hq
    cases hq
  · exact h.elim


/-- A quiet operation has ONE value in all worlds that show what it looks at. -/
theorem vcOp_quiet {o : Oper} (hq : quietOp o.op = true) (h : vcOp E o K Q F B m) {lk : Looks} (hlk : looksAt F o.op = lk) :
    ∃ v : AV, v.ok m ∧ putK E o.dst v F B m K ∧ ∀ W', LooksOk ρ B m W W' lk → (execOp a.eval o).run E.P W' = .ok (.value (v.con ρ)) W' := by
  have hputO : ∀ x : Operand, putO E o.dst (ev F x) F B m K → ∃ v : AV, v.ok m ∧ putK E o.dst v F B m K ∧ a.eval x = v.con ρ := by
    intro x hx
    unfold putO at hx
    split at hx
    · rename_i v hv
      obtain ⟨he, hok⟩ := ev_con hF hv
      exact ⟨v, hok, hx, he⟩
    · exact hx.elim
  unfold vcOp at h
  split at h
  · rename_i x ho
    obtain ⟨v, h1, h2, h3⟩ := hputO x h
    exact ⟨v, h1, h2, fun W' _ => by simp [execOp, ho, h3]⟩
  · rename_i x ho
    obtain ⟨v, h1, h2, h3⟩ := hputO x h
    exact ⟨v, h1, h2, fun W' _ => by simp [execOp, ho, h3]⟩
  · rename_i c x y ho
    obtain ⟨b, hb, h1, h2⟩ := splitB_sound hF h
    cases b with
    | true =>
      obtain ⟨v, h3, h4, h5⟩ := hputO x (h1 rfl)
      exact ⟨v, h3, h4, fun W' _ => by simp [execOp, ho, hb, asBool, h5]⟩
    | false =>
      obtain ⟨v, h3, h4, h5⟩ := hputO y (h2 rfl)
      exact ⟨v, h3, h4, fun W' _ => by simp [execOp, ho, hb, asBool, h5]⟩
  · rename_i t ho; rw [ho] at hq; cases hq
  · rename_i t x ho; rw [ho] at hq; cases hq
  · -- build
    rename_i t parts ho
    split at h
    · rename_i fs zero hs
      obtain ⟨ti, ht, hk, rfl⟩ := structFields_spec hΓ hs
      have hT := hΓ t ti ht
      split at h
      · rename_i ls hfill
        obtain ⟨fs', hu, hmap⟩ := hT.struct_ hk
        have hfields := hT.fields
        rw [hk] at hfields
        simp only [List.all_eq_true] at hfields
        have hsome : ∀ f ∈ fs'.toList, (E.P.info? f.type).isSome = true := by
          intro f hf
          exact hfields (f.offset, f.type) (by rw [← hmap]; exact List.mem_map.2 ⟨f, hf, rfl⟩)
        have hpl := fun W => run_places (P := E.P) W fs'.toList hsome
        obtain ⟨h1, h2, _⟩ := fillL_sound (ρ := ρ) hF (fieldPlaces E.Γ fs) (fun i => (fs'.toList.map fun f => (f.offset, ((E.P.info? f.type).map (·.size)).getD 0)).toArray[i]?) (fun i p hp => by
          unfold fieldPlaces at hp
          split at hp
          · rename_i off t' hf
            split at hp
            · rename_i te hte
              simp only [Option.some.injEq] at hp
              subst hp
              rw [← hmap, List.getElem?_map] at hf
              cases hff : fs'.toList[i]? with
              | none => rw [hff] at hf; cases hf
              | some fd =>
                rw [hff] at hf
                simp only [Option.map_some, Option.some.injEq, Prod.mk.injEq] at hf
                obtain ⟨d2, i2, z2, _, _, hi2, hs2, _⟩ := (hΓ t' te hte).get
                rw [List.getElem?_toArray, List.getElem?_map, hff]
                simp [hf.1, hf.2, hi2, hs2]
            · cases hp
          · cases hp) parts.toList _ _ (okL_vmap (oneAll_spec hT.zero1)) hfill
        refine ⟨.agg ls, h2, h, fun W' hlo => ?_⟩
        obtain ⟨z, hz, hzc⟩ := hT.run_zero W'
        rw [conL_vmap, ← hzc] at h1
        have hpl' : (fs'.mapM fun f => (do pure (f.offset, ← Go.sizeOf f.type) : Sem (Nat × Nat))).run E.P W' = .ok (fs'.toList.map fun f => (f.offset, ((E.P.info? f.type).map (·.size)).getD 0)).toArray W' := by
          have : (fs'.mapM fun f => (do pure (f.offset, ← Go.sizeOf f.type) : Sem (Nat × Nat))) = List.toArray <$> (fs'.toList.mapM fun f => (do pure (f.offset, ← Go.sizeOf f.type) : Sem (Nat × Nat))) := by
            rw [Array.mapM_eq_mapM_toList]
          rw [this, Sem.run_map, hpl]; rfl
        have hpt : (parts.map fun p => (p.1, a.eval p.2)).toList = parts.toList.map fun p => (p.1, a.eval p.2) := by simp
        have h1' : Instr.fill (fun x => (fs'.toList.map fun f => (f.offset, ((E.P.info? f.type).map (·.size)).getD 0)).toArray[x]?) z.cells (parts.toList.map fun p => (p.1, a.eval p.2)) = some (conL ρ ls).toArray := by simpa using h1
        simp only [execOp, ho, Instr.build, Sem.run_bind, hz, Result.andThen_ok, run_underlying hu, hpl', hpt, h1', Sem.run_pure]
        rfl
      · exact h.elim
    · exact h.elim
  · rename_i t len parts ho; rw [ho] at hq; cases hq
  · -- load
    rename_i t x ho
    split at h
    · rename_i ti ht
      rw [ho] at hlk
      obtain ⟨ls, h1, hok, hrun⟩ := load_quiet hΓ hW hF ht h hlk
      obtain ⟨hl, h2⟩ := chk_elim h1
      have hl := Nat.eq_of_beq_eq_true hl
      rw [lenL_eq] at hl
      cases hv : mkAV ti.kind.isAgg ls with
      | none => rw [hv] at h2; exact h2.elim
      | some v =>
        rw [hv] at h2
        refine ⟨v, mkAV_ok hv hok, h2, fun W' hlo => ?_⟩
        simp only [execOp, ho, Sem.run_bind, hrun v hv hl W' hlo, Result.andThen_ok, Sem.run_pure]
    · exact h.elim

  · rename_i t x y ho; rw [ho] at hq; cases hq
  · -- nilCheck
    rename_i x ho
    split at h
    · rename_i i off hx
      obtain ⟨he, hok⟩ := ev_con hF hx
      exact ⟨_, hok, h, fun W' hlo => (by simp [execOp, ho, he, AV.con, Leaf.con])⟩
    · rename_i ad cs off hx
      obtain ⟨he, hok⟩ := ev_con hF hx
      exact ⟨_, hok, h, fun W' hlo => (by simp [execOp, ho, he, AV.con, Leaf.con])⟩
    · exact h.elim
  · -- fieldAddr
    rename_i t x f ho
    split at h
    · rename_i o' i off hfo hx
      obtain ⟨he, hok⟩ := ev_con hF hx
      refine ⟨.one (.ptr i (off + o')), trivial, h, fun W' hlo => ?_⟩
      simp only [execOp, ho, he, AV.con, Leaf.con, Sem.run_bind, fieldOff_spec hΓ hfo, Result.andThen_ok, Sem.run_pure, addr_add (a := ⟨ρ.blk i, off, none⟩) rfl]
    · rename_i o' i off hfo hx
      obtain ⟨he, hok⟩ := ev_con hF hx
      split at h
      · rename_i n cells e sz hB
        obtain ⟨hn, h⟩ := h
        obtain ⟨g, cap, cur, hv, _⟩ := OwnRow.cell (hW.own hB).1 hn
        have hs1 : (ρ.sl i).1 = some ⟨g, 0, none⟩ := by simp only [Val.slv, Value.slice.injEq] at hv; exact hv.1
        refine ⟨.one (.optr i (off + o')), trivial, h, fun W' hlo => ?_⟩
        simp only [execOp, ho, he, AV.con, Leaf.con, hs1, Option.map_some, Sem.run_bind, fieldOff_spec hΓ hfo, Result.andThen_ok, Sem.run_pure]
        rw [addr_add (a := ⟨g, 0, none⟩) rfl, addr_add rfl, addr_add (a := ⟨g, 0, none⟩) rfl]
        simp [Nat.add_assoc]
      · exact h.elim
    · rename_i o' ad cs off hfo hx
      obtain ⟨he, hok⟩ := ev_con hF hx
      have hsp : ad.spot = none := (show MemReads m ad cs from hok).1
      refine ⟨.one (.rd ad cs (off + o')), hok, h, fun W' hlo => ?_⟩
      simp only [execOp, ho, he, AV.con, Leaf.con, Sem.run_bind, fieldOff_spec hΓ hfo, Result.andThen_ok, Sem.run_pure]
      rw [addr_add hsp, addr_add rfl, addr_add hsp]
      simp [Nat.add_assoc]
    · exact h.elim
  · -- field
    rename_i t x f ho
    split at h
    · rename_i fs zero ls hs hx
      obtain ⟨he, hok⟩ := ev_con hF hx
      obtain ⟨ti, ht, hk, rfl⟩ := structFields_spec hΓ hs
      split at h
      · rename_i o' t' hf
        split at h
        · rename_i te hte
          obtain ⟨fs', hu, hmap⟩ := (hΓ t ti ht).struct_ hk
          have hTe := hΓ t' te hte
          rw [takeL_eq, dropL_eq] at h
          cases hv : mkAV te.kind.isAgg ((ls.drop o').take te.size) with
          | none => rw [hv] at h; exact h.elim
          | some v =>
            rw [hv] at h
            refine ⟨_, (mkAV_ok hv (okL_take (okL_drop hok))), h, fun W' hlo => ?_⟩
            have hmk := mkAV_con (ρ := ρ) hv
            rw [← hmap, List.getElem?_map] at hf
            cases hff : fs'.toList[f]? with
            | none => rw [hff] at hf; cases hf
            | some fd =>
              rw [hff] at hf
              simp only [Option.map_some, Option.some.injEq, Prod.mk.injEq] at hf
              have hff' : fs'[f]? = some fd := by simpa using hff
              have hpart : (part t' (conL ρ ls).toArray o').run E.P W' = .ok (v.con ρ) W' := by
                simp only [part, Sem.run_bind, hTe.run_isAgg, Result.andThen_ok]
                cases hg : te.kind.isAgg with
                | true =>
                  rw [hg] at hmk
                  simp only [mkV, Option.some.injEq] at hmk
                  simp only [if_true, Sem.run_bind, hTe.run_sizeOf, Result.andThen_ok, Sem.run_pure]
                  rw [← hmk]
                  congr 2
                  apply Array.ext'
                  simp [conL, List.map_take, List.map_drop, List.extract_eq_take_drop]
                | false =>
                  rw [hg] at hmk hv
                  match hls : (ls.drop o').take te.size, hmk, hv with
                  | [l], hmk, hv =>
                    simp only [mkV, conL, List.map_cons, List.map_nil, Option.some.injEq] at hmk
                    have h0 : ((ls.drop o').take te.size)[0]? = some l := by rw [hls]; rfl
                    rw [List.getElem?_take] at h0
                    split at h0
                    · rw [List.getElem?_drop] at h0
                      simp only [Nat.add_zero] at h0
                      have : (conL ρ ls).toArray[o']? = some (l.con ρ) := by simp [conL, h0]
                      simp [this, hmk]
                    · cases h0
              simp only [execOp, ho, Instr.field, Sem.run_bind, run_underlying hu, Result.andThen_ok, hff', he, AV.con, asAgg, Sem.run_pure]
              rw [hf.1, hf.2, hpart]
              rfl
        · exact h.elim
      · exact h.elim
    · exact h.elim
  · -- indexAddr
    rename_i t x i ho
    split at h
    · rename_i e te A n c k z hse hx hi
      obtain ⟨hex, _⟩ := ev_con hF hx
      obtain ⟨hei, _⟩ := ev_con hF hi
      obtain ⟨hu, hE, _⟩ := sliceElem_spec hΓ hse
      obtain ⟨j, ad, cs, hz, hj, hA, hm, h⟩ := h
      subst hz hA
      refine ⟨.one (.rd (ad.add (j * te.size)) cs 0), hm, h, fun W' hlo => ?_⟩
      have h1 : (0 : Int) ≤ (j : Int) ∧ (j : Int) < (n : Int) := by omega
      have hadd : (ad.add (j * te.size)).add 0 = ad.add (j * te.size) := rfl
      simp [execOp, ho, hex, hei, AV.con, Leaf.con, Instr.indexAt, asIntOf, run_underlying hu, h1, hE.run_sizeOf, hadd, hj]
    · rename_i e te j k z hse hx hi
      obtain ⟨hex, _⟩ := ev_con hF hx
      obtain ⟨hei, _⟩ := ev_con hF hi
      obtain ⟨hu, hE, _⟩ := sliceElem_spec hΓ hse
      split at h
      · rename_i n cells e' sz hB
        obtain ⟨hsz, h1⟩ := chk_elim h
        obtain ⟨i', hz, hn, h2⟩ := h1
        subst hz
        have hown := (hW.own hB).1
        obtain ⟨g, cap, cur, hv, _⟩ := OwnRow.cell hown (by omega)
        have hs : ρ.sl j = (some ⟨g, 0, none⟩, n, cap + 1) := by
          simp only [Val.slv, Value.slice.injEq] at hv
          exact Prod.ext hv.1 (Prod.ext hv.2.1 hv.2.2)
        refine ⟨.one (.optr j (i' * te.size)), trivial, h2, fun W' hlo => ?_⟩
        have h1 : (0 : Int) ≤ (i' : Int) ∧ (i' : Int) < (n : Int) := by omega
        simp [execOp, ho, hex, hei, AV.con, Leaf.con, Val.slv, hs, Instr.indexAt, asIntOf, run_underlying hu, h1, hE.run_sizeOf, hn]
      · exact h.elim
    · exact h.elim
  · -- index
    rename_i t x i ho
    split at h
    · rename_i s k z hstr hx hi
      obtain ⟨hex, _⟩ := ev_con hF hx
      obtain ⟨hei, _⟩ := ev_con hF hi
      have hu := isString_spec hΓ hstr
      obtain ⟨j, hj, hz, h⟩ := h
      subst hz
      refine ⟨.one (.v (.int .u8 ((s[j]'hj).toNat : Int))), rfl, h, fun W' hlo => ?_⟩
      simp [execOp, ho, hex, hei, AV.con, Leaf.con, Instr.index, asIntOf, run_underlying hu, hj]
    · exact h.elim
  · -- binOp
    rename_i op t x y yt ho
    obtain ⟨v, h1, h2, h3⟩ := bin_quiet hΓ hW hF h
    refine ⟨v, h1, h2, fun W' hlo => ?_⟩
    simp only [execOp, ho]
    rw [Sem.run_bind, h3 W']
    rfl

  · -- unOp
    rename_i op t x ho
    split at h
    · rename_i b hx
      obtain ⟨he, hok⟩ := ev_con hF hx
      exact ⟨.one (.kb (!b)), trivial, h, fun W' hlo => (by simp [execOp, ho, he, AV.con, Leaf.con, Op.unary])⟩
    · rename_i b hx
      obtain ⟨he, hok⟩ := ev_con hF hx
      exact ⟨boolLeaf (!b), rfl, h, fun W' hlo => (by simp [execOp, ho, he, AV.con, Leaf.con, Op.unary, boolLeaf])⟩
    · rename_i k z hx
      obtain ⟨he, hok⟩ := ev_con hF hx
      obtain ⟨r, hr, h⟩ := h
      refine ⟨.one (.v (.int k r)), rfl, h, fun W' hlo => ?_⟩
      simp only [Int.zero_sub] at hr
      simp [execOp, ho, he, AV.con, Leaf.con, Op.unary, Op.intArith, hr]
    · exact h.elim
  · rename_i s t x ho; rw [ho] at hq; cases hq
  · -- extract
    rename_i x i ho
    split at h
    · rename_i vs hx
      obtain ⟨he, hok⟩ := ev_con hF hx
      have hvs : ∀ p, vs[i]? = some p → (∀ W, (execOp a.eval o).run E.P W = .ok (.value (partCon ρ p)) W) ∧ okL m p.2 := by
        intro p hp
        refine ⟨?_, (show ∀ p ∈ vs, okL m p.2 from hok) p (List.mem_of_getElem? hp)⟩
        intro W
        simp [execOp, ho, he, AV.con, Instr.extract, hp]
      split at h
      · rename_i ls hp
        obtain ⟨h1, h2⟩ := hvs _ hp
        exact ⟨.agg ls, h2, h, fun W' hlo => h1 W'⟩
      · rename_i l hp
        obtain ⟨h1, h2⟩ := hvs _ hp
        exact ⟨.one l, h2 l (by simp), h, fun W' hlo => h1 W'⟩
      · exact h.elim
    · exact h.elim
  · -- makeFunc
    rename_i f first caps ho
    split at h
    · rename_i vs hf hx
      obtain ⟨hev, hok⟩ := evs_con hF hx
      have hfirst : first = #[] := by apply Array.ext'; rw [hf]
      have hcaps : caps.map a.eval = (vs.map (AV.con ρ)).toArray := by
        apply Array.ext'
        rw [Array.toList_map, hev]
      split at h
      · refine ⟨.one (.fn f []), (fun c hc => by cases hc), h, fun W' hlo => ?_⟩
        simp [execOp, ho, Instr.makeFunc, hfirst, hcaps, AV.con, Leaf.con]
      · rename_i i off
        refine ⟨.one (.fn f [.ptr i off]), (fun c hc => by simp at hc; subst hc; trivial), h, fun W' hlo => ?_⟩
        simp [execOp, ho, Instr.makeFunc, hfirst, hcaps, AV.con, Leaf.con, Cap.con]
      · rename_i i off i2 off2
        refine ⟨.one (.fn f [.ptr i off, .ptr i2 off2]), (fun c hc => by simp at hc; rcases hc with rfl | rfl <;> trivial), h, fun W' hlo => ?_⟩
        simp [execOp, ho, Instr.makeFunc, hfirst, hcaps, AV.con, Leaf.con, Cap.con]
      · exact h.elim
    · exact h.elim
  · -- slice
    rename_i t x lo hi ho
    split at h
    · rename_i s hstr hx
      obtain ⟨he, hok⟩ := ev_con hF hx
      have hu := isString_spec hΓ hstr
      obtain ⟨l, h', hlh, hhs, hlo0, hhi, h⟩ := h
      refine ⟨.one (.v (.string (s.extract l h'))), rfl, h, fun W' hlo => ?_⟩
      have hb := run_sliceBounds (W := W') (isSlice := false) hF hlh hhs hlo0 hhi
      simp [execOp, ho, he, AV.con, Leaf.con, Instr.sliceAt, Instr.slice, run_underlying hu, hb]
    · rename_i e te A n c hstr hse hx
      obtain ⟨he, hok⟩ := ev_con hF hx
      obtain ⟨hu, hE, _⟩ := sliceElem_spec hΓ hse
      obtain ⟨l, h', hlh, hhs, hlo0, hhi, h⟩ := h
      refine ⟨.one (.v (.slice (if c = l then A else A.map (·.add (l * te.size))) (h' - l) (c - l))), rfl, h, fun W' hlo => ?_⟩
      have hb := run_sliceBounds (W := W') (isSlice := true) hF hlh hhs hlo0 hhi
      simp [execOp, ho, he, AV.con, Leaf.con, Instr.sliceAt, Instr.slice, run_underlying hu, hb, hE.run_sizeOf]
    · exact h.elim
  · -- call
    rename_i c ho
    rw [ho] at hq
    split at h
    · rename_i hh
      exfalso
      simp only [quietOp] at hq
      split at hq
      · rename_i hc; simp [handCall, hc] at hh
      · rename_i hc; simp [handCall, hc] at hh
      · rename_i hc; simp [handCall, hc] at hh
      · cases hq
    · obtain ⟨v, h1, h2, h3⟩ := callK_quiet hΓ hW hF ho hq h
      exact ⟨v, h1, h2, fun W' _ => h3 W'⟩

  · exfalso
    revert hq
    unfold quietOp
    split <;> first | (intro hq; cases hq; done) | (rename_i hx; intro _; grind)
end
end Vc
end
